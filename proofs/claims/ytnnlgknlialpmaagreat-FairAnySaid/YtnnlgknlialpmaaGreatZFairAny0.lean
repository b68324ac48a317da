/- A part of proofs about one program. -/
import Derived.Test.YtnnlgknlialpmaaGreatProg
import Derived.Test.YtnnlgknlialpmaaGreatZFairAnyStC
import Derived.Test.YtnnlgknlialpmaaGreatZFairAnyMod
import Derived.Test.YtnnlgknlialpmaaGreatZFairAnyWin2
set_option linter.unusedVariables false
namespace Go.Proofs
open Go.AF
noncomputable def Cx : Ctx := ⟨Tryz.prog, 255⟩
theorem good : Cx.Good := by
 refine ⟨?_, by kernel_rfl⟩
 have h : (List.range 253).all (fun g => oY Tryz.prog (g + 2)) = true := by kernel_rfl
 intro g hg
 have h1 : g < 255 := hg.2
 have := List.all_eq_true.1 h (g - 2) (List.mem_range.2 (by omega))
 have e : g - 2 + 2 = g := by omega
 simp only [e] at this
 exact this
def sy : List Nat → Ex → Ex
 | [], e => e
 | i :: l, e => .step i (sy l e)
abbrev aA (t : Nat) (A : Option Addr) (n c : Nat) (B : Option Addr) (m d : Nat) (M : Mem) (K : Value → Mem → Prop) (Kp : List PanicEntry → Mem → Prop) : Prop := aY Tryz.prog (Go.Builtin.append_ #[t, t] t #[.slice A n c, .slice B m d]) M K Kp
theorem vw {f : FuncId} {fn : Func} {args : List Value} {M : Mem} {K : Value → Mem → Prop} {Kp : List PanicEntry → Mem → Prop} (H : List (Nat × Hint)) (hf : Cx.P.funcs[f]? = some fn) {vc : Prop} (h : vc) (h1 : xO fn args.length = true := by kernel_rfl)
  (h2 : vc = dI Cx H Kp (eH fn) 0 (JP Cx.P fn K) (fS args) M := by kernel_rfl) : aa Cx.P f args.toArray M K Kp := cu (C := Cx) good H hf h1 h2 h
end Go.Proofs
namespace Go.Proofs
open Go.AF
set_option maxRecDepth 100000
variable {M : Mem} {K : Value → Mem → Prop} {Kp : List PanicEntry → Mem → Prop}
theorem CO {x0 : Int} (h :
bh M (cl [(iV (if (16 : Int) < (if (0 : Int) > x0 then 0 else x0) then 16 else (if (0 : Int) > x0 then 0 else x0))), (.slice none 0 0), (.slice none 0 0), (.slice none 0 0), (.bool false)] 305) fun k1 M2 =>
K (.pointer (some ⟨k1, 0, none⟩)) M2) :
 aa Tryz.prog 113 #[.int .i64 x0] M K Kp := vw [] Tryz.func113 h
theorem nC {b0 o0 : Nat} {cU : Int} {cV : Int} {cW : Int} (h :
bh M (cl [(iV cU), (iV cV), (iV cW)] 280) fun k1 M2 =>
rS M2 b0 (o0 + 3) fun A3 k4 k5 =>
lX M2 k1 0 fun n6 n7 n8 =>
bh M2 (cl [(iV n6), (iV n7), (iV n8)] 280) fun k9 iU =>
aA 195 A3 k4 k5 (some ⟨k9, 0, none⟩) 1 1 iU (fun v11 sg =>
aB (some v11) fun DE jH iW =>
sT sg b0 (o0 + 3) (.slice DE jH iW) fun fq =>
K (.tuple #[]) fq) Kp) :
 aa Tryz.prog 235 #[.pointer (some ⟨b0, o0, none⟩), .agg #[.int .i64 cU, .int .i64 cV, .int .i64 cW]] M K Kp := vw [(1, .bQ [0, 0, 2, 6, 14, 0, 32, 126, 255, 511, 1023] (sy [0, 1, 2, 3, 4, 5, 6, 7, 8, 9, 10] .done))] Tryz.func235 h
theorem nD {b0 o0 : Nat} {cU : Int} {cV : Int} {cW : Int} (h :
bh M (cl [(iV cU), (iV cV), (iV cW)] 280) fun k1 M2 =>
rS M2 b0 (o0 + 2) fun A3 k4 k5 =>
lX M2 k1 0 fun n6 n7 n8 =>
bh M2 (cl [(iV n6), (iV n7), (iV n8)] 280) fun k9 iU =>
aA 195 A3 k4 k5 (some ⟨k9, 0, none⟩) 1 1 iU (fun v11 sg =>
aB (some v11) fun DE jH iW =>
sT sg b0 (o0 + 2) (.slice DE jH iW) fun fq =>
K (.tuple #[]) fq) Kp) :
 aa Tryz.prog 236 #[.pointer (some ⟨b0, o0, none⟩), .agg #[.int .i64 cU, .int .i64 cV, .int .i64 cW]] M K Kp := vw [(1, .bQ [0, 0, 2, 6, 14, 0, 32, 126, 255, 511, 1023] (sy [0, 1, 2, 3, 4, 5, 6, 7, 8, 9, 10] .done))] Tryz.func236 h
theorem sJ {b0 o0 : Nat} {x1 : Int} (h :
bh M kA fun k1 M2 =>
rB M2 b0 (o0 + 4) fun t3 =>
aO t3
 (sT M2 k1 0 (iV 0) fun M4 =>
 sT M4 k1 1 (iV 0) fun M5 =>
 sT M5 k1 2 (iV 0) fun M6 =>
 lX M6 k1 0 fun n7 n8 n9 =>
 K (.tuple #[(.agg #[(iV n7), (iV n8), (iV n9)]), (.bool false), (iV 10)]) M6)
 (rS M2 b0 (o0 + 3) fun FF fu gY =>
 aO (decide ((fu : Int) > 0))
 (bh M2 kA fun eK oh =>
 rS oh b0 (o0 + 3) fun wS fH fx =>
 aa Tryz.prog 250 #[(.slice wS fH fx)] oh (fun En jB =>
 ∃ gd sK wT : Int, ∃ A23 : Option Addr, ∃ vg qP : Nat, (En = (.tuple #[(.agg #[(iV gd), (iV sK), (iV wT)]), (.slice A23 vg qP)])) ∧
 Io jB eK (iV gd) (iV sK) (iV wT) fun vK =>
 sT vK b0 (o0 + 3) (.slice A23 vg qP) fun oS =>
 sT oS eK 2 (iV x1) fun uj =>
 lX uj eK 0 fun si n32 sL =>
 Io uj k1 (iV si) (iV n32) (iV sL) fun Ak =>
 lX Ak k1 0 fun Eo J1 J2 =>
 K (.tuple #[(.agg #[(iV Eo), (iV J1), (iV J2)]), (.bool true), (iV 0)]) Ak) Kp)
 (rS M2 b0 (o0 + 1) fun XQ It Lw =>
 rI M2 b0 o0 fun Ep =>
 aO (decide ((It : Int) < Ep))
 (rS M2 b0 (o0 + 1) fun A44 FG ML =>
 bh M2 (cl [(iV x1)] 2) fun TI MM =>
 aA 53 A44 FG ML (some ⟨TI, 0, none⟩) 1 1 MM (fun J3 xS =>
 aB (some J3) fun Qj sM qB =>
 sT xS b0 (o0 + 1) (.slice Qj sM qB) fun Qk =>
 Io Qk k1 (iV 0) (iV 0) (iV 0) fun MN =>
 lX MN k1 0 fun CP tK MO =>
 K (.tuple #[(.agg #[(iV CP), (iV tK), (iV MO)]), (.bool false), (iV 0)]) MN) Kp)
 (sT M2 k1 0 (iV 0) fun DF =>
 sT DF k1 1 (iV 0) fun vj =>
 sT vj k1 2 (iV 0) fun Al =>
 lX Al k1 0 fun n64 xT Sn =>
 K (.tuple #[(.agg #[(iV n64), (iV xT), (iV Sn)]), (.bool false), (iV 6)]) Al)))) :
 aa Tryz.prog 237 #[.pointer (some ⟨b0, o0, none⟩), .int .i64 x1] M K Kp := vw [(8, .bQ [0, 1, 3, 7, 15, 0, 32, 96, 224, 511, 1023] (sy [0, 1, 2, 5, 6, 7, 3, 4, 8, 9, 10] .done))] Tryz.func237 h
theorem sN {b0 o0 : Nat} (h :
bh M nA fun k1 M2 =>
bh M2 nA fun k3 M4 =>
rS M4 b0 (o0 + 2) fun A5 k6 k7 =>
∃ J8 : List Value → Mem → Prop, (aO (decide ((k6 : Int) > 0))
 (rS M4 b0 (o0 + 2) fun A9 gh fu =>
 aa Tryz.prog 250 #[(.slice A9 gh fu)] M4 (fun Im mG =>
 ∃ lY kZ nh : Int, ∃ Py : Option Addr, ∃ fI jI : Nat, (Im = (.tuple #[(.agg #[(iV lY), (iV kZ), (iV nh)]), (.slice Py fI jI)])) ∧
 sT mG k3 2 (iV lY) fun vL =>
 sT vL k3 (2 + 1) (iV kZ) fun ov =>
 sT ov k3 (2 + 2) (iV nh) fun dP =>
 sT dP b0 (o0 + 2) (.slice Py fI jI) fun mj =>
 sT mj k3 5 (.bool true) fun j6 =>
 rS j6 b0 (o0 + 1) fun XR sj Am =>
 rI j6 k3 (2 + 2) fun wU =>
 bh j6 (cl [(iV wU)] 2) fun iq uj =>
 aA 53 XR sj Am (some ⟨iq, 0, none⟩) 1 1 uj (fun TJ sk =>
 aB (some TJ) fun J4 qC BO =>
 sT sk b0 (o0 + 1) (.slice J4 qC BO) fun Ak =>
 J8 [] Ak) Kp) Kp)
 (J8 [] M4)) ∧
∀ junk37 : Nat → Value, ∀ lZ : Mem, (J8 [] lZ) → rS lZ b0 (o0 + 1) fun A39 FH It =>
aO (decide ((FH : Int) > 0))
 (rS lZ b0 (o0 + 1) fun Ql yM Gq =>
 ((0 : Int) ≤ 0) ∧
 ((0 : Int) < yM) ∧
 aF Ql fun FG ML =>
 rI lZ FG (ML + 0) fun xq =>
 sT2 lZ k3 (iV xq) (.bool true) fun yN =>
 bh yN (cl [] 2) fun MP So =>
 rS So b0 (o0 + 1) fun A52 qB J5 =>
 ((0 : Int) ≤ J5) ∧
 ((J5 : Int) ≤ J5) ∧
 ((0 : Int) ≤ qB) ∧
 ((qB : Int) ≤ J5) ∧
 ((0 : Int) ≤ 1) ∧
 ((1 : Int) ≤ qB) ∧
 aY Tryz.prog (Go.Builtin.append_ #[53, 53] 53 #[(.slice (some ⟨MP, 0, none⟩) 0 0), (.slice (lp A52 1 (Int.toNat (J5 : Int)) 1) ((Int.toNat (qB : Int)) - 1) ((Int.toNat (J5 : Int)) - 1))]) So (fun XS XT =>
 aB (some XS) fun A57 Gr XU =>
 sT XT b0 (o0 + 1) (.slice A57 Gr XU) fun pD =>
 xQ pD k3 0 fun J6 t62 Gs n64 xT t66 =>
 sT6 pD k1 (iV J6) (.bool t62) (iV Gs) (iV n64) (iV xT) (.bool t66) fun Sp =>
 xQ Sp k1 0 fun XV t74 CQ J7 CR t78 =>
 K (.tuple #[(.agg #[(iV XV), (.bool t74), (iV CQ), (iV J7), (iV CR), (.bool t78)]), (iV 0)]) Sp) Kp)
 (rB lZ b0 (o0 + 4) fun t79 =>
 aO t79
 (rI lZ k3 0 fun XW =>
 rB lZ k3 1 fun t81 =>
 rI lZ k3 2 fun Lx =>
 rI lZ k3 3 fun Sq =>
 rI lZ k3 4 fun Iu =>
 rB lZ k3 5 fun t85 =>
 sT6 lZ k1 (iV XW) (.bool t81) (iV Lx) (iV Sq) (iV Iu) (.bool t85) fun lj =>
 xQ lj k1 0 fun XX t93 Qm Ka Kb t97 =>
 K (.tuple #[(.agg #[(iV XX), (.bool t93), (iV Qm), (iV Ka), (iV Kb), (.bool t97)]), (iV 0)]) lj)
 (rI lZ k3 0 fun Sr =>
 rB lZ k3 1 fun t99 =>
 rI lZ k3 2 fun qQ =>
 rI lZ k3 3 fun MQ =>
 rI lZ k3 4 fun MR =>
 rB lZ k3 5 fun t103 =>
 sT6 lZ k1 (iV Sr) (.bool t99) (iV qQ) (iV MQ) (iV MR) (.bool t103) fun uk =>
 xQ uk k1 0 fun MS t111 yO MT MU t115 =>
 K (.tuple #[(.agg #[(iV MS), (.bool t111), (iV yO), (iV MT), (iV MU), (.bool t115)]), (iV 5)]) uk))) :
 aa Tryz.prog 239 #[.pointer (some ⟨b0, o0, none⟩)] M K Kp := vw [(3000010, .cut []), (5, .bQ [0, 0, 2, 6, 14, 0, 32, 96, 224, 510, 1023, 2047, 4095] (sy [0, 1, 2, 3, 5, 6, 4, 7, 8, 9, 10, 11, 12] .done))] Tryz.func239 h
theorem qR {b0 o0 : Nat} (h :
rB M b0 (o0 + 4) fun t1 =>
aO t1
 (K (.tuple #[(.slice none 0 0), (.slice none 0 0), (iV 10)]) M)
 (rS M b0 (o0 + 3) fun A2 k3 k4 =>
 rS M b0 (o0 + 2) fun A5 k6 k7 =>
 sT M b0 (o0 + 4) (.bool true) fun M8 =>
 sT M8 b0 (o0 + 3) (.slice none 0 0) fun M9 =>
 sT M9 b0 (o0 + 2) (.slice none 0 0) fun iU =>
 K (.tuple #[(.slice A2 k3 k4), (.slice A5 k6 k7), (iV 0)]) iU)) :
 aa Tryz.prog 243 #[.pointer (some ⟨b0, o0, none⟩)] M K Kp := vw [(3, .bQ [0, 1, 3, 7, 0, 16, 48, 112, 15, 511] (sy [0, 1, 2, 4, 5, 6, 3, 8, 7, 9] .done))] Tryz.func243 h
theorem ox {b0 o0 : Nat} (h :
rB M b0 (o0 + 4) fun t1 =>
aO t1
 (K (.bool true) M)
 (rS M b0 (o0 + 2) fun A2 k3 k4 =>
 aO (decide ((k3 : Int) > 0))
 (K (.bool true) M)
 (rS M b0 (o0 + 1) fun A5 k6 k7 =>
 K (.bool (decide ((k6 : Int) > 0))) M))) :
 aa Tryz.prog 248 #[.pointer (some ⟨b0, o0, none⟩)] M K Kp := vw [] Tryz.func248 h
theorem oy {b0 o0 : Nat} (h :
rB M b0 (o0 + 4) fun t1 =>
aO t1
 (K (.bool true) M)
 (rS M b0 (o0 + 3) fun A2 k3 k4 =>
 aO (decide ((k3 : Int) > 0))
 (K (.bool true) M)
 (rS M b0 (o0 + 1) fun A5 k6 k7 =>
 rI M b0 o0 fun n8 =>
 K (.bool (decide ((k6 : Int) < n8))) M))) :
 aa Tryz.prog 249 #[.pointer (some ⟨b0, o0, none⟩)] M K Kp := vw [(1, .bQ [0, 1, 3, 7, 15, 31, 63, 127, 255, 511, 1023, 2047, 4095, 8191, 16383, 32767, 65535, 131071, 8191, 270335, 794623, 1843199, 4194303, 8388607, 16777215] (sy [0, 1, 2, 3, 4, 5, 6, 7, 8, 9, 10, 11, 12, 13, 14, 15, 18, 19, 20, 16, 17, 21, 22, 23, 24] .done))] Tryz.func249 h
theorem yP {B0 : Option Addr} {m0 c0 : Nat} (h :
bh M kA fun k1 M2 =>
((0 : Int) ≤ 0) ∧
((0 : Int) < m0) ∧
aF B0 fun k3 k4 =>
((0 : Int) ≤ c0) ∧
((c0 : Int) ≤ c0) ∧
((0 : Int) ≤ m0) ∧
((m0 : Int) ≤ c0) ∧
((0 : Int) ≤ 1) ∧
((1 : Int) ≤ m0) ∧
lX M2 k3 (k4 + 0) fun n5 n6 n7 =>
bh M2 (cl [] 280) fun k8 M9 =>
aY Tryz.prog (Go.Builtin.append_ #[195, 195] 195 #[(.slice (some ⟨k8, 0, none⟩) 0 0), (.slice (lp B0 1 (Int.toNat (c0 : Int)) 3) ((Int.toNat (m0 : Int)) - 1) ((Int.toNat (c0 : Int)) - 1))]) M9 (fun v10 jJ =>
aB (some v10) fun An eK jH =>
((Mem.iS jJ ⟨k3, (k4 + 0), none⟩ 0 3) = some [(iV n5), (iV n6), (iV n7)]) ∧
Io jJ k1 (iV n5) (iV n6) (iV n7) fun oz =>
((Mem.iS oz ⟨k3, (k4 + 0), none⟩ 0 3) = some [(iV n5), (iV n6), (iV n7)]) ∧
lX oz k1 0 fun lq yQ gd =>
K (.tuple #[(.agg #[(iV lq), (iV yQ), (iV gd)]), (.slice An eK jH)]) oz) Kp) :
 aa Tryz.prog 250 #[.slice B0 m0 c0] M K Kp := vw [(1, .bQ [0, 1, 3, 0, 0, 16, 56, 127, 255] (sy [0, 1, 4, 5] (.dD 2 (sy [3, 6, 7, 8] .done))))] Tryz.func250 h
theorem sO {b0 o0 : Nat} {x1 : Int} (h :
rS M b0 (o0 + 2) fun A1 k2 k3 =>
(aa Tryz.prog 254 #[(.slice A1 k2 k3), (iV x1)] M (fun v4 M5 =>
 aB (some v4) fun A6 k7 k8 =>
 rS M5 b0 (o0 + 3) fun A9 gh fu =>
 aa Tryz.prog 254 #[(.slice A9 gh fu), (iV x1)] M5 (fun Im mG =>
 aB (some Im) fun oT iW fH =>
 sT mG b0 (o0 + 2) (.slice A6 k7 k8) fun oz =>
 sT oz b0 (o0 + 3) (.slice oT iW fH) fun um =>
 K (.tuple #[]) um) Kp) Kp) ∧
(rS M b0 (o0 + 3) fun FJ lF fQ =>
 aa Tryz.prog 254 #[(.slice A1 k2 k3), (iV x1)] M (fun Kc mj =>
 aB (some Kc) fun Ly qP sj =>
 aa Tryz.prog 254 #[(.slice FJ lF fQ), (iV x1)] mj (fun Qn vK =>
 aB (some Qn) fun Su mH qD =>
 sT vK b0 (o0 + 2) (.slice Ly qP sj) fun sk =>
 sT sk b0 (o0 + 3) (.slice Su mH qD) fun Ao =>
 K (.tuple #[]) Ao) Kp) Kp) ∧
True) :
 aa Tryz.prog 253 #[.pointer (some ⟨b0, o0, none⟩), .int .i64 x1] M K Kp := vw [(0, .bQ [0, 0, 0, 4, 12, 28, 0, 124, 0, 256, 768, 1792, 0, 8188, 16381, 32765, 65533, 131071, 262143, 524287] (sy [0, 1, 2, 3, 4, 6, 8, 9, 10, 12, 5] (.fork 7 (sy [11, 13, 14, 15, 16, 17, 18, 19] .done) (.fork 11 (sy [7, 13, 14, 15, 16, 17, 18, 19] .done) .dead))))] Tryz.func253 h
theorem vM {B0 : Option Addr} {m0 c0 : Nat} {x1 : Int} (h :
∃ I1 : IT, (∃ k2, I1 k2 [(.slice none 0 0), (iV 0)] M) ∧
∀ (k3 : Nat) (_ : Nat → Value) (A5 : Option Addr) (k6 : Nat) (k7 : Nat) (n8 : Int) (M9 : Mem), (I1 k3 [(.slice A5 k6 k7), (iV n8)] M9) → aO (decide (n8 < m0))
 ((0 ≤ n8) ∧
 (n8 < m0) ∧
 aF B0 fun gh fu =>
 lX M9 gh (fu + ((Int.toNat n8) * 3)) fun jK j7 lY =>
 bh M9 kA fun iW fq =>
 Io fq iW (iV jK) (iV j7) (iV lY) fun jB =>
 rI jB iW 0 fun gd =>
 aO (gd != x1)
 (rI jB iW 0 fun sK =>
 rI jB iW 1 fun wT =>
 rI jB iW 2 fun qS =>
 bh jB (cl [(iV sK), (iV wT), (iV qS)] 280) fun vg Iv =>
 aA 195 A5 k6 k7 (some ⟨vg, 0, none⟩) 1 1 Iv (fun XY xU =>
 aB (some XY) fun TK iq mH =>
 ∃ qD : Nat, (qD < k3) ∧
 I1 qD [(.slice TK iq mH), (iV (IntKind.wrap .i64 (n8 + 1)))] xU) Kp)
 (∃ uo : Nat, (uo < k3) ∧
 I1 uo [(.slice A5 k6 k7), (iV (IntKind.wrap .i64 (n8 + 1)))] jB))
 (K (.slice A5 k6 k7) M9)) :
 aa Tryz.prog 254 #[.slice B0 m0 c0, .int .i64 x1] M K Kp := vw [(2000000, .loop [(5, .c .sl), (10, .c (.int .i64))])] Tryz.func254 h
end Go.Proofs
namespace Go.Proofs
open Go.AF
set_option maxRecDepth 100000
set_option maxHeartbeats 1000000
attribute [local irreducible] aJ de fm cy aB dZ aF aK bh aY bA aO
theorem CS : bn Tryz.prog 53 2 1 8 [.int .i64 0] := bn.mk' (zv := .int .i64 0) (by kernel_rfl) (by kernel_rfl) rfl (by omega)
theorem xV : bn Tryz.prog 195 280 3 24 [.int .i64 0, .int .i64 0, .int .i64 0] := bn.mk' (zv := .agg #[.int .i64 0, .int .i64 0, .int .i64 0]) (by kernel_rfl) (by kernel_rfl) rfl (by omega)
abbrev yR (A : Option Addr) (c : Nat) (l : List Int) : HP := bR bB 2 A c l
abbrev uq (A : Option Addr) (c : Nat) (l : List Wt) : HP := bR iY 280 A c l
abbrev ir (c : aT) (Ab : Option Addr) (cb : Nat) (As : Option Addr) (cs : Nat) (Ar : Option Addr) (cr : Nat) : List Value :=
 [.int .i64 (c.room : Int), .slice Ab c.buf.length cb, .slice As c.snd.length cs, .slice Ar c.eB.length cr, .bool c.closed]
def bE : sG aT := ⟨fun b c => exs fun Ab : Option Addr => exs fun cb : Nat => exs fun As : Option Addr => exs fun cs : Nat => exs fun Ar : Option Addr => exs fun cr : Nat =>
 sep [pt b (ir c Ab cb As cs Ar cr) 305, yR Ab cb c.buf, uq As cs c.snd, uq Ar cr c.eB]⟩
section
variable {R : Mem} {L L' : List HP} {M : Mem} {K : Value → Mem → Prop} {Kp : List PanicEntry → Mem → Prop} {b : Nat} {c : aT}
theorem iu (h : Hp R L M) [o : bZ bE b L c L'] : ∃ Ab cb As cs Ar cr, Hp R (pt b (ir c Ab cb As cs Ar cr) 305 :: yR Ab cb c.buf :: uq As cs c.snd :: uq Ar cr c.eB :: L') M := by
 have := h.obj bE b
 simpa only [bE, Hp.di, Hp.aX, List.cons_append, List.nil_append] using this
theorem Iw {Ab As Ar : Option Addr} {cb cs cr : Nat} (h : Hp R (pt b (ir c Ab cb As cs Ar cr) 305 :: yR Ab cb c.buf :: uq As cs c.snd :: uq Ar cr c.eB :: L) M) : Hp R (az bE b c :: L) M := by
 refine Hp.vG ?_
 simp only [bE, Hp.di, Hp.aX, List.cons_append, List.nil_append]
 exact ⟨_, _, _, _, _, _, h⟩
theorem dc {Ab As Ar : Option Addr} {nb cb ns cs nr cr room : Nat} {closed : Bool} {buf : List Int} {snd eB : List Wt} {L1 L2 L3 L4 : List HP} (h : Hp R L M) (b : Nat)
  [p : kQ b L [.int .i64 (room : Int), .slice Ab nb cb, .slice As ns cs, .slice Ar nr cr, .bool closed] 305 L1] [p1 : cH Ab L1 Int bB 2 cb buf L2] [p2 : cH As L2 Wt iY 280 cs snd L3] [p3 : cH Ar L3 Wt iY 280 cr eB L4]
  (e1 : nb = buf.length := by first | rfl | simp) (e2 : ns = snd.length := by first | rfl | simp) (e3 : nr = eB.length := by first | rfl | simp) : Hp R (az bE b ⟨room, buf, snd, eB, closed⟩ :: L4) M := by
 subst e1; subst e2; subst e3
 exact Iw (h.sub (.cons p.pick (.cons p1.pick (.cons p2.pick (.cons p3.pick .refl)))))
theorem BP {room : Int} (h : Hp R L M) (k : ∀ b M', Hp R (az bE b (.new room) :: L) M' → K (.pointer (some ⟨b, 0, none⟩)) M') :
  aa Tryz.prog 113 #[.int .i64 room] M K Kp := by
 refine CO ?_
 rw [MA]
 refine aq h fun b M' h => k b M' (Iw ((((h.cC iY _).cC iY _).cC bB _).sub bD))
theorem wV {B : Option Addr} {m c : Nat} {w : Wt} {r : List Wt} (h : Hp R L M) (hB : Src R L B (iY.cells (w :: r))) (hm : m = r.length + 1) (hc : m ≤ c) (hn : m ≤ 1000000000)
  (k : ∀ A' c' M', Hp R (uq A' c' r :: L) M' → K (.tuple #[.agg #[.int .i64 w.g, .int .i64 w.cs, .int .i64 w.v], .slice A' r.length c']) M') :
  aa Tryz.prog 250 #[.slice B m c] M K Kp := by
 refine yP ?_
 obtain ⟨b, o, rfl⟩ := hB.lD h (by simp) (by decide)
 repeat (first|(refine aq h ?_;clear h;intro kb M h)|(refine au h ?_;clear h;intro M h)|refine St.to h ?_|(apply Exists.intro;(repeat apply Exists.intro);refine And.intro rfl ?_)|refine av ?_|refine ae ?_|refine ai ?_)
 refine aZ (hB.cons.at h (i := 0) (j := 0) rfl rfl (by omega)) ?_
 refine aZ (hB.cons.at h (i := 0) (j := 1) rfl rfl (by omega)) ?_
 refine aZ (hB.cons.at h (i := 0) (j := 2) rfl rfl (by omega)) ?_
 repeat (first|(refine aq h ?_;clear h;intro kb M h)|(refine au h ?_;clear h;intro M h)|refine St.to h ?_|(apply Exists.intro;(repeat apply Exists.intro);refine And.intro rfl ?_)|refine av ?_|refine ae ?_|refine ai ?_)
 have s2 := hB.drop (m := 1) (c := c) (by simp; omega)
 simp only [Int.toNat_natCast]
 refine h.j5 iY xV r s2.cons.cons (by omega) (by omega) ?_
 clear h
 intro A' c' M h
 repeat (first|(refine aq h ?_;clear h;intro kb M h)|(refine au h ?_;clear h;intro M h)|refine St.to h ?_|(apply Exists.intro;(repeat apply Exists.intro);refine And.intro rfl ?_)|refine av ?_|refine ae ?_|refine ai ?_)
 refine ⟨hB.cons.cons.iS h (i := 0) rfl (by omega), ?_⟩
 repeat (first|(refine aq h ?_;clear h;intro kb M h)|(refine au h ?_;clear h;intro M h)|refine St.to h ?_|(apply Exists.intro;(repeat apply Exists.intro);refine And.intro rfl ?_)|refine av ?_|refine ae ?_|refine ai ?_)
 refine ⟨hB.cons.cons.iS h (i := 0) rfl (by omega), ?_⟩
 repeat (first|(refine aq h ?_;clear h;intro kb M h)|(refine au h ?_;clear h;intro M h)|refine St.to h ?_|(apply Exists.intro;(repeat apply Exists.intro);refine And.intro rfl ?_)|refine av ?_|refine ae ?_|refine ai ?_)
 exact k _ _ _ h.pA
theorem AH (h : Hp R L M) [o : bZ bE b L c L'] (k : K (.bool c.ua) M) : aa Tryz.prog 249 #[.pointer (some ⟨b, 0, none⟩)] M K Kp := by
 refine oy ?_
 have h' := iu h (b := b)
 clear h
 obtain ⟨Ab, cb, As, cs, Ar, cr, h⟩ := h'
 repeat (first|(refine aq h ?_;clear h;intro kb M h)|(refine au h ?_;clear h;intro M h)|refine St.to h ?_|(apply Exists.intro;(repeat apply Exists.intro);refine And.intro rfl ?_)|refine av ?_|refine ae ?_|refine ai ?_)
 refine gD.2 ⟨fun hc => ?_, fun hc => ?_⟩
 ·rwa [aT.ua, hc] at k
 ·repeat (first|(refine aq h ?_;clear h;intro kb M h)|(refine au h ?_;clear h;intro M h)|refine St.to h ?_|(apply Exists.intro;(repeat apply Exists.intro);refine And.intro rfl ?_)|refine av ?_|refine ae ?_|refine ai ?_)
  refine aM.2 ⟨fun hr => ?_, fun hr => ?_⟩
  ·have : c.eB.isEmpty = false := by cases hc : c.eB <;> simp_all
   rwa [aT.ua, hc, this] at k
  ·repeat (first|(refine aq h ?_;clear h;intro kb M h)|(refine au h ?_;clear h;intro M h)|refine St.to h ?_|(apply Exists.intro;(repeat apply Exists.intro);refine And.intro rfl ?_)|refine av ?_|refine ae ?_|refine ai ?_)
   have : c.eB.isEmpty = true := by cases hc : c.eB <;> simp_all
   rw [aT.ua, hc, this] at k
   simpa using k
theorem AI (h : Hp R L M) [o : bZ bE b L c L'] (k : K (.bool c.uc) M) : aa Tryz.prog 248 #[.pointer (some ⟨b, 0, none⟩)] M K Kp := by
 refine ox ?_
 have h' := iu h (b := b)
 clear h
 obtain ⟨Ab, cb, As, cs, Ar, cr, h⟩ := h'
 repeat (first|(refine aq h ?_;clear h;intro kb M h)|(refine au h ?_;clear h;intro M h)|refine St.to h ?_|(apply Exists.intro;(repeat apply Exists.intro);refine And.intro rfl ?_)|refine av ?_|refine ae ?_|refine ai ?_)
 refine gD.2 ⟨fun hc => ?_, fun hc => ?_⟩
 ·rwa [aT.uc, hc] at k
 ·repeat (first|(refine aq h ?_;clear h;intro kb M h)|(refine au h ?_;clear h;intro M h)|refine St.to h ?_|(apply Exists.intro;(repeat apply Exists.intro);refine And.intro rfl ?_)|refine av ?_|refine ae ?_|refine ai ?_)
  refine aM.2 ⟨fun hr => ?_, fun hr => ?_⟩
  ·have : c.snd.isEmpty = false := by cases hc : c.snd <;> simp_all
   rwa [aT.uc, hc, this] at k
  ·repeat (first|(refine aq h ?_;clear h;intro kb M h)|(refine au h ?_;clear h;intro M h)|refine St.to h ?_|(apply Exists.intro;(repeat apply Exists.intro);refine And.intro rfl ?_)|refine av ?_|refine ae ?_|refine ai ?_)
   have : c.snd.isEmpty = true := by cases hc : c.snd <;> simp_all
   rw [aT.uc, hc, this] at k
   have e : (!c.buf.isEmpty) = decide ((c.buf.length : Int) > 0) := by cases c.buf <;> simp
   rw [← e]; simpa using k
theorem pE {w : Wt} (h : Hp R L M) [o : bZ bE b L c L'] (hs : c.Small 1000000000) (k : ∀ M', Hp R (az bE b { c with snd := c.snd ++ [w] } :: L') M' → K (.tuple #[]) M') :
  aa Tryz.prog 236 #[.pointer (some ⟨b, 0, none⟩), .agg #[.int .i64 w.g, .int .i64 w.cs, .int .i64 w.v]] M K Kp := by
 refine nD ?_
 have h' := iu h (b := b)
 clear h
 obtain ⟨Ab, cb, As, cs, Ar, cr, h⟩ := h'
 obtain ⟨h1, h2, h3⟩ := hs
 repeat (first|(refine aq h ?_;clear h;intro kb M h)|(refine au h ?_;clear h;intro M h)|refine St.to h ?_|(apply Exists.intro;(repeat apply Exists.intro);refine And.intro rfl ?_)|refine av ?_|refine ae ?_|refine ai ?_)
 refine h.bN xV [w] rfl rfl (by simp; omega) ?_
 clear h
 intro A' c' M h
 repeat (first|(refine aq h ?_;clear h;intro kb M h)|(refine au h ?_;clear h;intro M h)|refine St.to h ?_|(apply Exists.intro;(repeat apply Exists.intro);refine And.intro rfl ?_)|refine av ?_|refine ae ?_|refine ai ?_)
 exact k _ (dc h b).bW
theorem pF {w : Wt} (h : Hp R L M) [o : bZ bE b L c L'] (hs : c.Small 1000000000) (k : ∀ M', Hp R (az bE b { c with eB := c.eB ++ [w] } :: L') M' → K (.tuple #[]) M') :
  aa Tryz.prog 235 #[.pointer (some ⟨b, 0, none⟩), .agg #[.int .i64 w.g, .int .i64 w.cs, .int .i64 w.v]] M K Kp := by
 refine nC ?_
 have h' := iu h (b := b)
 clear h
 obtain ⟨Ab, cb, As, cs, Ar, cr, h⟩ := h'
 obtain ⟨h1, h2, h3⟩ := hs
 repeat (first|(refine aq h ?_;clear h;intro kb M h)|(refine au h ?_;clear h;intro M h)|refine St.to h ?_|(apply Exists.intro;(repeat apply Exists.intro);refine And.intro rfl ?_)|refine av ?_|refine ae ?_|refine ai ?_)
 refine h.bN xV [w] rfl rfl (by simp; omega) ?_
 clear h
 intro A' c' M h
 repeat (first|(refine aq h ?_;clear h;intro kb M h)|(refine au h ?_;clear h;intro M h)|refine St.to h ?_|(apply Exists.intro;(repeat apply Exists.intro);refine And.intro rfl ?_)|refine av ?_|refine ae ?_|refine ai ?_)
 exact k _ (dc h b).bW
def Sv (x : Wt × Bool × Int) : Value := .tuple #[.agg #[.int .i64 x.1.g, .int .i64 x.1.cs, .int .i64 x.1.v], .bool x.2.1, .int .i64 x.2.2]
theorem Gt {v : Int} (h : Hp R L M) [o : bZ bE b L c L'] (hs : c.Small 1000000000) (k : ∀ M', Hp R (az bE b (c.send v).1 :: L') M' → K (Sv (c.send v).2) M') :
  aa Tryz.prog 237 #[.pointer (some ⟨b, 0, none⟩), .int .i64 v] M K Kp := by
 refine sJ ?_
 obtain ⟨room, buf, snd, eB, closed⟩ := c
 obtain ⟨h1, h2, h3⟩ := hs
 have h' := iu h (b := b)
 clear h
 obtain ⟨Ab, cb, As, cs, Ar, cr, h⟩ := h'
 dsimp only [ir] at h1 h2 h3 h
 repeat (first|(refine aq h ?_;clear h;intro kb M h)|(refine au h ?_;clear h;intro M h)|refine St.to h ?_|(apply Exists.intro;(repeat apply Exists.intro);refine And.intro rfl ?_)|refine av ?_|refine ae ?_|refine ai ?_)
 refine gD.2 ⟨fun hc => ?_, fun hc => ?_⟩
 ·subst hc
  repeat (first|(refine aq h ?_;clear h;intro kb M h)|(refine au h ?_;clear h;intro M h)|refine St.to h ?_|(apply Exists.intro;(repeat apply Exists.intro);refine And.intro rfl ?_)|refine av ?_|refine ae ?_|refine ai ?_)
  exact k _ (dc h b).bW
 subst hc
 repeat (first|(refine aq h ?_;clear h;intro kb M h)|(refine au h ?_;clear h;intro M h)|refine St.to h ?_|(apply Exists.intro;(repeat apply Exists.intro);refine And.intro rfl ?_)|refine av ?_|refine ae ?_|refine ai ?_)
 refine aM.2 ⟨fun hr => ?_, fun hr => ?_⟩
 ·cases eB with
  | nil => simp at hr
  | cons w r =>
   repeat (first|(refine aq h ?_;clear h;intro kb M h)|(refine au h ?_;clear h;intro M h)|refine St.to h ?_|(apply Exists.intro;(repeat apply Exists.intro);refine And.intro rfl ?_)|refine av ?_|refine ae ?_|refine ai ?_)
   refine wV h (h.src (A := Ar)) rfl (h.jF Ar) (by simpa using h3) ?_
   clear h
   intro A' c' M h
   repeat (first|(refine aq h ?_;clear h;intro kb M h)|(refine au h ?_;clear h;intro M h)|refine St.to h ?_|(apply Exists.intro;(repeat apply Exists.intro);refine And.intro rfl ?_)|refine av ?_|refine ae ?_|refine ai ?_)
   exact k _ (dc h b).bW
 cases eB with
 | cons w r => simp at hr
 | nil =>
 simp only [aT.send, Bool.false_eq_true, if_false] at k
 repeat (first|(refine aq h ?_;clear h;intro kb M h)|(refine au h ?_;clear h;intro M h)|refine St.to h ?_|(apply Exists.intro;(repeat apply Exists.intro);refine And.intro rfl ?_)|refine av ?_|refine ae ?_|refine ai ?_)
 refine aM.2 ⟨fun hl => ?_, fun hl => ?_⟩
 ·rw [if_pos (by omega)] at k
  repeat (first|(refine aq h ?_;clear h;intro kb M h)|(refine au h ?_;clear h;intro M h)|refine St.to h ?_|(apply Exists.intro;(repeat apply Exists.intro);refine And.intro rfl ?_)|refine av ?_|refine ae ?_|refine ai ?_)
  refine h.bN CS [v] rfl rfl (by simp; omega) ?_
  clear h
  intro A' c' M h
  repeat (first|(refine aq h ?_;clear h;intro kb M h)|(refine au h ?_;clear h;intro M h)|refine St.to h ?_|(apply Exists.intro;(repeat apply Exists.intro);refine And.intro rfl ?_)|refine av ?_|refine ae ?_|refine ai ?_)
  exact k _ (dc h b).bW
 ·rw [if_neg (by omega)] at k
  repeat (first|(refine aq h ?_;clear h;intro kb M h)|(refine au h ?_;clear h;intro M h)|refine St.to h ?_|(apply Exists.intro;(repeat apply Exists.intro);refine And.intro rfl ?_)|refine av ?_|refine ae ?_|refine ai ?_)
  exact k _ (dc h b).bW
def Sw (x : Int × Bool × Wt × Bool × Int) : Value := .tuple #[.agg #[.int .i64 x.1, .bool x.2.1, .int .i64 x.2.2.1.g, .int .i64 x.2.2.1.cs, .int .i64 x.2.2.1.v, .bool x.2.2.2.1], .int .i64 x.2.2.2.2]
theorem Gu (h : Hp R L M) [o : bZ bE b L c L'] (hs : c.Small 1000000000) (k : ∀ M', Hp R (az bE b c.recv.1 :: L') M' → K (Sw c.recv.2) M') :
  aa Tryz.prog 239 #[.pointer (some ⟨b, 0, none⟩)] M K Kp := by
 refine sN ?_
 obtain ⟨room, buf, snd, eB, closed⟩ := c
 obtain ⟨h1, h2, h3⟩ := hs
 have h' := iu h (b := b)
 clear h
 obtain ⟨Ab, cb, As, cs, Ar, cr, h⟩ := h'
 dsimp only [ir] at h1 h2 h3 h
 refine aq h ?_
 clear h
 intro kr M h
 refine aq h ?_
 clear h
 intro kg M h
 repeat (first|(refine aq h ?_;clear h;intro kb M h)|(refine au h ?_;clear h;intro M h)|refine St.to h ?_|(apply Exists.intro;(repeat apply Exists.intro);refine And.intro rfl ?_)|refine av ?_|refine ae ?_|refine ai ?_)
 refine ⟨fun vs M => vs = [] ∧ ∃ Ab cb As cs, Hp R (pt kr [.int .i64 0, .bool false, .int .i64 0, .int .i64 0, .int .i64 0, .bool false] 381 ::
  pt kg [.int .i64 0, .bool false, .int .i64 (snd.headD .zero).g, .int .i64 (snd.headD .zero).cs, .int .i64 (snd.headD .zero).v, .bool (!snd.isEmpty)] 381 ::
  pt b (ir ⟨room, aT.all ⟨room, buf, snd, eB, closed⟩, snd.tail, eB, closed⟩ Ab cb As cs Ar cr) 305 :: yR Ab cb (aT.all ⟨room, buf, snd, eB, closed⟩) :: uq As cs snd.tail :: uq Ar cr eB :: L') M, ?_, ?_⟩
 ·refine aM.2 ⟨fun hr => ?_, fun hr => ?_⟩
  ·cases snd with
   | nil => simp at hr
   | cons w r =>
    repeat (first|(refine aq h ?_;clear h;intro kb M h)|(refine au h ?_;clear h;intro M h)|refine St.to h ?_|(apply Exists.intro;(repeat apply Exists.intro);refine And.intro rfl ?_)|refine av ?_|refine ae ?_|refine ai ?_)
    refine wV h (h.src (A := As)) rfl (h.jF As) (by simpa using h2) ?_
    clear h
    intro A' c' M h
    repeat (first|(refine aq h ?_;clear h;intro kb M h)|(refine au h ?_;clear h;intro M h)|refine St.to h ?_|(apply Exists.intro;(repeat apply Exists.intro);refine And.intro rfl ?_)|refine av ?_|refine ae ?_|refine ai ?_)
    refine h.bN CS [w.v] rfl rfl (by simp; omega) ?_
    clear h
    intro A2 c2 M h
    repeat (first|(refine aq h ?_;clear h;intro kb M h)|(refine au h ?_;clear h;intro M h)|refine St.to h ?_|(apply Exists.intro;(repeat apply Exists.intro);refine And.intro rfl ?_)|refine av ?_|refine ae ?_|refine ai ?_)
    exact ⟨A2, c2, A', c', h.sub bD⟩
  ·cases snd with
   | cons w r => simp at hr
   | nil => exact ⟨rfl, Ab, cb, As, cs, h.sub bD⟩
 clear h
 rintro _ M ⟨_, Ab, cb, As, cs, h⟩
 unfold aT.recv at k
 dsimp only at k
 have gP : (aT.all ⟨room, buf, snd, eB, closed⟩).length ≤ 1000000001 := by unfold aT.all; split <;> simp <;> omega
 have P7 : aT.all ⟨room, buf, snd, eB, closed⟩ = [] → snd = [] ∧ buf = [] := by unfold aT.all; dsimp only; cases snd <;> simp
 generalize aT.all ⟨room, buf, snd, eB, closed⟩ = all at h k gP P7
 dsimp only [ir] at h
 repeat (first|(refine aq h ?_;clear h;intro kb M h)|(refine au h ?_;clear h;intro M h)|refine St.to h ?_|(apply Exists.intro;(repeat apply Exists.intro);refine And.intro rfl ?_)|refine av ?_|refine ae ?_|refine ai ?_)
 refine aM.2 ⟨fun hr => ?_, fun hr => ?_⟩
 ·cases all with
  | nil => simp at hr
  | cons v l =>
   dsimp only at k
   repeat (first|(refine aq h ?_;clear h;intro kb M h)|(refine au h ?_;clear h;intro M h)|refine St.to h ?_|(apply Exists.intro;(repeat apply Exists.intro);refine And.intro rfl ?_)|refine av ?_|refine ae ?_|refine ai ?_)
   obtain ⟨x, rfl⟩ := h.bF (A := Ab) (by simp) (by decide)
   repeat (first|(refine aq h ?_;clear h;intro kb M h)|(refine au h ?_;clear h;intro M h)|refine St.to h ?_|(apply Exists.intro;(repeat apply Exists.intro);refine And.intro rfl ?_)|refine av ?_|refine ae ?_|refine ai ?_)
   refine aZ ((h.src (A := some ⟨x, 0, none⟩)).at h (i := 0) (j := 0) rfl rfl (by omega)) ?_
   have hcap := h.jF (some ⟨x, 0, none⟩)
   have hlen : l.length + 1 ≤ 1000000001 := by simpa using gP
   repeat (first|(refine aq h ?_;clear h;intro kb M h)|(refine au h ?_;clear h;intro M h)|refine St.to h ?_|(apply Exists.intro;(repeat apply Exists.intro);refine And.intro rfl ?_)|refine av ?_|refine ae ?_|refine ai ?_)
   simp only [Int.toNat_natCast]
   refine h.j5 bB CS l ((h.src (A := some ⟨x, 0, none⟩)).drop (m := 1) hcap) (by simp) (by omega) ?_
   clear h
   intro A' c' M h
   repeat (first|(refine aq h ?_;clear h;intro kb M h)|(refine au h ?_;clear h;intro M h)|refine St.to h ?_|(apply Exists.intro;(repeat apply Exists.intro);refine And.intro rfl ?_)|refine av ?_|refine ae ?_|refine ai ?_)
   exact k _ (dc h b).bW
 ·cases all with
  | cons v l => simp at hr
  | nil =>
  obtain ⟨rfl, rfl⟩ := P7 rfl
  repeat (first|(refine aq h ?_;clear h;intro kb M h)|(refine au h ?_;clear h;intro M h)|refine St.to h ?_|(apply Exists.intro;(repeat apply Exists.intro);refine And.intro rfl ?_)|refine av ?_|refine ae ?_|refine ai ?_)
  refine gD.2 ⟨fun hc => ?_, fun hc => ?_⟩
  ·subst hc
   repeat (first|(refine aq h ?_;clear h;intro kb M h)|(refine au h ?_;clear h;intro M h)|refine St.to h ?_|(apply Exists.intro;(repeat apply Exists.intro);refine And.intro rfl ?_)|refine av ?_|refine ae ?_|refine ai ?_)
   exact k _ (dc h b).bW
  ·subst hc
   repeat (first|(refine aq h ?_;clear h;intro kb M h)|(refine au h ?_;clear h;intro M h)|refine St.to h ?_|(apply Exists.intro;(repeat apply Exists.intro);refine And.intro rfl ?_)|refine av ?_|refine ae ?_|refine ai ?_)
   exact k _ (dc h b).bW
theorem Er (h : Hp R L M) [o : bZ bE b L c L']
  (k : ∀ A ca B cb M', Hp R (az bE b c.close.1 :: uq B cb c.close.2.2.1 :: uq A ca c.close.2.1 :: L') M' → K (.tuple #[.slice A c.close.2.1.length ca, .slice B c.close.2.2.1.length cb, .int .i64 c.close.2.2.2]) M') :
  aa Tryz.prog 243 #[.pointer (some ⟨b, 0, none⟩)] M K Kp := by
 refine qR ?_
 obtain ⟨room, buf, snd, eB, closed⟩ := c
 have h' := iu h (b := b)
 clear h
 obtain ⟨Ab, cb, As, cs, Ar, cr, h⟩ := h'
 dsimp only [ir] at h
 repeat (first|(refine aq h ?_;clear h;intro kb M h)|(refine au h ?_;clear h;intro M h)|refine St.to h ?_|(apply Exists.intro;(repeat apply Exists.intro);refine And.intro rfl ?_)|refine av ?_|refine ae ?_|refine ai ?_)
 refine gD.2 ⟨fun hc => ?_, fun hc => ?_⟩
 ·subst hc
  have h := dc ((h.cC iY 280).cC iY 280) b
  exact k none 0 none 0 _ h
 ·subst hc
  repeat (first|(refine aq h ?_;clear h;intro kb M h)|(refine au h ?_;clear h;intro M h)|refine St.to h ?_|(apply Exists.intro;(repeat apply Exists.intro);refine And.intro rfl ?_)|refine av ?_|refine ae ?_|refine ai ?_)
  have h := (h.cC iY 280).cC iY 280
  exact k _ _ _ _ _ ((dc h b).sub bD)
theorem jk {B : Option Addr} {n cc : Nat} {g : Int} {l : List Wt} (h : Hp R L M) (hB : Src R L B (iY.cells l)) (hn : n = l.length) (hs : l.length ≤ 1000000000)
  (k : ∀ A' c' M', Hp R (uq A' c' (wo g l) :: L) M' → K (.slice A' (wo g l).length c') M') :
  aa Tryz.prog 254 #[.slice B n cc, .int .i64 g] M K Kp := by
 subst hn
 refine vM ⟨fun d vs M => ∃ i A c, vs = [.slice A (wo g (l.take i)).length c, .int .i64 (i : Int)] ∧ d = l.length - i ∧ i ≤ l.length ∧ Hp R (uq A c (wo g (l.take i)) :: L) M,
  ⟨_, 0, none, 0, rfl, rfl, by omega, h.cC _ _⟩, ?_⟩
 clear h
 rintro d _ A n c' ii M ⟨i, _, _, he, hd, hi, h⟩
 simp only [List.cons.injEq, Value.slice.injEq, Value.int.injEq, and_true, true_and] at he
 obtain ⟨⟨rfl, rfl, rfl⟩, rfl⟩ := he
 refine aM.2 ⟨fun hlt => ?_, fun hge => ?_⟩
 ·obtain ⟨w, hw⟩ := aP (l := l) (i := i) (by omega)
  obtain ⟨b, o, rfl⟩ := hB.cons.lD h (by omega) (by decide)
  have e1 : IntKind.wrap .i64 ((i : Int) + 1) = ((i + 1 : Nat) : Int) := aV (by omega)
  have hl := Gk g (l.take i)
  have kT := List.length_take_le i l
  rw [e1]
  repeat (first|(refine aq h ?_;clear h;intro kb M h)|(refine au h ?_;clear h;intro M h)|refine St.to h ?_|(apply Exists.intro;(repeat apply Exists.intro);refine And.intro rfl ?_)|refine av ?_|refine ae ?_|refine ai ?_)
  refine aZ (hB.cons.at h (j := 0) hw rfl (by simp [iY])) ?_
  refine aZ (hB.cons.at h (j := 1) hw rfl (by simp [iY]; omega)) ?_
  refine aZ (hB.cons.at h (j := 2) hw rfl (by simp [iY]; omega)) ?_
  repeat (first|(refine aq h ?_;clear h;intro kb M h)|(refine au h ?_;clear h;intro M h)|refine St.to h ?_|(apply Exists.intro;(repeat apply Exists.intro);refine And.intro rfl ?_)|refine av ?_|refine ae ?_|refine ai ?_)
  refine eJ.2 ⟨fun hne => ?_, fun heq => ?_⟩
  ·have e2 : wo g (l.take (i + 1)) = wo g (l.take i) ++ [w] := by rw [dB hw, MC]; simp [wo, hne]
   repeat (first|(refine aq h ?_;clear h;intro kb M h)|(refine au h ?_;clear h;intro M h)|refine St.to h ?_|(apply Exists.intro;(repeat apply Exists.intro);refine And.intro rfl ?_)|refine av ?_|refine ae ?_|refine ai ?_)
   refine h.bN xV [w] rfl rfl (by simp; omega) ?_
   clear h
   intro A' c' M h
   repeat (first|(refine aq h ?_;clear h;intro kb M h)|(refine au h ?_;clear h;intro M h)|refine St.to h ?_|(apply Exists.intro;(repeat apply Exists.intro);refine And.intro rfl ?_)|refine av ?_|refine ae ?_|refine ai ?_)
   exact ⟨l.length - (i + 1), by omega, i + 1, A', c', by rw [e2], rfl, by omega, by rw [e2]; exact h.bW⟩
  ·have e2 : wo g (l.take (i + 1)) = wo g (l.take i) := by rw [dB hw, MC]; simp [wo, heq]
   exact ⟨l.length - (i + 1), by omega, i + 1, A, c', by rw [e2], rfl, by omega, by rw [e2]; exact h.pA⟩
 ·have : i = l.length := by omega
  subst this
  rw [List.take_length] at h ⊢
  exact k _ _ _ h
theorem Gv {g : Int} (h : Hp R L M) [o : bZ bE b L c L'] (hs : c.Small 1000000000) (k : ∀ M', Hp R (az bE b (c.drop g) :: L') M' → K (.tuple #[]) M') :
  aa Tryz.prog 253 #[.pointer (some ⟨b, 0, none⟩), .int .i64 g] M K Kp := by
 refine sO ?_
 have h' := iu h (b := b)
 clear h
 obtain ⟨Ab, cb, As, cs, Ar, cr, h⟩ := h'
 obtain ⟨h1, h2, h3⟩ := hs
 repeat (first|(refine aq h ?_;clear h;intro kb M h)|(refine au h ?_;clear h;intro M h)|refine St.to h ?_|(apply Exists.intro;(repeat apply Exists.intro);refine And.intro rfl ?_)|refine av ?_|refine ae ?_|refine ai ?_)
 refine ⟨?_, ?_, trivial⟩
 ·refine jk h (h.src (A := As)) rfl h2 ?_
  clear h
  intro A' c' M h
  repeat (first|(refine aq h ?_;clear h;intro kb M h)|(refine au h ?_;clear h;intro M h)|refine St.to h ?_|(apply Exists.intro;(repeat apply Exists.intro);refine And.intro rfl ?_)|refine av ?_|refine ae ?_|refine ai ?_)
  refine jk h (h.src (A := Ar)) rfl h3 ?_
  clear h
  intro B' d' M h
  repeat (first|(refine aq h ?_;clear h;intro kb M h)|(refine au h ?_;clear h;intro M h)|refine St.to h ?_|(apply Exists.intro;(repeat apply Exists.intro);refine And.intro rfl ?_)|refine av ?_|refine ae ?_|refine ai ?_)
  exact k _ (dc h b).bW
 ·repeat (first|(refine aq h ?_;clear h;intro kb M h)|(refine au h ?_;clear h;intro M h)|refine St.to h ?_|(apply Exists.intro;(repeat apply Exists.intro);refine And.intro rfl ?_)|refine av ?_|refine ae ?_|refine ai ?_)
  refine jk h (h.src (A := As)) rfl h2 ?_
  clear h
  intro A' c' M h
  repeat (first|(refine aq h ?_;clear h;intro kb M h)|(refine au h ?_;clear h;intro M h)|refine St.to h ?_|(apply Exists.intro;(repeat apply Exists.intro);refine And.intro rfl ?_)|refine av ?_|refine ae ?_|refine ai ?_)
  refine jk h (h.src (A := Ar)) rfl h3 ?_
  clear h
  intro B' d' M h
  repeat (first|(refine aq h ?_;clear h;intro kb M h)|(refine au h ?_;clear h;intro M h)|refine St.to h ?_|(apply Exists.intro;(repeat apply Exists.intro);refine And.intro rfl ?_)|refine av ?_|refine ae ?_|refine ai ?_)
  exact k _ (dc h b).bW
end
end Go.Proofs
namespace Go.AF
theorem nE {α β γ : Type} {f : α → β → γ} : ∀ {l : List α} {m : List β} {i : Nat} {a : α} {b : β}, l[i]? = some a → (List.zipWith f l m).set i (f a b) = List.zipWith f l (m.set i b)
 | [], _, _, _, _, h => by simp at h
 | x :: l, [], i, a, b, h => by simp
 | x :: l, y :: m, 0, a, b, h => by simp at h; subst h; rfl
 | x :: l, y :: m, i + 1, a, b, h => by
  have := nE (f := f) (m := m) (b := b) (show l[i]? = some a from by simpa using h)
  simp [this]
theorem Gw {α β γ : Type} {f : α → β → γ} : ∀ {l : List α} {m : List β} {i : Nat} {a : α} {b : β}, l[i]? = some a → m[i]? = some b → (List.zipWith f l m)[i]? = some (f a b)
 | [], _, _, _, _, h, _ => by simp at h
 | x :: l, [], i, a, b, h, g => by simp at g
 | x :: l, y :: m, 0, a, b, h, g => by simp at h g; subst h; subst g; rfl
 | x :: l, y :: m, i + 1, a, b, h, g => by simpa using Gw (f := f) (show l[i]? = some a from by simpa using h) (show m[i]? = some b from by simpa using g)
theorem cZ.XZ {P : HP} {L : List HP} : ∀ (l : List HP), cZ (l ++ P :: L) P (l ++ L)
 | [] => .here
 | Q :: l => .there (cZ.XZ l)
section
variable {α : Type} {r : sG α} {R : Mem} {L L' oe : List HP} {M : Mem} {bs : List Nat} {cs : List α} {b i : Nat} {c : α}
def bg (r : sG α) (bs : List Nat) (cs : List α) : HP := sep (List.zipWith (az r) bs cs)
def lG (r : sG α) (bs : List Nat) (cs : List α) (i : Nat) : HP := sep ((List.zipWith (az r) bs cs).eraseIdx i)
class fC (r : sG α) (L : List HP) (bs : outParam (List Nat)) (cs : outParam (List α)) (L' : outParam (List HP)) : Prop where
 pick : cZ L (bg r bs cs) L'
instance fC.here : fC r (bg r bs cs :: L) bs cs L := ⟨.here⟩
instance (priority := low) fC.there {P : HP} [h : fC r L bs cs L'] : fC r (P :: L) bs cs (P :: L') := ⟨.there h.pick⟩
class wW (r : sG α) (L : List HP) (bs : outParam (List Nat)) (cs : outParam (List α)) (i : outParam Nat) (L' : outParam (List HP)) : Prop where
 pick : cZ L (lG r bs cs i) L'
instance wW.here : wW r (lG r bs cs i :: L) bs cs i L := ⟨.here⟩
instance (priority := low) wW.there {P : HP} [h : wW r L bs cs i L'] : wW r (P :: L) bs cs i (P :: L') := ⟨.there h.pick⟩
theorem Hp.nF (h : Hp R L M) (r : sG α) {bs : List Nat} {cs : List α} [o : fC r L bs cs L'] : Hp R (bg r bs cs :: L') M := h.pick o.pick
theorem Hp.ur (h : Hp R L M) (r : sG α) : Hp R (bg r [] [] :: L) M := Hp.aX.2 h
theorem Hp.c6 (h : Hp R L M) (r : sG α) {bs : List Nat} {cs : List α} [o : fC r L bs cs L'] (hb : bs[i]? = some b) (hc : cs[i]? = some c) : Hp R (az r b c :: lG r bs cs i :: L') M :=
 (h.pick o.pick).focus (Gw hb hc)
theorem Hp.dN (h : Hp R L M) (r : sG α) (b : Nat) {bs : List Nat} {cs : List α} {i : Nat} {c : α} [o : bZ r b L c L'] [x : wW r L' bs cs i oe] (hb : bs[i]? = some b) (hc : i < cs.length) : Hp R (bg r bs (cs.set i c) :: oe) M := by
 have h1 : Hp R (az r b c :: lG r bs cs i :: oe) M := (h.pick o.pick).map fun _ hs => hs.tail (fun _ => bV.pick x.pick)
 have h2 := Hp.Qe (ls := List.zipWith (az r) bs cs) h1 (by rw [List.length_zipWith]; have := (List.getElem?_eq_some_iff.1 hb).1; omega)
 rw [nE hb] at h2
 exact h2
theorem Hp.vN (h : Hp R L M) (r : sG α) (b : Nat) {bs : List Nat} {cs : List α} {i : Nat} {c : α} [o : bZ r b L c L'] [x : wW r L' bs cs i oe] (hb : bs[i]? = some b) (hc : cs[i]? = some c) : Hp R (bg r bs cs :: oe) M := by
 have := h.dN r b hb (List.getElem?_eq_some_iff.1 hc).1
 obtain ⟨hi, rfl⟩ := List.getElem?_eq_some_iff.1 hc
 rwa [List.set_getElem_self] at this
theorem Hp.kD (h : Hp R L M) (r : sG α) (b : Nat) {bs : List Nat} {cs : List α} {c : α} [o : bZ r b L c L'] [x : fC r L' bs cs oe] (hl : bs.length = cs.length) : Hp R (bg r (bs ++ [b]) (cs ++ [c]) :: oe) M := by
 have h1 : Hp R (az r b c :: bg r bs cs :: oe) M := (h.pick o.pick).map fun _ hs => hs.tail (fun _ => bV.pick x.pick)
 refine Hp.aX.2 ?_
 rw [List.zipWith_append hl, List.append_assoc]
 refine Hp.nw (P := az r b c) ?_ (cZ.XZ _)
 exact h1.map fun _ hs => hs.tail fun _ hb => bV.aX.1 hb
end
end Go.AF
namespace Go.Proofs
open Go.AF
set_option maxRecDepth 100000
variable {M : Mem} {K : Value → Mem → Prop} {Kp : List PanicEntry → Mem → Prop}
theorem vO {B0 : Option Addr} {m0 c0 : Nat} {B1 : Option Addr} {m1 c1 : Nat} (h :
∃ I1 : IT, (∃ k2, I1 k2 [(.slice none 0 0), (iV 0)] M) ∧
∀ (k3 : Nat) (_ : Nat → Value) (A5 : Option Addr) (k6 : Nat) (k7 : Nat) (n8 : Int) (M9 : Mem), (I1 k3 [(.slice A5 k6 k7), (iV n8)] M9) → aO (decide (n8 < m0))
 ((0 ≤ n8) ∧
 (n8 < m0) ∧
 aF B0 fun gh fu =>
 lX M9 gh (fu + ((Int.toNat n8) * 3)) fun jK j7 lY =>
 bh M9 qz fun iW fq =>
 Io fq iW (iV jK) (iV j7) (iV lY) fun jB =>
 lX jB iW 0 fun gd sK wT =>
 aa Tryz.prog 234 #[(.agg #[(iV gd), (iV sK), (iV wT)]), (.slice B1 m1 c1)] jB (fun X0 j6 =>
 de (some X0) fun t25 =>
 aO t25
 (bh j6 (cl [(iV n8)] 3) fun sj xU =>
 aA 36 A5 k6 k7 (some ⟨sj, 0, none⟩) 1 1 xU (fun TL oS =>
 aB (some TL) fun WQ qD uo =>
 ∃ so : Nat, (so < k3) ∧
 I1 so [(.slice WQ qD uo), (iV (IntKind.wrap .i64 (n8 + 1)))] oS) Kp)
 (∃ qC : Nat, (qC < k3) ∧
 I1 qC [(.slice A5 k6 k7), (iV (IntKind.wrap .i64 (n8 + 1)))] j6)) Kp)
 (K (.slice A5 k6 k7) M9)) :
 aa Tryz.prog 205 #[.slice B0 m0 c0, .slice B1 m1 c1] M K Kp := vw [(2000000, .loop [(5, .c .sl), (10, .c (.int .i64))])] Tryz.func205 h
theorem AJ {B0 : Option Addr} {m0 c0 : Nat} (h :
∃ I1 : IT, (∃ k2, I1 k2 [(iV 0)] M) ∧
∀ (k3 : Nat) (_ : Nat → Value) (n5 : Int) (M6 : Mem), (I1 k3 [(iV n5)] M6) → aO (decide (n5 < m0))
 ((0 ≤ n5) ∧
 (n5 < m0) ∧
 aF B0 fun k7 k8 =>
 lX M6 k7 (k8 + ((Int.toNat n5) * 3)) fun n9 iZ iI =>
 bh M6 qz fun gY mG =>
 Io mG gY (iV n9) (iV iZ) (iV iI) fun fq =>
 rI fq gY 0 fun iQ =>
 aO (iQ == 2)
 (K (.tuple #[(iV n5), (.bool true)]) fq)
 (∃ fI : Nat, (fI < k3) ∧
 I1 fI [(iV (IntKind.wrap .i64 (n5 + 1)))] fq))
 (K (.tuple #[(iV 0), (.bool false)]) M6)) :
 aa Tryz.prog 206 #[.slice B0 m0 c0] M K Kp := vw [(2000000, .loop [(8, .c (.int .i64))])] Tryz.func206 h
theorem AK {x0 : Int} {B1 : Option Addr} {m1 c1 : Nat} {B2 : Option Addr} {m2 c2 : Nat} {B3 : Option Addr} {m3 c3 : Nat} (h :
∃ I1 : IT, (∃ k2, I1 k2 [(iV 0)] M) ∧
∀ (k3 : Nat) (_ : Nat → Value) (n5 : Int) (M6 : Mem), (I1 k3 [(iV n5)] M6) → aO (decide (n5 < m1))
 ((0 ≤ n5) ∧
 (n5 < m1) ∧
 aF B1 fun k7 k8 =>
 lX M6 k7 (k8 + ((Int.toNat n5) * 3)) fun n9 iZ iI =>
 bh M6 qz fun gY mG =>
 Io mG gY (iV n9) (iV iZ) (iV iI) fun fq =>
 rI fq gY 0 fun iQ =>
 aO (iQ == 0)
 (rI fq gY 1 fun lq =>
 (0 ≤ lq) ∧
 (lq < m3) ∧
 aF B3 fun jI lF =>
 rP fq jI (lF + (Int.toNat lq)) fun CT =>
 aa Tryz.prog 235 #[(.pointer CT), (.agg #[(iV x0), (iV n5), (iV 0)])] fq (fun Kc mj =>
 (Kc = (.tuple #[])) ∧
 ∃ vg : Nat, (vg < k3) ∧
 I1 vg [(iV (IntKind.wrap .i64 (n5 + 1)))] mj) Kp)
 (aO (iQ == 1)
 (rI fq gY 1 fun nG =>
 (0 ≤ nG) ∧
 (nG < m3) ∧
 aF B3 fun sj Am =>
 rP fq sj (Am + (Int.toNat nG)) fun TK =>
 rI fq gY 2 fun xX =>
 (0 ≤ xX) ∧
 (xX < m2) ∧
 aF B2 fun mH qD =>
 rI fq mH (qD + (Int.toNat xX)) fun n32 =>
 aa Tryz.prog 236 #[(.pointer TK), (.agg #[(iV x0), (iV n5), (iV n32)])] fq (fun v33 sq =>
 (v33 = (.tuple #[])) ∧
 ∃ BO : Nat, (BO < k3) ∧
 I1 BO [(iV (IntKind.wrap .i64 (n5 + 1)))] sq) Kp)
 (∃ MW : Nat, (MW < k3) ∧
 I1 MW [(iV (IntKind.wrap .i64 (n5 + 1)))] fq)))
 (K (.tuple #[]) M6)) :
 aa Tryz.prog 207 #[.int .i64 x0, .slice B1 m1 c1, .slice B2 m2 c2, .slice B3 m3 c3] M K Kp := vw [(2000000, .loop [(12, .c (.int .i64))]), (7, .bQ [0, 0, 2, 7, 15, 0, 0, 0, 0, 256, 896, 1920, 4064, 8191] (sy [0, 1, 5, 6, 7, 8, 2, 3, 4, 9, 10, 11, 12, 13] .done))] Tryz.func207 h
theorem uu {yS : Int} {yT : Int} {gR : Int} {B1 : Option Addr} {m1 c1 : Nat} (h :
bh M (cl [(iV yS), (iV yT), (iV gR)] 165) fun k1 M2 =>
rI M2 k1 0 fun n3 =>
aO (n3 == 0)
 (rI M2 k1 1 fun n4 =>
 (0 ≤ n4) ∧
 (n4 < m1) ∧
 aF B1 fun k5 k6 =>
 rP M2 k5 (k6 + (Int.toNat n4)) fun A7 =>
 aa Tryz.prog 248 #[(.pointer A7)] M2 (fun v8 M9 =>
 de (some v8) fun t10 =>
 K (.bool t10) M9) Kp)
 (aO (n3 == 1)
 (rI M2 k1 1 fun iI =>
 (0 ≤ iI) ∧
 (iI < m1) ∧
 aF B1 fun gY eK =>
 rP M2 gY (eK + (Int.toNat iI)) fun oT =>
 aa Tryz.prog 249 #[(.pointer oT)] M2 (fun CU fq =>
 de (some CU) fun t17 =>
 K (.bool t17) fq) Kp)
 (K (.bool false) M2))) :
 aa Tryz.prog 234 #[.agg #[.int .i64 yS, .int .i64 yT, .int .i64 gR], .slice B1 m1 c1] M K Kp := vw [] Tryz.func234 h
theorem yU {x0 : Int} {B1 : Option Addr} {m1 c1 : Nat} (h :
∃ I1 : IT, (∃ k2, I1 k2 [(iV 0)] M) ∧
∀ (k3 : Nat) (_ : Nat → Value) (n5 : Int) (M6 : Mem), (I1 k3 [(iV n5)] M6) → aO (decide (n5 < m1))
 ((0 ≤ n5) ∧
 (n5 < m1) ∧
 aF B1 fun k7 k8 =>
 rP M6 k7 (k8 + (Int.toNat n5)) fun A9 =>
 aa Tryz.prog 253 #[(.pointer A9), (iV x0)] M6 (fun v10 jJ =>
 (v10 = (.tuple #[])) ∧
 ∃ gY : Nat, (gY < k3) ∧
 I1 gY [(iV (IntKind.wrap .i64 (n5 + 1)))] jJ) Kp)
 (K (.tuple #[]) M6)) :
 aa Tryz.prog 252 #[.int .i64 x0, .slice B1 m1 c1] M K Kp := vw [(2000000, .loop [(8, .c (.int .i64))])] Tryz.func252 h
end Go.Proofs
namespace Go.Proofs
open Go.AF
set_option maxRecDepth 100000
set_option maxHeartbeats 1000000
attribute [local irreducible] aJ de fm cy aB dZ aF aK bh aY bA aO
structure om where
 way : Int
 ch : Int
 bQ : Int
 deriving DecidableEq
def g6 : iz om := ⟨3, fun w => [.int .i64 w.way, .int .i64 w.ch, .int .i64 w.bQ], fun _ => rfl, fun w v hv => by
 simp only [List.mem_cons, List.not_mem_nil, or_false] at hv; obtain rfl | rfl | rfl := hv <;> rfl⟩
def om.Ok (n : Nat) (c : om) : Prop := 0 ≤ c.way ∧ c.way ≤ 2 ∧ (c.way ≠ 2 → 0 ≤ c.ch ∧ c.ch < n ∧ 0 ≤ c.bQ ∧ c.bQ < 8)
instance (n : Nat) (c : om) : Decidable (c.Ok n) := by unfold om.Ok; infer_instance
def dK (cs : List aT) (k : Int) : aT := cs.getD k.toNat ⟨0, [], [], [], false⟩
def can (cs : List aT) (c : om) : Bool := if c.way = 0 then (dK cs c.ch).uc else if c.way = 1 then (dK cs c.ch).ua else false
def MX (cases : List om) (cs : List aT) (j : Nat) : Bool := match cases[j]? with
 | some c => can cs c
 | none => false
def CV (cases : List om) (cs : List aT) (i : Nat) : List Int := ((List.range i).filter (MX cases cs)).map Int.ofNat
def enabled (cases : List om) (cs : List aT) : List Int := CV cases cs cases.length
theorem Es (cases : List om) (cs : List aT) (i : Nat) : (CV cases cs i).length ≤ i := by
 unfold CV; rw [List.length_map]; exact Nat.le_trans (List.length_filter_le ..) (by simp)
theorem BQ {cases : List om} {cs : List aT} {i : Nat} {c : om} (h : cases[i]? = some c) : CV cases cs (i + 1) = CV cases cs i ++ (if can cs c then [(i : Int)] else []) := by
 unfold CV
 rw [List.range_succ, List.filter_append, List.map_append]
 simp only [List.filter_cons, MX, h, List.filter_nil]
 split <;> simp_all
def els (cases : List om) : Option Nat := cases.findIdx? (fun c => c.way == 2)
def j8 (g : Int) (fD : List Int) (i : Nat) (c : om) (cs : List aT) : List aT :=
 if c.way = 0 then cs.set c.ch.toNat { dK cs c.ch with eB := (dK cs c.ch).eB ++ [⟨g, i, 0⟩] }
 else if c.way = 1 then cs.set c.ch.toNat { dK cs c.ch with snd := (dK cs c.ch).snd ++ [⟨g, i, fD.getD c.bQ.toNat 0⟩] } else cs
def dU (g : Int) (fD : List Int) (cases : List om) (cs : List aT) : Nat → List aT
 | 0 => cs
 | i + 1 => match cases[i]? with
  | some c => j8 g fD i c (dU g fD cases cs i)
  | none => dU g fD cases cs i
theorem Et (g : Int) (fD : List Int) (i : Nat) (c : om) (cs : List aT) : (j8 g fD i c cs).length = cs.length := by
 unfold j8; split
 ·simp
 ·split <;> simp
theorem kU (g : Int) (fD : List Int) (cases : List om) (cs : List aT) : ∀ i, (dU g fD cases cs i).length = cs.length
 | 0 => rfl
 | i + 1 => by
  unfold dU; split
  ·rw [Et, kU _ _ _ _ i]
  ·exact kU _ _ _ _ i
theorem mem_set {α : Type} {l : List α} {i : Nat} {x y : α} (h : y ∈ l.set i x) : y ∈ l ∨ y = x := by
 rcases List.mem_or_eq_of_mem_set h with h | h
 ·exact .inl h
 ·exact .inr h
theorem uv {cs : List aT} {k : Int} (h0 : 0 ≤ k) (h : k < cs.length) : dK cs k ∈ cs := by
 unfold dK; rw [List.getD_eq_getElem?_getD, List.getElem?_eq_getElem (by omega)]; exact List.getElem_mem _
theorem AM {g : Int} {fD : List Int} {i : Nat} {c : om} {cs : List aT} {N : Nat} (hs : ∀ x ∈ cs, x.Small N) (hc : c.Ok cs.length) : ∀ x ∈ j8 g fD i c cs, x.Small (N + 1) := by
 obtain ⟨_, _, kk⟩ := hc
 intro x hm
 unfold j8 at hm
 split at hm
 ·rename_i hw
  have hx := hs _ (uv (kk (by omega)).1 (kk (by omega)).2.1)
  rcases mem_set hm with h | rfl
  ·exact (hs x h).mono (by omega)
  ·exact hx.wr _
 split at hm
 ·rename_i hw
  have hx := hs _ (uv (kk (by omega)).1 (kk (by omega)).2.1)
  rcases mem_set hm with h | rfl
  ·exact (hs x h).mono (by omega)
  ·exact hx.ws _
 ·exact (hs x hm).mono (by omega)
theorem nH {g : Int} {fD : List Int} {cases : List om} {cs : List aT} {N : Nat} (hs : ∀ x ∈ cs, x.Small N) (hok : ∀ c ∈ cases, c.Ok cs.length) : ∀ i, ∀ x ∈ dU g fD cases cs i, x.Small (N + i)
 | 0 => hs
 | i + 1 => by
  unfold dU; split
  ·rename_i c hc
   exact AM (nH hs hok i) (by rw [kU]; exact hok c (List.mem_of_getElem? hc))
  ·exact fun x hx => (nH hs hok i x hx).mono (by omega)
section
variable {R : Mem} {L L' : List HP} {M : Mem} {K : Value → Mem → Prop} {Kp : List PanicEntry → Mem → Prop} {bs : List Nat} {cs : List aT}
theorem pG : bn Tryz.prog 36 3 1 8 [.int .i64 0] := bn.mk' (zv := .int .i64 0) (by kernel_rfl) (by kernel_rfl) rfl (by omega)
theorem MY {cases : List om} {i : Nat} {c : om} (hc : cases[i]? = some c) (hw : c.way = 2) (hp : ∀ j c, j < i → cases[j]? = some c → c.way ≠ 2) : els cases = some i := by
 obtain ⟨hi, e⟩ := List.getElem?_eq_some_iff.1 hc
 refine List.findIdx?_eq_some_iff_getElem.2 ⟨hi, by rw [e]; simpa using hw, fun j hj => ?_⟩
 have := hp j _ hj (List.getElem?_eq_getElem (by omega))
 simpa using this
theorem MZ {cases : List om} (hp : ∀ j c, j < cases.length → cases[j]? = some c → c.way ≠ 2) : els cases = none := by
 refine List.findIdx?_eq_none_iff.2 fun c hc => ?_
 obtain ⟨j, hj, e⟩ := List.getElem_of_mem hc
 have := hp j c hj (by rw [← e]; exact List.getElem?_eq_getElem hj)
 simpa using this
theorem Gx {B : Option Addr} {m cc : Nat} {cases : List om} (h : Hp R L M) (hB : Src R L B (g6.cells cases)) (hm : m = cases.length) (hb : cases.length ≤ 1000000000)
  (k : ∀ M', Hp R L M' → K (.tuple #[.int .i64 (match els cases with | some i => (i : Int) | none => 0), .bool (els cases).isSome]) M') :
  aa Tryz.prog 206 #[.slice B m cc] M K Kp := by
 subst hm
 refine AJ ⟨fun d ws M => ∃ i : Nat, ws = [.int .i64 (i : Int)] ∧ d = cases.length - i ∧ i ≤ cases.length ∧ (∀ j c, j < i → cases[j]? = some c → c.way ≠ 2) ∧ Hp R L M, ⟨_, 0, rfl, rfl, by omega, fun j c hj => by omega, h⟩, ?_⟩
 clear h
 rintro d _ ii M ⟨i, he, hd, hi, hp, h⟩
 simp only [List.cons.injEq, Value.int.injEq, and_true, true_and] at he
 subst he
 refine aM.2 ⟨fun hlt => ?_, fun hge => ?_⟩
 ·obtain ⟨c, hc⟩ := aP (l := cases) (i := i) (by omega)
  obtain ⟨b, o, rfl⟩ := hB.lD h (by omega) (by decide)
  repeat (first|(refine aq h ?_;clear h;intro kb M h)|(refine au h ?_;clear h;intro M h)|refine St.to h ?_|(apply Exists.intro;(repeat apply Exists.intro);refine And.intro rfl ?_)|refine av ?_|refine ae ?_|refine ai ?_)
  simp only [Int.toNat_natCast]
  refine aZ (hB.at h (i := i) (j := 0) hc rfl rfl) ?_
  refine aZ (hB.at h (i := i) (j := 1) hc rfl rfl) ?_
  refine aZ (hB.at h (i := i) (j := 2) hc rfl rfl) ?_
  repeat (first|(refine aq h ?_;clear h;intro kb M h)|(refine au h ?_;clear h;intro M h)|refine St.to h ?_|(apply Exists.intro;(repeat apply Exists.intro);refine And.intro rfl ?_)|refine av ?_|refine ae ?_|refine ai ?_)
  refine aR.2 ⟨fun e => ?_, fun e => ?_⟩
  ·have := MY hc e hp
   rw [this] at k
   exact k _ h.pA
  ·rw [aV (by omega)]
   refine ⟨cases.length - (i + 1), by omega, i + 1, rfl, rfl, by omega, fun j c' hj FK => ?_, h.pA⟩
   rcases Nat.lt_or_ge j i with jA | jA
   ·exact hp j c' jA FK
   ·obtain rfl : j = i := by omega
    rw [hc] at FK; cases FK; exact e
 ·obtain rfl : i = cases.length := by omega
  rw [MZ hp] at k
  exact k _ h
theorem Kd {c : om} {B : Option Addr} {m cc : Nat} (h : Hp R L M) [o : fC bE L bs cs L'] (hB : Src R L' B (lW.cells bs)) (hm : m = bs.length) (hl : bs.length = cs.length) (hc : c.way ≠ 2 → 0 ≤ c.ch ∧ c.ch < cs.length) (Gy : 0 ≤ c.way ∧ c.way ≤ 2)
  (k : ∀ M', Hp R (bg bE bs cs :: L') M' → K (.bool (can cs c)) M') : aa Tryz.prog 234 #[.agg #[.int .i64 c.way, .int .i64 c.ch, .int .i64 c.bQ], .slice B m cc] M K Kp := by
 subst hm
 replace h := h.nF bE
 obtain ⟨way, ch, bQ⟩ := c
 dsimp only at *
 by_cases hwe : way = 2
 ·subst hwe
  refine uu ?_
  repeat (first|(refine aq h ?_;clear h;intro kb M h)|(refine au h ?_;clear h;intro M h)|refine St.to h ?_|(apply Exists.intro;(repeat apply Exists.intro);refine And.intro rfl ?_)|refine av ?_|refine ae ?_|refine ai ?_)
  exact k _ h.pA
 replace hc := hc hwe
 obtain ⟨q, rfl⟩ := Int.eq_ofNat_of_zero_le hc.1
 obtain ⟨x, hx⟩ := aP (l := cs) (i := q) (by omega)
 obtain ⟨b, hb⟩ := aP (l := bs) (i := q) (by omega)
 have hxx : dK cs (q : Int) = x := by simp [dK, hx]
 obtain ⟨b0, o0, rfl⟩ := hB.cons.lD h (by omega) (by decide)
 simp only [can, hxx] at k
 refine uu ?_
 repeat (first|(refine aq h ?_;clear h;intro kb M h)|(refine au h ?_;clear h;intro M h)|refine St.to h ?_|(apply Exists.intro;(repeat apply Exists.intro);refine And.intro rfl ?_)|refine av ?_|refine ae ?_|refine ai ?_)
 refine aR.2 ⟨fun e => ?_, fun e => ?_⟩
 ·rw [if_pos e] at k
  repeat (first|(refine aq h ?_;clear h;intro kb M h)|(refine au h ?_;clear h;intro M h)|refine St.to h ?_|(apply Exists.intro;(repeat apply Exists.intro);refine And.intro rfl ?_)|refine av ?_|refine ae ?_|refine ai ?_)
  refine mD (hB.cons.cons.at h (i := q) (j := 0) hb rfl (by simp [lW])) ?_
  replace h := h.c6 bE hb hx
  refine AI h ?_
  repeat (first|(refine aq h ?_;clear h;intro kb M h)|(refine au h ?_;clear h;intro M h)|refine St.to h ?_|(apply Exists.intro;(repeat apply Exists.intro);refine And.intro rfl ?_)|refine av ?_|refine ae ?_|refine ai ?_)
  exact k _ (h.vN bE b hb hx).bW
 rw [if_neg e] at k
 refine aR.2 ⟨fun e => ?_, fun e => ?_⟩
 ·rw [if_pos e] at k
  repeat (first|(refine aq h ?_;clear h;intro kb M h)|(refine au h ?_;clear h;intro M h)|refine St.to h ?_|(apply Exists.intro;(repeat apply Exists.intro);refine And.intro rfl ?_)|refine av ?_|refine ae ?_|refine ai ?_)
  refine mD (hB.cons.cons.at h (i := q) (j := 0) hb rfl (by simp [lW])) ?_
  replace h := h.c6 bE hb hx
  refine AH h ?_
  repeat (first|(refine aq h ?_;clear h;intro kb M h)|(refine au h ?_;clear h;intro M h)|refine St.to h ?_|(apply Exists.intro;(repeat apply Exists.intro);refine And.intro rfl ?_)|refine av ?_|refine ae ?_|refine ai ?_)
  exact k _ (h.vN bE b hb hx).bW
 ·rw [if_neg e] at k
  exact k _ h.pA
theorem AN {B A : Option Addr} {m cc n ca : Nat} {cases : List om} (h : Hp R L M) [o : fC bE L bs cs L'] (hB : Src R L' B (g6.cells cases)) (hA : Src R L' A (lW.cells bs)) (hm : m = cases.length) (hn : n = bs.length)
  (hb : cases.length ≤ 1000000000) (hl : bs.length = cs.length) (hok : ∀ c ∈ cases, c.Ok cs.length)
  (k : ∀ A' c' M', Hp R (bR bB 3 A' c' (enabled cases cs) :: bg bE bs cs :: L') M' → K (.slice A' (enabled cases cs).length c') M') :
  aa Tryz.prog 205 #[.slice B m cc, .slice A n ca] M K Kp := by
 subst hm
 replace h := h.nF bE
 refine vO ⟨fun d ws M => ∃ (i : Nat) (X : Option Addr) (cx : Nat), ws = [.slice X (CV cases cs i).length cx, .int .i64 (i : Int)] ∧ d = cases.length - i ∧ i ≤ cases.length ∧ Hp R (bR bB 3 X cx (CV cases cs i) :: bg bE bs cs :: L') M, ⟨_, 0, none, 0, rfl, rfl, by omega, h.cC bB _⟩, ?_⟩
 clear h
 rintro d _ X n1 cx ii M ⟨i, _, _, he, hd, hi, h⟩
 simp only [List.cons.injEq, Value.int.injEq, Value.slice.injEq, and_true, true_and] at he
 obtain ⟨⟨rfl, rfl, rfl⟩, rfl⟩ := he
 refine aM.2 ⟨fun hlt => ?_, fun hge => ?_⟩
 ·obtain ⟨c, hc⟩ := aP (l := cases) (i := i) (by omega)
  obtain ⟨b, o, rfl⟩ := hB.cons.cons.lD h (by omega) (by decide)
  repeat (first|(refine aq h ?_;clear h;intro kb M h)|(refine au h ?_;clear h;intro M h)|refine St.to h ?_|(apply Exists.intro;(repeat apply Exists.intro);refine And.intro rfl ?_)|refine av ?_|refine ae ?_|refine ai ?_)
  simp only [Int.toNat_natCast]
  refine aZ (hB.cons.cons.at h (i := i) (j := 0) hc rfl rfl) ?_
  refine aZ (hB.cons.cons.at h (i := i) (j := 1) hc rfl rfl) ?_
  refine aZ (hB.cons.cons.at h (i := i) (j := 2) hc rfl rfl) ?_
  repeat (first|(refine aq h ?_;clear h;intro kb M h)|(refine au h ?_;clear h;intro M h)|refine St.to h ?_|(apply Exists.intro;(repeat apply Exists.intro);refine And.intro rfl ?_)|refine av ?_|refine ae ?_|refine ai ?_)
  have hco := hok c (List.mem_of_getElem? hc)
  obtain ⟨w1, w2, k1⟩ := hco
  refine Kd (c := c) h hA.cons.cons hn hl (fun e => ⟨(k1 e).1, (k1 e).2.1⟩) ⟨w1, w2⟩ ?_
  clear h
  intro M h
  repeat (first|(refine aq h ?_;clear h;intro kb M h)|(refine au h ?_;clear h;intro M h)|refine St.to h ?_|(apply Exists.intro;(repeat apply Exists.intro);refine And.intro rfl ?_)|refine av ?_|refine ae ?_|refine ai ?_)
  have hlen := Es cases cs i
  refine gD.2 ⟨fun hb => ?_, fun hb => ?_⟩
  ·have e := BQ (cs := cs) hc
   rw [if_pos hb] at e
   repeat (first|(refine aq h ?_;clear h;intro kb M h)|(refine au h ?_;clear h;intro M h)|refine St.to h ?_|(apply Exists.intro;(repeat apply Exists.intro);refine And.intro rfl ?_)|refine av ?_|refine ae ?_|refine ai ?_)
   refine h.bN pG [(i : Int)] rfl rfl (by simp; omega) ?_
   clear h
   intro A' c' M h
   repeat (first|(refine aq h ?_;clear h;intro kb M h)|(refine au h ?_;clear h;intro M h)|refine St.to h ?_|(apply Exists.intro;(repeat apply Exists.intro);refine And.intro rfl ?_)|refine av ?_|refine ae ?_|refine ai ?_)
   rw [aV (by omega)]
   rw [← e] at h
   refine ⟨cases.length - (i + 1), by omega, i + 1, A', c', ?_, rfl, by omega, h.bW⟩
   rw [e]
  ·have e := BQ (cs := cs) hc
   rw [if_neg (by simp [hb]), List.append_nil] at e
   rw [aV (by omega)]
   refine ⟨cases.length - (i + 1), by omega, i + 1, X, cx, by rw [e], rfl, by omega, ?_⟩
   rw [e]; exact h.sub bD
 ·obtain rfl : i = cases.length := by omega
  exact k _ _ _ h
theorem Eu {g : Int} {A : Option Addr} {n ca : Nat} (h : Hp R L M) [o : fC bE L bs cs L'] (hA : Src R L' A (lW.cells bs)) (hn : n = bs.length) (hb : bs.length ≤ 1000000000) (hl : bs.length = cs.length) (hs : ∀ c ∈ cs, c.Small 1000000000)
  (k : ∀ M', Hp R (bg bE bs (cs.map (·.drop g)) :: L') M' → K (.tuple #[]) M') :
  aa Tryz.prog 252 #[.int .i64 g, .slice A n ca] M K Kp := by
 subst hn
 replace h := h.nF bE
 refine yU ⟨fun d ws M => ∃ (i : Nat), ws = [.int .i64 (i : Int)] ∧ d = bs.length - i ∧ i ≤ bs.length ∧ Hp R (bg bE bs ((cs.take i).map (·.drop g) ++ cs.drop i) :: L') M, ⟨_, 0, rfl, rfl, by omega, h⟩, ?_⟩
 clear h
 rintro d _ ii M ⟨i, he, hd, hi, h⟩
 simp only [List.cons.injEq, Value.int.injEq, and_true, true_and] at he
 subst he
 refine aM.2 ⟨fun hlt => ?_, fun hge => ?_⟩
 ·obtain ⟨c, hc⟩ := aP (l := cs) (i := i) (by omega)
  obtain ⟨b, wL⟩ := aP (l := bs) (i := i) (by omega)
  obtain ⟨b0, o0, rfl⟩ := hA.cons.lD h (by omega) (by decide)
  have Pz : ((cs.take i).map (·.drop g) ++ cs.drop i)[i]? = some c := by
   rw [List.getElem?_append_right (by simp; omega)]; simp [List.length_take, Nat.min_eq_left (show i ≤ cs.length by omega), hc]
  repeat (first|(refine aq h ?_;clear h;intro kb M h)|(refine au h ?_;clear h;intro M h)|refine St.to h ?_|(apply Exists.intro;(repeat apply Exists.intro);refine And.intro rfl ?_)|refine av ?_|refine ae ?_|refine ai ?_)
  refine mD (hA.cons.at h (i := i) (j := 0) wL rfl (by simp [lW])) ?_
  replace h := h.c6 bE wL Pz
  refine Gv h (hs c (List.mem_of_getElem? hc)) ?_
  clear h
  intro M h
  repeat (first|(refine aq h ?_;clear h;intro kb M h)|(refine au h ?_;clear h;intro M h)|refine St.to h ?_|(apply Exists.intro;(repeat apply Exists.intro);refine And.intro rfl ?_)|refine av ?_|refine ae ?_|refine ai ?_)
  rw [aV (by omega)]
  refine ⟨bs.length - (i + 1), by omega, i + 1, rfl, rfl, by omega, ?_⟩
  have := (h.dN bE b wL (by simp; omega)).bW (T := L')
  rw [List.set_append_right _ _ (by simp; omega)] at this
  rw [dB hc, List.map_append, List.append_assoc]
  have e : (cs.drop i).set (i - ((cs.take i).map (·.drop g)).length) (c.drop g) = [c.drop g] ++ cs.drop (i + 1) := by
   rw [show i - ((cs.take i).map (·.drop g)).length = 0 from by simp; omega]
   obtain ⟨hi', e'⟩ := List.getElem?_eq_some_iff.1 hc
   rw [List.drop_eq_getElem_cons hi']; rfl
  rw [e] at this
  exact this
 ·obtain rfl : i = bs.length := by omega
  rw [hl, List.take_length, List.drop_length, List.append_nil] at h
  exact k _ h
theorem Gz {g : Int} {B A D : Option Addr} {m cc n ca r cr : Nat} {cases : List om} {fD : List Int} (h : Hp R L M) [o : fC bE L bs cs L'] (hB : Src R L' B (g6.cells cases)) (hA : Src R L' A (lW.cells bs)) (hD : Src R L' D (bB.cells fD))
  (hm : m = cases.length) (hn : n = bs.length) (hr : r = 8) (hr8 : fD.length = 8) (hb : cases.length ≤ 1000000) (hl : bs.length = cs.length) (hok : ∀ c ∈ cases, c.Ok cs.length) (hs : ∀ c ∈ cs, c.Small 1000000)
  (k : ∀ M', Hp R (bg bE bs (dU g fD cases cs cases.length) :: L') M' → K (.tuple #[]) M') :
  aa Tryz.prog 207 #[.int .i64 g, .slice B m cc, .slice D r cr, .slice A n ca] M K Kp := by
 subst hm
 subst hn
 subst hr
 replace h := h.nF bE
 refine AK ⟨fun d ws M => ∃ (i : Nat), ws = [.int .i64 (i : Int)] ∧ d = cases.length - i ∧ i ≤ cases.length ∧ Hp R (bg bE bs (dU g fD cases cs i) :: L') M, ⟨_, 0, rfl, rfl, by omega, h⟩, ?_⟩
 clear h
 rintro d _ ii M ⟨i, he, hd, hi, h⟩
 simp only [List.cons.injEq, Value.int.injEq, and_true, true_and] at he
 subst he
 refine aM.2 ⟨fun hlt => ?_, fun hge => ?_⟩
 ·obtain ⟨c, hc⟩ := aP (l := cases) (i := i) (by omega)
  obtain ⟨w1, w2, kk⟩ := hok c (List.mem_of_getElem? hc)
  obtain ⟨b, o, rfl⟩ := hB.cons.lD h (by omega) (by decide)
  by_cases hwe : c.way = 2
  ·have e : dU g fD cases cs (i + 1) = dU g fD cases cs i := by
    rw [dU, hc]; dsimp only; unfold j8; rw [if_neg (by omega), if_neg (by omega)]
   repeat (first|(refine aq h ?_;clear h;intro kb M h)|(refine au h ?_;clear h;intro M h)|refine St.to h ?_|(apply Exists.intro;(repeat apply Exists.intro);refine And.intro rfl ?_)|refine av ?_|refine ae ?_|refine ai ?_)
   simp only [Int.toNat_natCast]
   refine aZ (hB.cons.at h (i := i) (j := 0) hc rfl rfl) ?_
   refine aZ (hB.cons.at h (i := i) (j := 1) hc rfl rfl) ?_
   refine aZ (hB.cons.at h (i := i) (j := 2) hc rfl rfl) ?_
   repeat (first|(refine aq h ?_;clear h;intro kb M h)|(refine au h ?_;clear h;intro M h)|refine St.to h ?_|(apply Exists.intro;(repeat apply Exists.intro);refine And.intro rfl ?_)|refine av ?_|refine ae ?_|refine ai ?_)
   refine aR.2 ⟨fun e => by omega, fun _ => ?_⟩
   refine aR.2 ⟨fun e => by omega, fun _ => ?_⟩
   rw [aV (by omega)]
   refine ⟨cases.length - (i + 1), by omega, i + 1, rfl, rfl, by omega, ?_⟩
   rw [e]
   exact h.pA
  obtain ⟨k1, k2, k3, k4⟩ := kk hwe
  obtain ⟨b2, o2, rfl⟩ := hA.cons.lD h (by omega) (by decide)
  obtain ⟨b3, o3, rfl⟩ := hD.cons.lD h (by omega) (by decide)
  have hlen := kU g fD cases cs i
  have Ix := nH (g := g) (fD := fD) hs hok i
  have e : dU g fD cases cs (i + 1) = j8 g fD i c (dU g fD cases cs i) := by rw [dU, hc]
  generalize hw : dU g fD cases cs i = ws at h hlen Ix e
  obtain ⟨way, ch, bQ⟩ := c
  dsimp only at k1 k2 k3 k4
  obtain ⟨q, rfl⟩ := Int.eq_ofNat_of_zero_le k1
  obtain ⟨q2, rfl⟩ := Int.eq_ofNat_of_zero_le k3
  obtain ⟨b1, wL⟩ := aP (l := bs) (i := q) (by omega)
  obtain ⟨x, hx⟩ := aP (l := ws) (i := q) (by omega)
  obtain ⟨v, hv⟩ := aP (l := fD) (i := q2) (by omega)
  have hxx : dK ws (q : Int) = x := by simp [dK, hx]
  have hvv : fD.getD q2 0 = v := by simp [hv]
  have hxs := Ix x (List.mem_of_getElem? hx)
  simp only [j8, hxx, Int.toNat_natCast, hvv] at e
  repeat (first|(refine aq h ?_;clear h;intro kb M h)|(refine au h ?_;clear h;intro M h)|refine St.to h ?_|(apply Exists.intro;(repeat apply Exists.intro);refine And.intro rfl ?_)|refine av ?_|refine ae ?_|refine ai ?_)
  simp only [Int.toNat_natCast]
  refine aZ (hB.cons.at h (i := i) (j := 0) hc rfl rfl) ?_
  refine aZ (hB.cons.at h (i := i) (j := 1) hc rfl rfl) ?_
  refine aZ (hB.cons.at h (i := i) (j := 2) hc rfl rfl) ?_
  dsimp only
  repeat (first|(refine aq h ?_;clear h;intro kb M h)|(refine au h ?_;clear h;intro M h)|refine St.to h ?_|(apply Exists.intro;(repeat apply Exists.intro);refine And.intro rfl ?_)|refine av ?_|refine ae ?_|refine ai ?_)
  refine aR.2 ⟨fun hw => ?_, fun hw => ?_⟩
  ·rw [if_pos hw] at e
   repeat (first|(refine aq h ?_;clear h;intro kb M h)|(refine au h ?_;clear h;intro M h)|refine St.to h ?_|(apply Exists.intro;(repeat apply Exists.intro);refine And.intro rfl ?_)|refine av ?_|refine ae ?_|refine ai ?_)
   refine mD (hA.cons.cons.at h (i := q) (j := 0) wL rfl (by simp [lW])) ?_
   have Lq := wL
   replace h := h.pick (.there .here)
   replace h := h.c6 bE wL hx
   refine pF (w := ⟨g, i, 0⟩) h (hxs.mono (by omega)) ?_
   clear h
   intro M h
   repeat (first|(refine aq h ?_;clear h;intro kb M h)|(refine au h ?_;clear h;intro M h)|refine St.to h ?_|(apply Exists.intro;(repeat apply Exists.intro);refine And.intro rfl ?_)|refine av ?_|refine ae ?_|refine ai ?_)
   rw [aV (by omega)]
   refine ⟨cases.length - (i + 1), by omega, i + 1, rfl, rfl, by omega, ?_⟩
   rw [e]
   exact (h.dN bE b1 wL (by omega)).bW
  rw [if_neg hw] at e
  refine aR.2 ⟨fun hw => ?_, fun hw => ?_⟩
  ·rw [if_pos hw] at e
   repeat (first|(refine aq h ?_;clear h;intro kb M h)|(refine au h ?_;clear h;intro M h)|refine St.to h ?_|(apply Exists.intro;(repeat apply Exists.intro);refine And.intro rfl ?_)|refine av ?_|refine ae ?_|refine ai ?_)
   refine mD (hA.cons.cons.at h (i := q) (j := 0) wL rfl (by simp [lW])) ?_
   repeat (first|(refine aq h ?_;clear h;intro kb M h)|(refine au h ?_;clear h;intro M h)|refine St.to h ?_|(apply Exists.intro;(repeat apply Exists.intro);refine And.intro rfl ?_)|refine av ?_|refine ae ?_|refine ai ?_)
   refine aZ (hD.cons.cons.at h (i := q2) (j := 0) hv rfl (by simp [bB])) ?_
   replace h := h.pick (.there .here)
   replace h := h.c6 bE wL hx
   refine pE (w := ⟨g, i, v⟩) h (hxs.mono (by omega)) ?_
   clear h
   intro M h
   repeat (first|(refine aq h ?_;clear h;intro kb M h)|(refine au h ?_;clear h;intro M h)|refine St.to h ?_|(apply Exists.intro;(repeat apply Exists.intro);refine And.intro rfl ?_)|refine av ?_|refine ae ?_|refine ai ?_)
   rw [aV (by omega)]
   refine ⟨cases.length - (i + 1), by omega, i + 1, rfl, rfl, by omega, ?_⟩
   rw [e]
   exact (h.dN bE b1 wL (by omega)).bW
  ·rw [if_neg hw] at e
   rw [aV (by omega)]
   refine ⟨cases.length - (i + 1), by omega, i + 1, rfl, rfl, by omega, ?_⟩
   rw [e]
   exact h.pA
 ·obtain rfl : i = cases.length := by omega
  exact k _ h
end
end Go.Proofs
namespace Go.Proofs
open Go.AF
structure cI where
 op : Int
 a : Int
 b : Int
 c : Int
 deriving DecidableEq
def cI.zero : cI := ⟨0, 0, 0, 0⟩
def je : iz cI := ⟨4, fun x => [.int .i64 x.op, .int .i64 x.a, .int .i64 x.b, .int .i64 x.c], fun _ => rfl, fun w v hv => by
 simp only [List.mem_cons, List.not_mem_nil, or_false] at hv; obtain rfl | rfl | rfl | rfl := hv <;> rfl⟩
structure gN where
 fn : Int
 pc : Int
 r : List Int
 qT : Int
 deriving DecidableEq
def gN.bQ (f : gN) (q : Int) : Int := f.r.getD q.toNat 0
def gN.set (f : gN) (q v : Int) : gN := { f with r := (List.range 8).map fun i => if i = q.toNat then v else f.r.getD i 0 }
def gN.next (f : gN) : gN := { f with pc := f.pc + 1 }
def gN.begin (fn v : Int) : gN := ⟨fn, 0, [v, 0, 0, 0, 0, 0, 0, 0], 0⟩
def X1 (f : gN) : List Value := [.int .i64 f.fn, .int .i64 f.pc, .int .i64 (f.r.getD 0 0), .int .i64 (f.r.getD 1 0), .int .i64 (f.r.getD 2 0), .int .i64 (f.r.getD 3 0), .int .i64 (f.r.getD 4 0), .int .i64 (f.r.getD 5 0), .int .i64 (f.r.getD 6 0), .int .i64 (f.r.getD 7 0), .int .i64 f.qT]
def j9 : iz gN := ⟨11, X1, fun _ => rfl, fun w v hv => by
 simp only [X1, List.mem_cons, List.not_mem_nil, or_false] at hv
 obtain rfl | rfl | rfl | rfl | rfl | rfl | rfl | rfl | rfl | rfl | rfl := hv <;> rfl⟩
theorem X3 {q : Int} (h0 : 0 ≤ q) (h8 : q < 8) : q = 0 ∨ q = 1 ∨ q = 2 ∨ q = 3 ∨ q = 4 ∨ q = 5 ∨ q = 6 ∨ q = 7 := by omega
theorem TM {f : gN} {q : Int} (h0 : 0 ≤ q) (h8 : q < 8) : (j9.f f)[2 + q.toNat]? = some (.int .i64 (f.bQ q)) := by
 obtain rfl | rfl | rfl | rfl | rfl | rfl | rfl | rfl := X3 h0 h8 <;> rfl
theorem Qo {f : gN} {q v : Int} (h0 : 0 ≤ q) (h8 : q < 8) : (j9.f f).set (2 + q.toNat) (.int .i64 v) = j9.f (f.set q v) := by
 obtain rfl | rfl | rfl | rfl | rfl | rfl | rfl | rfl := X3 h0 h8 <;> rfl
theorem TN {f : gN} {v : Int} : (j9.f f).set 1 (.int .i64 v) = j9.f { f with pc := v } := rfl
def gN.pure (f : gN) (x : cI) : gN :=
 if x.op = 0 then f
 else if x.op = 1 then f.set x.a x.b
 else if x.op = 2 then f.set x.a (f.bQ x.b)
 else if x.op = 3 then f.set x.a (IntKind.wrap .i64 (f.bQ x.b + f.bQ x.c))
 else if x.op = 4 then f.set x.a (IntKind.wrap .i64 (f.bQ x.b - f.bQ x.c))
 else if x.op = 5 then f.set x.a (IntKind.wrap .i64 (f.bQ x.b * f.bQ x.c))
 else if x.op = 6 then f.set x.a (if f.bQ x.b < f.bQ x.c then 1 else 0)
 else if x.op = 7 then { f with pc := x.a }
 else if f.bQ x.a ≠ 0 then { f with pc := x.b } else f
def aU (q : Int) : Prop := 0 ≤ q ∧ q < 8
instance (q : Int) : Decidable (aU q) := by unfold aU; infer_instance
def cI.cw (x : cI) : Prop :=
 (x.op ∈ [1, 8] → aU x.a) ∧ (x.op = 2 → aU x.a ∧ aU x.b) ∧ (x.op ∈ [3, 4, 5, 6] → aU x.a ∧ aU x.b ∧ aU x.c)
instance (x : cI) : Decidable x.cw := by unfold cI.cw; infer_instance
structure jl where
 st : Int
 fs : List gN
 wt : cI
 deriving DecidableEq
structure Lk where
 owner : Int
 waits : List Int
 deriving DecidableEq
structure bz where
 t : Int
 seq : Int
 id : Int
 deriving DecidableEq
def uw : iz bz := ⟨3, fun x => [.int .u64 x.t, .int .u64 x.seq, .int .i64 x.id], fun _ => rfl, fun w v hv => by
 simp only [List.mem_cons, List.not_mem_nil, or_false] at hv; obtain rfl | rfl | rfl := hv <;> rfl⟩
structure b7 where
 funcs : List (List cI)
 eG : List Int
 aL : Int
 cases : List om
structure Wd where
 gs : List jl
 clock : Int
 aD : List aT
 aL : List Lk
 hl : List bz
 mI : Int
 out : List Int
 end_ : Int
 code : Int
 ready : List Int
 deriving DecidableEq
def aj (x : Wd) (g : Int) : jl := x.gs.getD g.toNat ⟨0, [], .zero⟩
def Wd.bu (x : Wd) (g : Int) (y : jl) : Wd := { x with gs := x.gs.set g.toNat y }
def jl.top (y : jl) : gN := y.fs.getD (y.fs.length - 1) ⟨0, 0, [], 0⟩
def jl.cJ (y : jl) (f : gN) : jl := { y with fs := y.fs.set (y.fs.length - 1) f }
def Wd.bq (x : Wd) (g q v : Int) : Wd := x.bu g ((aj x g).cJ ((aj x g).top.set q v))
def Wd.eT (x : Wd) (g : Int) : Wd := { x.bu g { aj x g with st := 1 } with ready := x.ready ++ [g] }
def Wd.block (x : Wd) (g : Int) (i : cI) : Wd := x.bu g { aj x g with st := 2, wt := i }
def Wd.leave (x : Wd) (g : Int) : Wd := { x with aD := x.aD.map fun c => c.drop g }
def Wd.gv (x : Wd) (g k : Int) : Wd := (x.bq g (aj x g).wt.c k).leave g
def pH (p : b7) (k : Int) : om := p.cases.getD k.toNat ⟨0, 0, 0⟩
def Wd.received (p : b7) (x : Wd) (v : Wt) (some : Int) : Wd :=
 let i := (aj x v.g).wt
 (if i.op = 16 then ((x.bq v.g (pH p (i.a + v.cs)).bQ v.v).gv v.g v.cs)
  else (x.bq v.g i.b v.v).bq v.g i.c some).eT v.g
def Wd.sent (x : Wd) (v : Wt) : Wd := (if (aj x v.g).wt.op = 16 then x.gv v.g v.cs else x).eT v.g
inductive Out (α : Type) where
 | on (a : α)
 | eC (code : Int) (x : Wd)
 | cT (l : List PanicEntry) (x : Wd)
def Wd.cj (x : Wd) (k : Int) (c : aT) : Wd := { x with aD := x.aD.set k.toNat c }
def Wd.put (p : b7) (x : Wd) (k v : Int) : Out (Wd × Bool) :=
 let s := (dK x.aD k).send v
 if s.2.2.2 = 10 then .eC (-1) (x.cj k s.1)
 else .on ((if s.2.2.1 then (x.cj k s.1).received p s.2.1 1 else x.cj k s.1), s.2.2.2 == 0)
def Wd.get (x : Wd) (k : Int) : Wd × Int × Int × Bool :=
 let s := (dK x.aD k).recv
 let y := if s.2.2.2.2.1 then (x.cj k s.1).sent s.2.2.2.1 else x.cj k s.1
 if s.2.2.1 then (y, s.2.1, 1, true) else (y, 0, 0, s.2.2.2.2.2 == 0)
def bj (x : Wd) (g : Int) : Prop := 0 ≤ g ∧ g < x.gs.length ∧ 0 < (aj x g).fs.length ∧ (aj x g).fs.length ≤ 1000
instance (x : Wd) (g : Int) : Decidable (bj x g) := by unfold bj; infer_instance
def pI (p : b7) (x : Wd) (v : Wt) : Prop := bj x v.g ∧
 if (aj x v.g).wt.op = 16 then 0 ≤ (aj x v.g).wt.a + v.cs ∧ (aj x v.g).wt.a + v.cs < p.cases.length ∧ p.cases.length ≤ 1000 ∧ aU (pH p ((aj x v.g).wt.a + v.cs)).bQ ∧ aU (aj x v.g).wt.c
 else aU (aj x v.g).wt.b ∧ aU (aj x v.g).wt.c
instance (p : b7) (x : Wd) (v : Wt) : Decidable (pI p x v) := by unfold pI; infer_instance
def wX (x : Wd) (v : Wt) : Prop := bj x v.g ∧ ((aj x v.g).wt.op = 16 → aU (aj x v.g).wt.c)
instance (x : Wd) (v : Wt) : Decidable (wX x v) := by unfold wX; infer_instance
def Wd.Sm (x : Wd) : Prop := (∀ c ∈ x.aD, c.Small 1000000) ∧ x.aD.length ≤ 1000 ∧ x.gs.length ≤ 1000 ∧ x.ready.length ≤ 1000000 ∧ x.out.length ≤ 1000000 ∧ (∀ l ∈ x.aL, l.waits.length ≤ 1000000) ∧ x.aL.length ≤ 1000 ∧ x.hl.length ≤ 1000000
instance (x : Wd) : Decidable x.Sm := by unfold Wd.Sm; infer_instance
theorem gF {x : Wd} {g : Int} {y : jl} (h0 : 0 ≤ g) (hg : g < x.gs.length) : aj (x.bu g y) g = y := by
 have : g.toNat < x.gs.length := by omega
 simp [aj, Wd.bu, this]
end Go.Proofs
namespace Go.Proofs
open Go.AF
set_option maxRecDepth 100000
variable {M : Mem} {K : Value → Mem → Prop} {Kp : List PanicEntry → Mem → Prop}
theorem sP {B0 : Option Addr} {m0 c0 : Nat} (h :
aO ((m0 : Int) == 0)
 (K (.pointer none) M)
 (((0 : Int) ≤ (IntKind.wrap .i64 ((m0 : Int) - 1))) ∧
 (((IntKind.wrap .i64 ((m0 : Int) - 1)) : Int) < (m0 : Int)) ∧
 aF B0 fun k1 k2 =>
 K (.pointer (some ⟨k1, (k2 + ((Int.toNat (IntKind.wrap .i64 ((m0 : Int) - 1))) * 11)), none⟩)) M)) :
 aa Tryz.prog 189 #[.slice B0 m0 c0] M K Kp := vw [] Tryz.func189 h
theorem oA {b0 o0 : Nat} {x1 : Int} (h :
aO (decide ((x1 : Int) < 0))
 (K (.int .i64 0) M)
 (aB (Mem.ld M ⟨b0, (o0 + 4), none⟩) fun A1 k2 k3 =>
 aO (decide ((x1 : Int) ≥ ((k2 : Nat) : Int)))
  (K (.int .i64 0) M)
  (aB (Mem.ld M ⟨b0, (o0 + 4), none⟩) fun A4 k5 k6 =>
  ((0 : Int) ≤ x1) ∧
  ((x1 : Int) < ((k5 : Nat) : Int)) ∧
  aF A4 fun k7 k8 =>
  cy (Mem.ld M ⟨k7, (k8 + (Int.toNat x1)), none⟩) fun A9 =>
  aF A9 fun gh fu =>
  aJ (Mem.ld M ⟨gh, fu, none⟩) .i64 fun jK =>
  K (.int .i64 jK) M))) :
 aa Tryz.prog 119 ([.pointer (some ⟨b0, o0, none⟩), .int .i64 x1] : List Value).toArray M K Kp :=
 cu (C := Cx) good [] Tryz.func119 (by kernel_rfl) (by kernel_rfl) h
theorem sQ {b0 o0 : Nat} (h :
rS M b0 (o0 + 4) fun A1 k2 k3 =>
K (iV (k2 : Int)) M) :
 aa Tryz.prog 73 #[.pointer (some ⟨b0, o0, none⟩)] M K Kp := vw [] Tryz.func73 h
theorem sR {b0 o0 : Nat} (h :
rI M b0 (o0 + 11) fun n1 =>
rI M b0 (o0 + 12) fun n2 =>
K (.tuple #[(iV n1), (iV n2)]) M) :
 aa Tryz.prog 28 #[.pointer (some ⟨b0, o0, none⟩)] M K Kp := vw [(1, .bQ [0, 1, 3, 7, 0, 16, 48, 112, 15, 511] (sy [0, 1, 2, 4, 5, 6, 3, 8, 7, 9] .done))] Tryz.func28 h
theorem qU {b0 o0 : Nat} (h :
aJ (Mem.ld M ⟨b0, (o0 + 11), none⟩) .i64 fun n1 =>
aO (n1 != 0)
 (K (.slice none 0 0) M)
 (aJ (Mem.ld M ⟨b0, (o0 + 5), none⟩) .u64 fun n2 =>
 aK M ⟨b0, (o0 + 5), none⟩ (.int .u64 (IntKind.wrap .u64 (n2 + 1))) fun M3 =>
 aK M3 ⟨b0, (o0 + 13), none⟩ (.slice none 0 0) fun M4 =>
 aJ (Mem.ld M4 ⟨b0, (o0 + 5), none⟩) .u64 fun n5 =>
 aa Tryz.prog 157 #[(.pointer (some ⟨b0, (o0 + 8), none⟩)), (.int .u64 n5)] M4 (fun v6 M7 =>
 aB (some v6) fun A8 k9 gh =>
 ∃ I11 : Nat → List Value → Mem → Prop, (∃ gY : Nat, I11 gY [(.int .i64 0)] M7) ∧
 ∀ eK : Nat, ∀ junk14 : Nat → Value, ∀ kZ : Int, ∀ fq : Mem, (I11 eK [(.int .i64 kZ)] fq) → aO (decide ((kZ : Int) < ((k9 : Nat) : Int)))
  (((0 : Int) ≤ kZ) ∧
  ((kZ : Int) < ((k9 : Nat) : Int)) ∧
  aF A8 fun fx fI =>
  aJ (Mem.ld fq ⟨fx, (fI + ((Int.toNat kZ) * 3)), none⟩) .u64 fun yQ =>
  aJ (Mem.ld fq ⟨fx, ((fI + ((Int.toNat kZ) * 3)) + 1), none⟩) .u64 fun gd =>
  aJ (Mem.ld fq ⟨fx, ((fI + ((Int.toNat kZ) * 3)) + 2), none⟩) .i64 fun sK =>
  bh fq (.cells #[(.int .u64 0), (.int .u64 0), (.int .i64 0)] 203 (0, 0)) fun iw mj =>
  aK mj ⟨iw, 0, none⟩ (.int .u64 yQ) fun j6 =>
  aK j6 ⟨iw, (0 + 1), none⟩ (.int .u64 gd) fun Iv =>
  aK Iv ⟨iw, (0 + 2), none⟩ (.int .i64 sK) fun xY =>
  aJ (Mem.ld xY ⟨iw, (0 + 2), none⟩) .i64 fun oB =>
  aa Tryz.prog 158 #[(.pointer (some ⟨b0, o0, none⟩)), (.int .i64 oB)] xY (fun TL oS =>
  (TL = (.tuple #[])) ∧
  ∃ mH : Nat, (mH < eK) ∧
  I11 mH [(.int .i64 (IntKind.wrap .i64 (kZ + 1)))] oS) Kp)
  (aB (Mem.ld fq ⟨b0, (o0 + 13), none⟩) fun TO uo so =>
  K (.slice TO uo so) fq)) Kp)) :
 aa Tryz.prog 120 ([.pointer (some ⟨b0, o0, none⟩)] : List Value).toArray M K Kp :=
 cu (C := Cx) good [(5, .bQ [0, 1, 3, 0, 8, 24, 56, 127, 255, 0] (.step 0 (.step 1 (.step 2 (.step 3 (.step 4 (.step 5 (.step 9 (.step 6 (.step 7 (.step 8 .done))))))))))), (2000000, .loop [(29, .c (.int .i64))])] Tryz.func120 (by kernel_rfl) (by kernel_rfl) h
theorem yV {x0 : Int} {x1 : Int} (h :
bh M (cl [(iV x0), (iV 0), (iV x1), (iV 0), (iV 0), (iV 0), (iV 0), (iV 0), (iV 0), (iV 0), (iV 0)] 275) fun k1 M2 =>
K (.slice (some ⟨k1, 0, none⟩) 1 1) M2) :
 aa Tryz.prog 112 #[.int .i64 x0, .int .i64 x1] M K Kp := vw [] Tryz.func112 h
theorem CW  (h :
bh M (cl [(iV (-1)), (.slice none 0 0)] 307) fun k1 M2 =>
K (.pointer (some ⟨k1, 0, none⟩)) M2) :
 aa Tryz.prog 114 #[] M K Kp := vw [] Tryz.func114 h
theorem ux {b0 o0 : Nat} {x1 : Int} (h :
∃ I1 : Nat → List Value → Mem → Prop, (∃ k2 : Nat, I1 k2 [(.slice none 0 0)] M) ∧
∀ k3 : Nat, ∀ Sx : Nat → Value, ∀ A5 : Option Addr, ∀ k6 : Nat, ∀ k7 : Nat, ∀ M8 : Mem, (I1 k3 [(.slice A5 k6 k7)] M8) → aB (Mem.ld M8 ⟨b0, o0, none⟩) fun A9 gh fu =>
aO (decide ((((gh : Nat) : Int) : Int) > 0))
 (aB (Mem.ld M8 ⟨b0, o0, none⟩) fun An eK jH =>
 ((0 : Int) ≤ 0) ∧
 ((0 : Int) < ((eK : Nat) : Int)) ∧
 aF An fun iW fH =>
 aJ (Mem.ld M8 ⟨iW, (fH + 0), none⟩) .u64 fun iQ =>
 aO (decide ((iQ : Int) ≤ x1))
  (aa Tryz.prog 117 #[(.pointer (some ⟨b0, o0, none⟩)), (.int .i64 0)] M8 (fun En jB =>
  ∃ gd : Int, ∃ sK : Int, ∃ wT : Int, (En = (.agg #[(.int .u64 gd), (.int .u64 sK), (.int .i64 wT)])) ∧
  bh jB (.cells #[(.int .u64 gd), (.int .u64 sK), (.int .i64 wT)] 203 (0, 0)) fun jm j6 =>
  aY Tryz.prog (Go.Builtin.append_ #[46, 46] 46 #[(.slice A5 k6 k7), (.slice (some ⟨jm, 0, none⟩) 1 1)]) j6 (fun TP xY =>
  aB (some TP) fun PB oC iq =>
  ∃ mH : Nat, (mH < k3) ∧
  I1 mH [(.slice PB oC iq)] xY) Kp) Kp)
  (K (.slice A5 k6 k7) M8))
 (K (.slice A5 k6 k7) M8)) :
 aa Tryz.prog 157 ([.pointer (some ⟨b0, o0, none⟩), .int .u64 x1] : List Value).toArray M K Kp :=
 cu (C := Cx) good [(2000000, .loop [(5, .c .sl)])] Tryz.func157 (by kernel_rfl) (by kernel_rfl) h
theorem qV {b0 o0 : Nat} {x1 : Int} (h :
rS M b0 (o0 + 4) fun A1 k2 k3 =>
((0 : Int) ≤ x1) ∧
((x1 : Int) < k2) ∧
aF A1 fun k4 k5 =>
rP M k4 (k5 + (Int.toNat x1)) fun A6 =>
aF A6 fun k7 k8 =>
sT M k7 k8 (iV 1) fun M9 =>
rS M9 b0 (o0 + 13) fun FF fu gY =>
bh M9 (cl [(iV x1)] 3) fun eK oh =>
aA 36 FF fu gY (some ⟨eK, 0, none⟩) 1 1 oh (fun CU fq =>
aB (some CU) fun Py fI jI =>
sT fq b0 (o0 + 13) (.slice Py fI jI) fun vL =>
K (.tuple #[]) vL) Kp) :
 aa Tryz.prog 158 #[.pointer (some ⟨b0, o0, none⟩), .int .i64 x1] M K Kp := vw [] Tryz.func158 h
theorem qW {b0 o0 : Nat} {cU : Int} {cV : Int} {cW : Int} {eX : Int} (h :
bh M (cl [(iV cU), (iV cV), (iV cW), (iV eX)] 27) fun k1 M2 =>
rI M2 k1 0 fun n3 =>
aa Tryz.prog 203 #[] M2 (fun v4 M5 =>
eI M5 k1 0 n3 ∧
aY Tryz.prog (Go.Instr.lookup 361 v4 (iV n3) true) M5 (fun v6 M7 =>
∃ v8 : Value, ∃ t9 : Bool, (v6 = (.tuple #[v8, (.bool t9)])) ∧
eI M7 k1 0 n3 ∧
aO t9
 (rI M7 b0 (o0 + 1) fun iZ =>
 sT M7 b0 (o0 + 1) (iV (IntKind.wrap .i64 (iZ + 1))) fun jJ =>
 bH jJ k1 0 fun jK j7 lY kZ =>
 iB Cx v8 [(.pointer (some ⟨b0, o0, none⟩)), (.agg #[(iV jK), (iV j7), (iV lY), (iV kZ)])] jJ (fun Na oz =>
 (Na = (.tuple #[])) ∧
 K (.bool t9) oz) Kp)
 (K (.bool t9) M7)) Kp) Kp) :
 aa Tryz.prog 190 #[.pointer (some ⟨b0, o0, none⟩), .agg #[.int .i64 cU, .int .i64 cV, .int .i64 cW, .int .i64 eX]] M K Kp := vw [(1, .bQ [0, 0, 2, 7, 15, 31, 31, 63, 255] (sy [1] (.dD 2 (sy [0, 3, 4, 5, 6, 7, 8] .done))))] Tryz.func190 h
theorem oD {b0 o0 : Nat} {x1 : Int} {b2 o2 : Nat} {eY : Int} {eZ : Int} {e8 : Int} {fa : Int} (h :
bh M (cl [(iV eY), (iV eZ), (iV e8), (iV fa)] 27) fun k1 M2 =>
bH M2 k1 0 fun n3 n4 n5 n6 =>
aa Tryz.prog 204 #[(.pointer (some ⟨b0, o0, none⟩)), (.agg #[(iV n3), (iV n4), (iV n5), (iV n6)])] M2 (fun v7 M8 =>
aB (some v7) fun A9 gh fu =>
rS M8 b0 (o0 + 6) fun An eK jH =>
aa Tryz.prog 205 #[(.slice A9 gh fu), (.slice An eK jH)] M8 (fun CU fq =>
aB (some CU) fun Py fI jI =>
aO ((fI : Int) == 0)
 (rI fq b2 (o2 + 1) fun gd =>
 sT fq b2 (o2 + 1) (iV (IntKind.wrap .i64 (gd + 1))) fun ov =>
 aa Tryz.prog 206 #[(.slice A9 gh fu)] ov (fun Kc mj =>
 ∃ DG : Int, ∃ t25 : Bool, (Kc = (.tuple #[(iV DG), (.bool t25)])) ∧
 aO t25
 (rI mj k1 3 fun oU =>
 (0 ≤ oU) ∧
 (oU < 8) ∧
 sT mj b2 ((o2 + 2) + (Int.toNat oU)) (iV DG) fun xU =>
 K (.tuple #[]) xU)
 (((0 : Int) ≤ 8) ∧
 ((8 : Int) ≤ 8) ∧
 ((0 : Int) ≤ 8) ∧
 ((8 : Int) ≤ 8) ∧
 ((0 : Int) ≤ 0) ∧
 ((0 : Int) ≤ 8) ∧
 rS mj b0 (o0 + 6) fun TK iq mH =>
 aa Tryz.prog 207 #[(iV x1), (.slice A9 gh fu), (.slice (lp (some ⟨b2, (o2 + 2), none⟩) 0 8 1) 8 8), (.slice TK iq mH)] mj (fun TJ sk =>
 (TJ = (.tuple #[])) ∧
 bH sk k1 0 fun sL Ke DH vP =>
 aa Tryz.prog 208 #[(.pointer (some ⟨b0, o0, none⟩)), (iV x1), (.agg #[(iV sL), (iV Ke), (iV DH), (iV vP)])] sk (fun v37 lZ =>
 (v37 = (.tuple #[])) ∧
 K (.tuple #[]) lZ) Kp) Kp)) Kp)
 (dZ (Mem.ld fq ⟨b0, (o0 + 14), none⟩) fun v39 =>
 iB Cx v39 [(iV 3), (iV (fI : Int))] fq (fun Kf Ap =>
 aJ (some Kf) .i64 fun FL =>
 (0 ≤ FL) ∧
 (FL < fI) ∧
 aF Py fun yM Gq =>
 rI Ap yM (Gq + (Int.toNat FL)) fun Aq =>
 rI Ap b2 (o2 + 1) fun DI =>
 sT Ap b2 (o2 + 1) (iV (IntKind.wrap .i64 (DI + 1))) fun wY =>
 (0 ≤ Aq) ∧
 (Aq < gh) ∧
 aF A9 fun Qp GB =>
 lX wY Qp (GB + ((Int.toNat Aq) * 3)) fun Nb GC X4 =>
 bh wY qz fun qB Qk =>
 Io Qk qB (iV Nb) (iV GC) (iV X4) fun MN =>
 rI MN qB 0 fun CP =>
 aO (CP == 1)
 (rI MN qB 1 fun tK =>
 rI MN qB 2 fun MO =>
 (0 ≤ MO) ∧
 (MO < 8) ∧
 rI MN b2 ((o2 + 2) + (Int.toNat MO)) fun J6 =>
 aa Tryz.prog 209 #[(.pointer (some ⟨b0, o0, none⟩)), (iV tK), (iV J6)] MN (fun Qq Al =>
 de (some Qq) fun t64 =>
 rI Al k1 3 fun xT =>
 (0 ≤ xT) ∧
 (xT < 8) ∧
 sT Al b2 ((o2 + 2) + (Int.toNat xT)) (iV Aq) fun WT =>
 K (.tuple #[]) WT) Kp)
 (rI MN qB 1 fun Sy =>
 rI MN qB 2 fun Nc =>
 aa Tryz.prog 210 #[(.pointer (some ⟨b0, o0, none⟩)), (iV Sy)] MN (fun v69 Iy =>
 ∃ Lz X5 : Int, ∃ t73 : Bool, (v69 = (.tuple #[(iV Lz), (iV X5), (.bool t73)])) ∧
 eI Iy qB 2 Nc ∧
 (0 ≤ Nc) ∧
 (Nc < 8) ∧
 sT Iy b2 ((o2 + 2) + (Int.toNat Nc)) (iV Lz) fun Ew =>
 eI Ew qB 2 Nc ∧
 rI Ew k1 3 fun CQ =>
 (0 ≤ CQ) ∧
 (CQ < 8) ∧
 sT Ew b2 ((o2 + 2) + (Int.toNat CQ)) (iV Aq) fun M76 =>
 K (.tuple #[]) M76) Kp)) Kp)) Kp) Kp) :
 aa Tryz.prog 191 #[.pointer (some ⟨b0, o0, none⟩), .int .i64 x1, .pointer (some ⟨b2, o2, none⟩), .agg #[.int .i64 eY, .int .i64 eZ, .int .i64 e8, .int .i64 fa]] M K Kp := vw [(7, .bQ [0, 0, 2, 0, 1, 17, 63, 127] (sy [0, 1, 3, 4, 5, 2, 6, 7] .done)), (8, .bQ [0, 0, 0, 4, 12, 28, 0, 64, 192, 448, 1023] (sy [0, 1, 2, 3, 4, 5, 6, 7, 8, 9, 10] .done)), (14, .bQ [0, 0, 2, 0, 0, 16, 8, 72, 248, 504, 1023] (sy [0, 1, 3, 4, 6, 7, 2, 5, 8, 9, 10] .done)), (15, .bQ [0, 0, 2, 0, 0, 16, 56, 120, 248, 248, 248, 1, 2049, 6655, 14847] (sy [0, 1, 3, 4, 11, 12, 5] (.dD 2 (sy [6, 7, 8, 9, 10, 13, 14] .done)))), (16, .bQ [0, 0, 2, 0, 1, 17, 63, 127] (sy [0, 1, 3, 4, 5, 2, 6, 7] .done))] Tryz.func191 h
theorem qX {b0 o0 : Nat} {x1 : Int} {b2 o2 : Nat} {eY : Int} {eZ : Int} {e8 : Int} {fa : Int} (h :
bh M (cl [(iV eY), (iV eZ), (iV e8), (iV fa)] 27) fun k1 M2 =>
dZ (Mem.ld M2 ⟨b0, (o0 + 14), none⟩) fun v3 =>
rI M2 k1 2 fun n4 =>
iB Cx v3 [(iV 4), (iV n4)] M2 (fun v5 M6 =>
aJ (some v5) .i64 fun n7 =>
rI M6 b2 (o2 + 1) fun n8 =>
sT M6 b2 (o2 + 1) (iV (IntKind.wrap .i64 (n8 + 1))) fun M9 =>
rI M9 k1 1 fun iZ =>
(0 ≤ iZ) ∧
(iZ < 8) ∧
sT M9 b2 ((o2 + 2) + (Int.toNat iZ)) (iV n7) fun jJ =>
K (.tuple #[]) jJ) Kp) :
 aa Tryz.prog 192 #[.pointer (some ⟨b0, o0, none⟩), .int .i64 x1, .pointer (some ⟨b2, o2, none⟩), .agg #[.int .i64 eY, .int .i64 eZ, .int .i64 e8, .int .i64 fa]] M K Kp := vw [(1, .bQ [0, 1, 3, 7, 0, 16, 63, 127] (sy [0, 1, 2, 4, 3, 5, 6, 7] .done)), (3, .bQ [0, 0, 2, 0, 1, 17, 63, 127] (sy [0, 1, 3, 4, 5, 2, 6, 7] .done))] Tryz.func192 h
theorem yW  (h :
bh M (.map #[] 0) fun k1 M2 =>
bA Tryz.prog (Go.Instr.mapUpdate 345 (.map (some k1)) (iV 9) (.func (.func 211) #[] #[])) M2 (fun M3 =>
bA Tryz.prog (Go.Instr.mapUpdate 345 (.map (some k1)) (iV 10) (.func (.func 212) #[] #[])) M3 (fun M4 =>
bA Tryz.prog (Go.Instr.mapUpdate 345 (.map (some k1)) (iV 11) (.func (.func 213) #[] #[])) M4 (fun M5 =>
bA Tryz.prog (Go.Instr.mapUpdate 345 (.map (some k1)) (iV 12) (.func (.func 214) #[] #[])) M5 (fun M6 =>
bA Tryz.prog (Go.Instr.mapUpdate 345 (.map (some k1)) (iV 13) (.func (.func 215) #[] #[])) M6 (fun M7 =>
bA Tryz.prog (Go.Instr.mapUpdate 345 (.map (some k1)) (iV 14) (.func (.func 216) #[] #[])) M7 (fun M8 =>
bA Tryz.prog (Go.Instr.mapUpdate 345 (.map (some k1)) (iV 15) (.func (.func 217) #[] #[])) M8 (fun M9 =>
bA Tryz.prog (Go.Instr.mapUpdate 345 (.map (some k1)) (iV 17) (.func (.func 218) #[] #[])) M9 (fun iU =>
bA Tryz.prog (Go.Instr.mapUpdate 345 (.map (some k1)) (iV 18) (.func (.func 219) #[] #[])) iU (fun jJ =>
bA Tryz.prog (Go.Instr.mapUpdate 345 (.map (some k1)) (iV 19) (.func (.func 220) #[] #[])) jJ (fun sg =>
bA Tryz.prog (Go.Instr.mapUpdate 345 (.map (some k1)) (iV 20) (.func (.func 221) #[] #[])) sg (fun mG =>
bA Tryz.prog (Go.Instr.mapUpdate 345 (.map (some k1)) (iV 22) (.func (.func 222) #[] #[])) mG (fun oh =>
K (.map (some k1)) oh) Kp) Kp) Kp) Kp) Kp) Kp) Kp) Kp) Kp) Kp) Kp) Kp) :
 aa Tryz.prog 193 #[] M K Kp := vw [] Tryz.func193 h
theorem qY {b0 o0 : Nat} {x1 : Int} (h :
bh M (.cells #[(.int .u64 0), (.int .u64 0), (.int .i64 0)] 203 (0, 0)) fun k1 M2 =>
aB (Mem.ld M2 ⟨b0, o0, none⟩) fun A3 k4 k5 =>
((0 : Int) ≤ x1) ∧
((x1 : Int) < ((k4 : Nat) : Int)) ∧
aF A3 fun k6 k7 =>
aJ (Mem.ld M2 ⟨k6, (k7 + ((Int.toNat x1) * 3)), none⟩) .u64 fun n8 =>
aJ (Mem.ld M2 ⟨k6, ((k7 + ((Int.toNat x1) * 3)) + 1), none⟩) .u64 fun n9 =>
aJ (Mem.ld M2 ⟨k6, ((k7 + ((Int.toNat x1) * 3)) + 2), none⟩) .i64 fun iZ =>
bh M2 (.cells #[(.int .u64 0), (.int .u64 0), (.int .i64 0)] 203 (0, 0)) fun fu sg =>
aK sg ⟨fu, 0, none⟩ (.int .u64 n8) fun mG =>
aK mG ⟨fu, (0 + 1), none⟩ (.int .u64 n9) fun oh =>
aK oh ⟨fu, (0 + 2), none⟩ (.int .i64 iZ) fun sr =>
aB (Mem.ld sr ⟨b0, o0, none⟩) fun WU fx fI =>
aa Tryz.prog 154 #[(.pointer (some ⟨b0, o0, none⟩)), (.int .i64 x1), (.int .i64 (IntKind.wrap .i64 (((fx : Nat) : Int) - 1)))] sr (fun TQ vL =>
(TQ = (.tuple #[])) ∧
aB (Mem.ld vL ⟨b0, o0, none⟩) fun CT iw jm =>
((0 : Int) ≤ ((jm : Nat) : Int)) ∧
((((jm : Nat) : Int) : Int) ≤ ((jm : Nat) : Int)) ∧
((0 : Int) ≤ (IntKind.wrap .i64 (((fx : Nat) : Int) - 1))) ∧
(((IntKind.wrap .i64 (((fx : Nat) : Int) - 1)) : Int) ≤ ((jm : Nat) : Int)) ∧
((0 : Int) ≤ 0) ∧
((0 : Int) ≤ (IntKind.wrap .i64 (((fx : Nat) : Int) - 1))) ∧
aK vL ⟨b0, o0, none⟩ (.slice (lp CT 0 (Int.toNat ((jm : Nat) : Int)) 3) ((Int.toNat (IntKind.wrap .i64 (((fx : Nat) : Int) - 1))) - 0) ((Int.toNat ((jm : Nat) : Int)) - 0)) fun j6 =>
aO (decide ((x1 : Int) < (IntKind.wrap .i64 (((fx : Nat) : Int) - 1))))
 (aa Tryz.prog 155 #[(.pointer (some ⟨b0, o0, none⟩)), (.int .i64 x1)] j6 (fun TP xY =>
 (TP = (.tuple #[])) ∧
 aa Tryz.prog 156 #[(.pointer (some ⟨b0, o0, none⟩)), (.int .i64 x1)] xY (fun Qn vK =>
 (Qn = (.tuple #[])) ∧
 aJ (Mem.ld vK ⟨fu, 0, none⟩) .u64 fun xX =>
 aJ (Mem.ld vK ⟨fu, (0 + 1), none⟩) .u64 fun Ey =>
 aJ (Mem.ld vK ⟨fu, (0 + 2), none⟩) .i64 fun si =>
 aK vK ⟨k1, 0, none⟩ (.int .u64 xX) fun sk =>
 aK sk ⟨k1, (0 + 1), none⟩ (.int .u64 Ey) fun Ao =>
 aK Ao ⟨k1, (0 + 2), none⟩ (.int .i64 si) fun sq =>
 aJ (Mem.ld sq ⟨k1, 0, none⟩) .u64 fun DH =>
 aJ (Mem.ld sq ⟨k1, (0 + 1), none⟩) .u64 fun vP =>
 aJ (Mem.ld sq ⟨k1, (0 + 2), none⟩) .i64 fun Eo =>
 K (.agg #[(.int .u64 DH), (.int .u64 vP), (.int .i64 Eo)]) sq) Kp) Kp)
 (aJ (Mem.ld j6 ⟨fu, 0, none⟩) .u64 fun J1 =>
 aJ (Mem.ld j6 ⟨fu, (0 + 1), none⟩) .u64 fun J2 =>
 aJ (Mem.ld j6 ⟨fu, (0 + 2), none⟩) .i64 fun Nd =>
 aK j6 ⟨k1, 0, none⟩ (.int .u64 J1) fun Ap =>
 aK Ap ⟨k1, (0 + 1), none⟩ (.int .u64 J2) fun Qr =>
 aK Qr ⟨k1, (0 + 2), none⟩ (.int .i64 Nd) fun tL =>
 aJ (Mem.ld tL ⟨k1, 0, none⟩) .u64 fun CX =>
 aJ (Mem.ld tL ⟨k1, (0 + 1), none⟩) .u64 fun Aq =>
 aJ (Mem.ld tL ⟨k1, (0 + 2), none⟩) .i64 fun DI =>
 K (.agg #[(.int .u64 CX), (.int .u64 Aq), (.int .i64 DI)]) tL)) Kp) :
 aa Tryz.prog 117 ([.pointer (some ⟨b0, o0, none⟩), .int .i64 x1] : List Value).toArray M K Kp :=
 cu (C := Cx) good [] Tryz.func117 (by kernel_rfl) (by kernel_rfl) h
theorem yX  (h :
bh M (.map #[] 0) fun k1 M2 =>
bA Tryz.prog (Go.Instr.mapUpdate 361 (.map (some k1)) (iV 0) (.func (.func 225) #[] #[])) M2 (fun M3 =>
bA Tryz.prog (Go.Instr.mapUpdate 361 (.map (some k1)) (iV 1) (.func (.func 226) #[] #[])) M3 (fun M4 =>
bA Tryz.prog (Go.Instr.mapUpdate 361 (.map (some k1)) (iV 2) (.func (.func 227) #[] #[])) M4 (fun M5 =>
bA Tryz.prog (Go.Instr.mapUpdate 361 (.map (some k1)) (iV 3) (.func (.func 228) #[] #[])) M5 (fun M6 =>
bA Tryz.prog (Go.Instr.mapUpdate 361 (.map (some k1)) (iV 4) (.func (.func 229) #[] #[])) M6 (fun M7 =>
bA Tryz.prog (Go.Instr.mapUpdate 361 (.map (some k1)) (iV 5) (.func (.func 230) #[] #[])) M7 (fun M8 =>
bA Tryz.prog (Go.Instr.mapUpdate 361 (.map (some k1)) (iV 6) (.func (.func 231) #[] #[])) M8 (fun M9 =>
bA Tryz.prog (Go.Instr.mapUpdate 361 (.map (some k1)) (iV 7) (.func (.func 232) #[] #[])) M9 (fun iU =>
bA Tryz.prog (Go.Instr.mapUpdate 361 (.map (some k1)) (iV 8) (.func (.func 233) #[] #[])) iU (fun jJ =>
K (.map (some k1)) jJ) Kp) Kp) Kp) Kp) Kp) Kp) Kp) Kp) Kp) :
 aa Tryz.prog 203 #[] M K Kp := vw [] Tryz.func203 h
theorem pJ {b0 o0 : Nat} {cU : Int} {cV : Int} {cW : Int} {eX : Int} (h :
bh M (cl [(iV cU), (iV cV), (iV cW), (iV eX)] 27) fun k1 M2 =>
rS M2 b0 (o0 + 3) fun A3 k4 k5 =>
rI M2 k1 1 fun n6 =>
rI M2 k1 1 fun n7 =>
rI M2 k1 2 fun n8 =>
((0 : Int) ≤ k5) ∧
((k5 : Int) ≤ k5) ∧
((0 : Int) ≤ (IntKind.wrap .i64 (n7 + n8))) ∧
(((IntKind.wrap .i64 (n7 + n8)) : Int) ≤ (k5 : Int)) ∧
(0 ≤ n6) ∧
((n6 : Int) ≤ (IntKind.wrap .i64 (n7 + n8))) ∧
K (.slice (lp A3 (Int.toNat n6) (Int.toNat (k5 : Int)) 3) ((Int.toNat (IntKind.wrap .i64 (n7 + n8))) - (Int.toNat n6)) ((Int.toNat (k5 : Int)) - (Int.toNat n6))) M2) :
 aa Tryz.prog 204 #[.pointer (some ⟨b0, o0, none⟩), .agg #[.int .i64 cU, .int .i64 cV, .int .i64 cW, .int .i64 eX]] M K Kp := vw [(1, .bQ [0, 1, 3, 7, 15, 0, 32, 0, 128, 0, 512, 1920, 4095, 8191] (sy [0, 1, 2, 3, 5, 7, 9, 4, 6, 8, 10, 11, 12, 13] .done))] Tryz.func204 h
theorem pK {b0 o0 : Nat} {x1 : Int} {Nf : Int} {Ng : Int} {Nh : Int} {Ni : Int} (h :
bh M (cl [(iV Nf), (iV Ng), (iV Nh), (iV Ni)] 27) fun k1 M2 =>
rS M2 b0 (o0 + 4) fun A3 k4 k5 =>
((0 : Int) ≤ x1) ∧
((x1 : Int) < k4) ∧
aF A3 fun k6 k7 =>
rP M2 k6 (k7 + (Int.toNat x1)) fun A8 =>
rS M2 b0 (o0 + 4) fun A9 gh fu =>
((0 : Int) ≤ x1) ∧
((x1 : Int) < gh) ∧
aF A9 fun gY eK =>
rP M2 gY (eK + (Int.toNat x1)) fun oT =>
aF A8 fun iW fH =>
bH M2 k1 0 fun iQ lq yQ gd =>
sT M2 iW fH (iV 2) fun ov =>
((Mem.iS ov ⟨k1, 0, none⟩ 0 4) = some [(iV iQ), (iV lq), (iV yQ), (iV gd)]) ∧
aF oT fun iw jm =>
sT ov iw (jm + 2) (iV iQ) fun j6 =>
sT j6 iw ((jm + 2) + 1) (iV lq) fun Iv =>
sT Iv iw ((jm + 2) + 2) (iV yQ) fun xY =>
sT xY iw ((jm + 2) + 3) (iV gd) fun xU =>
((Mem.iS xU ⟨k1, 0, none⟩ 0 4) = some [(iV iQ), (iV lq), (iV yQ), (iV gd)]) ∧
K (.tuple #[]) xU) :
 aa Tryz.prog 208 #[.pointer (some ⟨b0, o0, none⟩), .int .i64 x1, .agg #[.int .i64 Nf, .int .i64 Ng, .int .i64 Nh, .int .i64 Ni]] M K Kp := vw [(1, .bQ [0, 1, 3, 7, 0, 31, 63, 0, 128, 384, 896, 0, 3968, 8064, 0, 16383, 49151, 114687, 262143, 524287, 1048575] (sy [0, 1, 2, 4, 7, 8, 9, 11, 3, 5, 6, 10, 12, 13, 15, 16] (.dD 14 (sy [17, 18, 19, 20] .done))))] Tryz.func208 h
theorem sS {b0 o0 : Nat} {x1 : Int} {x2 : Int} (h :
rS M b0 (o0 + 6) fun A1 k2 k3 =>
((0 : Int) ≤ x1) ∧
((x1 : Int) < k2) ∧
aF A1 fun k4 k5 =>
rP M k4 (k5 + (Int.toNat x1)) fun A6 =>
aa Tryz.prog 237 #[(.pointer A6), (iV x2)] M (fun v7 M8 =>
∃ n9 iZ iI : Int, ∃ t12 : Bool, ∃ j7 : Int, (v7 = (.tuple #[(.agg #[(iV n9), (iV iZ), (iV iI)]), (.bool t12), (iV j7)])) ∧
bh M8 kA fun jH sr =>
Io sr jH (iV n9) (iV iZ) (iV iI) fun um =>
aO (j7 == 10)
 (Kp [{ v := (.iface 340 (iV (-1))), recovered := false }] um)
 (aO t12
 (rI um jH 0 fun yQ =>
 rI um jH 1 fun gd =>
 rI um jH 2 fun sK =>
 aa Tryz.prog 238 #[(.pointer (some ⟨b0, o0, none⟩)), (.agg #[(iV yQ), (iV gd), (iV sK)]), (iV 1)] um (fun Kc mj =>
 (Kc = (.tuple #[])) ∧
 K (.bool (j7 == 0)) mj) Kp)
 (K (.bool (j7 == 0)) um))) Kp) :
 aa Tryz.prog 209 #[.pointer (some ⟨b0, o0, none⟩), .int .i64 x1, .int .i64 x2] M K Kp := vw [] Tryz.func209 h
theorem sU {b0 o0 : Nat} {x1 : Int} (h :
rS M b0 (o0 + 6) fun A1 k2 k3 =>
((0 : Int) ≤ x1) ∧
((x1 : Int) < k2) ∧
aF A1 fun k4 k5 =>
rP M k4 (k5 + (Int.toNat x1)) fun A6 =>
aa Tryz.prog 239 #[(.pointer A6)] M (fun v7 M8 =>
∃ n9 : Int, ∃ t10 : Bool, ∃ iI jK j7 : Int, ∃ t14 : Bool, ∃ kZ : Int, (v7 = (.tuple #[(.agg #[(iV n9), (.bool t10), (iV iI), (iV jK), (iV j7), (.bool t14)]), (iV kZ)])) ∧
bh M8 nA fun fH oz =>
sT6 oz fH (iV n9) (.bool t10) (iV iI) (iV jK) (iV j7) (.bool t14) fun mj =>
rB mj fH 5 fun t24 =>
aO t24
 (rI mj fH 2 fun nG =>
 rI mj fH (2 + 1) fun oU =>
 rI mj fH (2 + 2) fun oB =>
 aa Tryz.prog 240 #[(.pointer (some ⟨b0, o0, none⟩)), (.agg #[(iV nG), (iV oU), (iV oB)])] mj (fun TL oS =>
 (TL = (.tuple #[])) ∧
 rB oS fH 1 fun t30 =>
 aO t30
 (rI oS fH 0 fun si =>
 K (.tuple #[(iV si), (iV 1), (.bool true)]) oS)
 (K (.tuple #[(iV 0), (iV 0), (.bool (kZ == 0))]) oS)) Kp)
 (rB mj fH 1 fun t32 =>
 aO t32
 (rI mj fH 0 fun sL =>
 K (.tuple #[(iV sL), (iV 1), (.bool true)]) mj)
 (K (.tuple #[(iV 0), (iV 0), (.bool (kZ == 0))]) mj))) Kp) :
 aa Tryz.prog 210 #[.pointer (some ⟨b0, o0, none⟩), .int .i64 x1] M K Kp := vw [] Tryz.func210 h
theorem qZ {b0 o0 : Nat} {x1 : Int} {b2 o2 : Nat} {eY : Int} {eZ : Int} {e8 : Int} {fa : Int} (h :
bh M (cl [(iV eY), (iV eZ), (iV e8), (iV fa)] 27) fun k1 M2 =>
rS M2 b0 (o0 + 4) fun A3 k4 k5 =>
((0 : Int) ≤ x1) ∧
((x1 : Int) < k4) ∧
aF A3 fun k6 k7 =>
rP M2 k6 (k7 + (Int.toNat x1)) fun A8 =>
aF A8 fun k9 gh =>
rS M2 k9 (gh + 1) fun PC gY eK =>
rI M2 k1 1 fun lY =>
rI M2 k1 2 fun kZ =>
(0 ≤ kZ) ∧
(kZ < 8) ∧
rI M2 b2 ((o2 + 2) + (Int.toNat kZ)) fun nh =>
rI M2 k1 3 fun iQ =>
aa Tryz.prog 241 #[(.slice PC gY eK), (iV lY), (iV nh), (iV iQ)] M2 (fun En jB =>
∃ Qs : Option Addr, ∃ fQ iw : Nat, ∃ t23 : Bool, (En = (.tuple #[(.slice Qs fQ iw), (.bool t23)])) ∧
aO (!t23)
 (Kp [{ v := (.iface 340 (iV (-4))), recovered := false }] jB)
 (rS jB b0 (o0 + 4) fun Ly qP sj =>
 ((0 : Int) ≤ x1) ∧
 ((x1 : Int) < qP) ∧
 aF Ly fun Am oC =>
 rP jB Am (oC + (Int.toNat x1)) fun Su =>
 aF Su fun mH qD =>
 sT jB mH (qD + 1) (.slice Qs fQ iw) fun sk =>
 K (.tuple #[]) sk)) Kp) :
 aa Tryz.prog 211 #[.pointer (some ⟨b0, o0, none⟩), .int .i64 x1, .pointer (some ⟨b2, o2, none⟩), .agg #[.int .i64 eY, .int .i64 eZ, .int .i64 e8, .int .i64 fa]] M K Kp := vw [(1, .bQ [0, 1, 3, 7, 0, 31, 63, 127, 255, 511, 0, 1024, 0, 0, 8192, 4096, 36864, 126976, 258048, 0, 524288, 2097151, 4194303, 8388607, 8388607, 16777215, 67108863] (sy [0, 1, 2, 4, 10, 12, 13, 15, 16, 19, 3, 5, 6, 7, 8, 9, 11, 14, 17, 18, 20, 21, 22, 23, 24, 25, 26] .done))] Tryz.func211 h
theorem rh {b0 o0 : Nat} {x1 : Int} {b2 o2 : Nat} {eY : Int} {eZ : Int} {e8 : Int} {fa : Int} (h :
bh M (cl [(iV eY), (iV eZ), (iV e8), (iV fa)] 27) fun k1 M2 =>
rS M2 b0 (o0 + 4) fun A3 k4 k5 =>
((0 : Int) ≤ x1) ∧
((x1 : Int) < k4) ∧
aF A3 fun k6 k7 =>
rP M2 k6 (k7 + (Int.toNat x1)) fun A8 =>
aF A8 fun k9 gh =>
rS M2 k9 (gh + 1) fun PC gY eK =>
rI M2 k1 1 fun lY =>
(0 ≤ lY) ∧
(lY < 8) ∧
rI M2 b2 ((o2 + 2) + (Int.toNat lY)) fun kZ =>
aa Tryz.prog 242 #[(.slice PC gY eK), (iV kZ)] M2 (fun Na oz =>
∃ Kg : Option Addr, ∃ jI lF : Nat, ∃ t21 : Bool, (Na = (.tuple #[(.slice Kg jI lF), (.bool t21)])) ∧
aO t21
 (rS oz b0 (o0 + 4) fun WW jm vg =>
 ((0 : Int) ≤ x1) ∧
 ((x1 : Int) < jm) ∧
 aF WW fun qP sj =>
 rP oz qP (sj + (Int.toNat x1)) fun PB =>
 aF PB fun oC iq =>
 sT oz oC (iq + 1) (.slice Kg jI lF) fun uj =>
 K (.tuple #[]) uj)
 (rS oz b0 (o0 + 4) fun TO uo so =>
 ((0 : Int) ≤ x1) ∧
 ((x1 : Int) < uo) ∧
 aF TO fun qC BO =>
 rP oz qC (BO + (Int.toNat x1)) fun Sz =>
 aF Sz fun jS iR =>
 sT oz jS iR (iV 4) fun Nj =>
 aO (x1 == 0)
 (sT Nj b0 (o0 + 11) (iV 1) fun TR =>
 K (.tuple #[]) TR)
 (K (.tuple #[]) Nj))) Kp) :
 aa Tryz.prog 212 #[.pointer (some ⟨b0, o0, none⟩), .int .i64 x1, .pointer (some ⟨b2, o2, none⟩), .agg #[.int .i64 eY, .int .i64 eZ, .int .i64 e8, .int .i64 fa]] M K Kp := vw [(1, .bQ [0, 1, 3, 7, 0, 31, 63, 127, 255, 511, 0, 0, 2048, 1024, 9216, 31744, 64512, 131071, 262143, 524287, 524287, 1048575, 4194303] (sy [0, 1, 2, 4, 10, 11, 13, 14, 3, 5, 6, 7, 8, 9, 12, 15, 16, 17, 18, 19, 20, 21, 22] .done))] Tryz.func212 h
theorem pL {b0 o0 : Nat} {x1 : Int} {b2 o2 : Nat} {eY : Int} {eZ : Int} {e8 : Int} {fa : Int} (h :
bh M (cl [(iV eY), (iV eZ), (iV e8), (iV fa)] 27) fun k1 M2 =>
rS M2 b0 (o0 + 4) fun A3 k4 k5 =>
aO (decide ((k4 : Int) ≥ 100))
 (Kp [{ v := (.iface 340 (iV (-5))), recovered := false }] M2)
 (rS M2 b0 (o0 + 4) fun A6 k7 k8 =>
 ∃ J9 : List Value → Mem → Prop, (rI M2 k1 1 fun iZ =>
 rI M2 k1 2 fun iI =>
 (0 ≤ iI) ∧
 (iI < 8) ∧
 rI M2 b2 ((o2 + 2) + (Int.toNat iI)) fun jK =>
 (rS M2 b0 (o0 + 4) fun DE jH iW =>
 aa Tryz.prog 112 #[(iV iZ), (iV jK)] M2 (fun Na oz =>
 aB (some Na) fun Kg jI lF =>
 bh oz (cl [(iV 0), (.slice Kg jI lF), (iV 0), (iV 0), (iV 0), (iV 0)] 229) fun fQ dP =>
 bh dP (cl [(.pointer (some ⟨fQ, 0, none⟩))] 224) fun jm j6 =>
 aA 155 DE jH iW (some ⟨jm, 0, none⟩) 1 1 j6 (fun TP xY =>
 aB (some TP) fun PB oC iq =>
 sT xY b0 (o0 + 4) (.slice PB oC iq) fun uj =>
 J9 [] uj) Kp) Kp) ∧
 (aa Tryz.prog 112 #[(iV iZ), (iV jK)] M2 (fun TJ sk =>
 aB (some TJ) fun J4 qC BO =>
 rS sk b0 (o0 + 4) fun Sz jS iR =>
 bh sk (cl [(iV 0), (.slice J4 qC BO), (iV 0), (iV 0), (iV 0), (iV 0)] 229) fun yY TR =>
 bh TR (cl [(.pointer (some ⟨yY, 0, none⟩))] 224) fun It Qr =>
 aA 155 Sz jS iR (some ⟨It, 0, none⟩) 1 1 Qr (fun v43 AO =>
 aB (some v43) fun A45 ML TI =>
 sT AO b0 (o0 + 4) (.slice A45 ML TI) fun MM =>
 J9 [] MM) Kp) Kp) ∧
 True) ∧
 ∀ junk49 : Nat → Value, ∀ xS : Mem, (J9 [] xS) → aa Tryz.prog 158 #[(.pointer (some ⟨b0, o0, none⟩)), (iV (k7 : Int))] xS (fun v51 X6 =>
 (v51 = (.tuple #[])) ∧
 rI X6 k1 3 fun X7 =>
 (0 ≤ X7) ∧
 (X7 < 8) ∧
 sT X6 b2 ((o2 + 2) + (Int.toNat X7)) (iV (k7 : Int)) fun Qk =>
 K (.tuple #[]) Qk) Kp)) :
 aa Tryz.prog 213 #[.pointer (some ⟨b0, o0, none⟩), .int .i64 x1, .pointer (some ⟨b2, o2, none⟩), .agg #[.int .i64 eY, .int .i64 eZ, .int .i64 e8, .int .i64 fa]] M K Kp := vw [(4, .JL [0, 0, 2, 6, 14, 0, 32, 0, 0, 256, 128, 1152, 3968, 8064, 16352, 32736, 65504, 131040, 262142, 524287, 1048575, 2097151] (sy [0, 1, 2, 3, 5, 7, 8, 10, 11, 6, 9, 12, 13] (.fork 4 (sy [14, 15, 16, 17, 18, 19, 20, 21] .done) (.fork 14 (sy [15, 4, 16, 17, 18, 19, 20, 21] .done) .dead))) []), (6, .bQ [0, 0, 2, 0, 1, 17, 63, 127] (sy [0, 1, 3, 4, 5, 2, 6, 7] .done))] Tryz.func213 h
theorem pM {b0 o0 : Nat} {x1 : Int} {b2 o2 : Nat} {eY : Int} {eZ : Int} {e8 : Int} {fa : Int} (h :
bh M (cl [(iV eY), (iV eZ), (iV e8), (iV fa)] 27) fun k1 M2 =>
K (.tuple #[]) M2) :
 aa Tryz.prog 214 #[.pointer (some ⟨b0, o0, none⟩), .int .i64 x1, .pointer (some ⟨b2, o2, none⟩), .agg #[.int .i64 eY, .int .i64 eZ, .int .i64 e8, .int .i64 fa]] M K Kp := vw [] Tryz.func214 h
theorem ri {b0 o0 : Nat} {x1 : Int} {b2 o2 : Nat} {eY : Int} {eZ : Int} {e8 : Int} {fa : Int} (h :
bh M (cl [(iV eY), (iV eZ), (iV e8), (iV fa)] 27) fun k1 M2 =>
rI M2 k1 1 fun n3 =>
rI M2 k1 2 fun n4 =>
(0 ≤ n4) ∧
(n4 < 8) ∧
rI M2 b2 ((o2 + 2) + (Int.toNat n4)) fun n5 =>
aa Tryz.prog 209 #[(.pointer (some ⟨b0, o0, none⟩)), (iV n3), (iV n5)] M2 (fun v6 M7 =>
de (some v6) fun t8 =>
aO (!t8)
 (rS M7 b0 (o0 + 6) fun A9 gh fu =>
 rI M7 k1 1 fun jK =>
 (0 ≤ jK) ∧
 (jK < gh) ∧
 aF A9 fun eK jH =>
 rP M7 eK (jH + (Int.toNat jK)) fun wS =>
 rI M7 k1 2 fun nh =>
 (0 ≤ nh) ∧
 (nh < 8) ∧
 rI M7 b2 ((o2 + 2) + (Int.toNat nh)) fun iQ =>
 aa Tryz.prog 236 #[(.pointer wS), (.agg #[(iV x1), (iV 0), (iV iQ)])] M7 (fun En jB =>
 (En = (.tuple #[])) ∧
 bH jB k1 0 fun gd sK wT qS =>
 aa Tryz.prog 208 #[(.pointer (some ⟨b0, o0, none⟩)), (iV x1), (.agg #[(iV gd), (iV sK), (iV wT), (iV qS)])] jB (fun X8 Iv =>
 (X8 = (.tuple #[])) ∧
 K (.tuple #[]) Iv) Kp) Kp)
 (K (.tuple #[]) M7)) Kp) :
 aa Tryz.prog 215 #[.pointer (some ⟨b0, o0, none⟩), .int .i64 x1, .pointer (some ⟨b2, o2, none⟩), .agg #[.int .i64 eY, .int .i64 eZ, .int .i64 e8, .int .i64 fa]] M K Kp := vw [(1, .bQ [0, 0, 2, 0, 0, 16, 8, 72, 248, 504, 1023, 2047] (sy [0, 1, 3, 4, 6, 7, 2, 5, 8, 9, 10, 11] .done)), (2, .bQ [0, 1, 3, 7, 0, 16, 63, 127, 0, 0, 0, 1024, 512, 4608, 15872, 32256, 65280, 131071] (sy [0, 1, 2, 4, 8, 9, 10, 12, 13, 3, 5, 6, 7, 11, 14, 15, 16, 17] .done))] Tryz.func215 h
theorem rj {b0 o0 : Nat} {x1 : Int} {b2 o2 : Nat} {eY : Int} {eZ : Int} {e8 : Int} {fa : Int} (h :
bh M (cl [(iV eY), (iV eZ), (iV e8), (iV fa)] 27) fun k1 M2 =>
rI M2 k1 1 fun n3 =>
aa Tryz.prog 210 #[(.pointer (some ⟨b0, o0, none⟩)), (iV n3)] M2 (fun v4 M5 =>
∃ n6 n7 : Int, ∃ t8 : Bool, (v4 = (.tuple #[(iV n6), (iV n7), (.bool t8)])) ∧
aO (!t8)
 (rS M5 b0 (o0 + 6) fun A9 gh fu =>
 rI M5 k1 1 fun jK =>
 (0 ≤ jK) ∧
 (jK < gh) ∧
 aF A9 fun eK jH =>
 rP M5 eK (jH + (Int.toNat jK)) fun wS =>
 aa Tryz.prog 235 #[(.pointer wS), (.agg #[(iV x1), (iV 0), (iV 0)])] M5 (fun Na oz =>
 (Na = (.tuple #[])) ∧
 bH oz k1 0 fun lq yQ gd sK =>
 aa Tryz.prog 208 #[(.pointer (some ⟨b0, o0, none⟩)), (iV x1), (.agg #[(iV lq), (iV yQ), (iV gd), (iV sK)])] oz (fun Kc mj =>
 (Kc = (.tuple #[])) ∧
 K (.tuple #[]) mj) Kp) Kp)
 (rI M5 k1 2 fun DG =>
 (0 ≤ DG) ∧
 (DG < 8) ∧
 rI M5 k1 3 fun nG =>
 sT M5 b2 ((o2 + 2) + (Int.toNat DG)) (iV n6) fun xY =>
 eI xY k1 3 nG ∧
 (0 ≤ nG) ∧
 (nG < 8) ∧
 sT xY b2 ((o2 + 2) + (Int.toNat nG)) (iV n7) fun xU =>
 eI xU k1 3 nG ∧
 K (.tuple #[]) xU)) Kp) :
 aa Tryz.prog 216 #[.pointer (some ⟨b0, o0, none⟩), .int .i64 x1, .pointer (some ⟨b2, o2, none⟩), .agg #[.int .i64 eY, .int .i64 eZ, .int .i64 e8, .int .i64 fa]] M K Kp := vw [(3, .bQ [0, 1, 3, 7, 0, 16, 63, 127, 0, 256, 1023] (sy [0, 1, 2, 4, 8, 9, 3, 5, 6, 7, 10] .done)), (5, .bQ [0, 0, 2, 0, 0, 16, 0, 0, 1, 257, 839, 1863, 8, 4104, 16383, 32767] (sy [0, 1, 3, 4, 6, 7, 8, 9, 12, 13, 2, 10] (.dD 5 (sy [11, 14, 15] .done))))] Tryz.func216 h
theorem rm {b0 o0 : Nat} {x1 : Int} {b2 o2 : Nat} {eY : Int} {eZ : Int} {e8 : Int} {fa : Int} (h :
bh M (cl [(iV eY), (iV eZ), (iV e8), (iV fa)] 27) fun k1 M2 =>
rS M2 b0 (o0 + 6) fun A3 k4 k5 =>
rI M2 k1 1 fun n6 =>
(0 ≤ n6) ∧
(n6 < k4) ∧
aF A3 fun k7 k8 =>
rP M2 k7 (k8 + (Int.toNat n6)) fun A9 =>
aa Tryz.prog 243 #[(.pointer A9)] M2 (fun v10 jJ =>
∃ An : Option Addr, ∃ eK jH : Nat, ∃ wS : Option Addr, ∃ fH fx : Nat, ∃ lq : Int, (v10 = (.tuple #[(.slice An eK jH), (.slice wS fH fx), (iV lq)])) ∧
aO (lq != 0)
 (Kp [{ v := (.iface 340 (iV (-2))), recovered := false }] jJ)
 (aO (decide ((fH : Int) > 0))
 (Kp [{ v := (.iface 340 (iV (-1))), recovered := false }] jJ)
 (∃ I19 : IT, (∃ lF, I19 lF [(iV 0)] jJ) ∧
 ∀ (fQ : Nat) (_ : Nat → Value) (qS : Int) (j6 : Mem), (I19 fQ [(iV qS)] j6) → aO (decide (qS < eK))
 ((0 ≤ qS) ∧
 (qS < eK) ∧
 aF An fun qP sj =>
 lX j6 qP (sj + ((Int.toNat qS) * 3)) fun oB wU xX =>
 bh j6 kA fun mH TS =>
 Io TS mH (iV oB) (iV wU) (iV xX) fun sq =>
 rS sq b0 (o0 + 4) fun A35 MW jS =>
 rI sq mH 0 fun J1 =>
 (0 ≤ J1) ∧
 (J1 < MW) ∧
 aF A35 fun yY FH =>
 rP sq yY (FH + (Int.toNat J1)) fun X9 =>
 aF X9 fun Lw yM =>
 rI sq Lw yM fun CX =>
 aO (CX == 2)
 (sT sq mH 2 (iV 0) fun tM =>
 lX tM mH 0 fun DI xq Kh =>
 aa Tryz.prog 238 #[(.pointer (some ⟨b0, o0, none⟩)), (.agg #[(iV DI), (iV xq), (iV Kh)]), (iV 0)] tM (fun J3 xS =>
 (J3 = (.tuple #[])) ∧
 ∃ Nk : Nat, (Nk < fQ) ∧
 I19 Nk [(iV (IntKind.wrap .i64 (qS + 1)))] xS) Kp)
 (∃ sM : Nat, (sM < fQ) ∧
 I19 sM [(iV (IntKind.wrap .i64 (qS + 1)))] sq))
 (K (.tuple #[]) j6)))) Kp) :
 aa Tryz.prog 217 #[.pointer (some ⟨b0, o0, none⟩), .int .i64 x1, .pointer (some ⟨b2, o2, none⟩), .agg #[.int .i64 eY, .int .i64 eZ, .int .i64 e8, .int .i64 fa]] M K Kp := vw [(1, .bQ [0, 1, 3, 7, 0, 16, 63, 127, 255, 511, 1023, 1023, 1023, 2047, 12287, 32767] (sy [0, 1, 2, 4, 3, 5, 6, 7, 8, 9, 10, 11, 12, 13, 14, 15] .done)), (2000001, .loop [(37, .c (.int .i64))]), (9, .bQ [0, 1, 3, 7, 0, 16, 63, 127, 255, 511, 1023, 2047] (sy [0, 1, 2, 4, 3, 5, 6, 7, 8, 9, 10, 11] .done))] Tryz.func217 h
theorem pN {b0 o0 : Nat} {x1 : Int} {b2 o2 : Nat} {eY : Int} {eZ : Int} {e8 : Int} {fa : Int} (h :
bh M (cl [(iV eY), (iV eZ), (iV e8), (iV fa)] 27) fun k1 M2 =>
rI M2 k1 1 fun n3 =>
(0 ≤ n3) ∧
(n3 < 8) ∧
rI M2 b2 ((o2 + 2) + (Int.toNat n3)) fun n4 =>
aO (decide (((if (1048576 : Int) < n4 then 1048576 else n4) : Int) > 0))
 (rU M2 b0 (o0 + 5) fun n5 =>
 aa Tryz.prog 244 #[(.pointer (some ⟨b0, (o0 + 8), none⟩)), (.int .u64 (IntKind.wrap .u64 (n5 + (IntKind.wrap .u64 (if (1048576 : Int) < n4 then 1048576 else n4))))), (iV x1)] M2 (fun v6 M7 =>
 aJ (some v6) .u64 fun n8 =>
 rS M7 b0 (o0 + 4) fun A9 gh fu =>
 ((0 : Int) ≤ x1) ∧
 ((x1 : Int) < gh) ∧
 aF A9 fun gY eK =>
 rP M7 gY (eK + (Int.toNat x1)) fun oT =>
 aF oT fun iW fH =>
 sT M7 iW fH (iV 3) fun oz =>
 K (.tuple #[]) oz) Kp)
 (K (.tuple #[]) M2)) :
 aa Tryz.prog 218 #[.pointer (some ⟨b0, o0, none⟩), .int .i64 x1, .pointer (some ⟨b2, o2, none⟩), .agg #[.int .i64 eY, .int .i64 eZ, .int .i64 e8, .int .i64 fa]] M K Kp := vw [(1, .bQ [0, 0, 2, 1, 9, 31, 63, 127, 255] (sy [0, 1, 3, 4, 2, 5, 6, 7, 8] .done)), (3, .bQ [0, 1, 3, 0, 8, 24, 56, 0, 128, 504, 0, 2047] (sy [0, 1, 2, 3, 4, 5, 7, 8, 10, 6, 9, 11] .done))] Tryz.func218 h
theorem rq {b0 o0 : Nat} {x1 : Int} {b2 o2 : Nat} {eY : Int} {eZ : Int} {e8 : Int} {fa : Int} (h :
bh M (cl [(iV eY), (iV eZ), (iV e8), (iV fa)] 27) fun k1 M2 =>
rS M2 b0 (o0 + 7) fun A3 k4 k5 =>
rI M2 k1 1 fun n6 =>
(0 ≤ n6) ∧
(n6 < k4) ∧
aF A3 fun k7 k8 =>
rP M2 k7 (k8 + (Int.toNat n6)) fun A9 =>
aa Tryz.prog 245 #[(.pointer A9), (iV x1)] M2 (fun v10 jJ =>
de (some v10) fun t12 =>
aO (!t12)
 (rI jJ k1 0 fun j7 =>
 rI jJ k1 1 fun lY =>
 rI jJ k1 2 fun kZ =>
 rI jJ k1 3 fun nh =>
 aa Tryz.prog 208 #[(.pointer (some ⟨b0, o0, none⟩)), (iV x1), (.agg #[(iV j7), (iV lY), (iV kZ), (iV nh)])] jJ (fun TT um =>
 (TT = (.tuple #[])) ∧
 K (.tuple #[]) um) Kp)
 (K (.tuple #[]) jJ)) Kp) :
 aa Tryz.prog 219 #[.pointer (some ⟨b0, o0, none⟩), .int .i64 x1, .pointer (some ⟨b2, o2, none⟩), .agg #[.int .i64 eY, .int .i64 eZ, .int .i64 e8, .int .i64 fa]] M K Kp := vw [(1, .bQ [0, 1, 3, 7, 0, 16, 63, 127, 0, 511, 1023] (sy [0, 1, 2, 4, 8, 3, 5, 6, 7, 9, 10] .done))] Tryz.func219 h
theorem oE {b0 o0 : Nat} {x1 : Int} {b2 o2 : Nat} {eY : Int} {eZ : Int} {e8 : Int} {fa : Int} (h :
bh M (cl [(iV eY), (iV eZ), (iV e8), (iV fa)] 27) fun k1 M2 =>
rS M2 b0 (o0 + 7) fun A3 k4 k5 =>
rI M2 k1 1 fun n6 =>
(0 ≤ n6) ∧
(n6 < k4) ∧
aF A3 fun k7 k8 =>
rP M2 k7 (k8 + (Int.toNat n6)) fun A9 =>
aa Tryz.prog 246 #[(.pointer A9), (iV x1)] M2 (fun v10 jJ =>
∃ jK j7 : Int, (v10 = (.tuple #[(iV jK), (iV j7)])) ∧
aO (j7 != 0)
 (Kp [{ v := (.iface 340 (iV (-3))), recovered := false }] jJ)
 (aO (jK != (-1))
 (aa Tryz.prog 158 #[(.pointer (some ⟨b0, o0, none⟩)), (iV jK)] jJ (fun Ya sr =>
 (Ya = (.tuple #[])) ∧
 K (.tuple #[]) sr) Kp)
 (K (.tuple #[]) jJ))) Kp) :
 aa Tryz.prog 220 #[.pointer (some ⟨b0, o0, none⟩), .int .i64 x1, .pointer (some ⟨b2, o2, none⟩), .agg #[.int .i64 eY, .int .i64 eZ, .int .i64 e8, .int .i64 fa]] M K Kp := vw [(1, .bQ [0, 1, 3, 7, 0, 16, 63, 127, 0, 511, 1023, 2047, 2047, 4095, 16383] (sy [0, 1, 2, 4, 8, 3, 5, 6, 7, 9, 10, 11, 12, 13, 14] .done))] Tryz.func220 h
theorem ru {b0 o0 : Nat} {x1 : Int} {b2 o2 : Nat} {eY : Int} {eZ : Int} {e8 : Int} {fa : Int} (h :
bh M (cl [(iV eY), (iV eZ), (iV e8), (iV fa)] 27) fun k1 M2 =>
rS M2 b0 (o0 + 10) fun A3 k4 k5 =>
aO (decide ((k4 : Int) ≥ 1000))
 (Kp [{ v := (.iface 340 (iV (-6))), recovered := false }] M2)
 (rS M2 b0 (o0 + 10) fun A6 k7 k8 =>
 rI M2 k1 1 fun n9 =>
 (0 ≤ n9) ∧
 (n9 < 8) ∧
 rI M2 b2 ((o2 + 2) + (Int.toNat n9)) fun iZ =>
 bh M2 (cl [(iV iZ)] 2) fun fu sg =>
 aA 53 A6 k7 k8 (some ⟨fu, 0, none⟩) 1 1 sg (fun Lt oh =>
 aB (some Lt) fun wS fH fx =>
 sT oh b0 (o0 + 10) (.slice wS fH fx) fun um =>
 K (.tuple #[]) um) Kp)) :
 aa Tryz.prog 221 #[.pointer (some ⟨b0, o0, none⟩), .int .i64 x1, .pointer (some ⟨b2, o2, none⟩), .agg #[.int .i64 eY, .int .i64 eZ, .int .i64 e8, .int .i64 fa]] M K Kp := vw [(3, .bQ [0, 0, 2, 6, 14, 0, 0, 64, 32, 288, 992, 2016, 4064, 8190, 16383, 32767, 65535] (sy [0, 1, 2, 3, 5, 6, 8, 9, 4, 7, 10, 11, 12, 13, 14, 15, 16] .done))] Tryz.func221 h
theorem ry {b0 o0 : Nat} {x1 : Int} {b2 o2 : Nat} {eY : Int} {eZ : Int} {e8 : Int} {fa : Int} (h :
bh M (cl [(iV eY), (iV eZ), (iV e8), (iV fa)] 27) fun k1 M2 =>
rI M2 k1 1 fun n3 =>
Kp [{ v := (.iface 340 (iV n3)), recovered := false }] M2) :
 aa Tryz.prog 222 #[.pointer (some ⟨b0, o0, none⟩), .int .i64 x1, .pointer (some ⟨b2, o2, none⟩), .agg #[.int .i64 eY, .int .i64 eZ, .int .i64 e8, .int .i64 fa]] M K Kp := vw [] Tryz.func222 h
theorem uy {b0 o0 : Nat} {x1 : Int} {x2 : Int} (h :
aB (Mem.ld M ⟨b0, o0, none⟩) fun A1 k2 k3 =>
aB (Mem.ld M ⟨b0, o0, none⟩) fun A4 k5 k6 =>
aB (Mem.ld M ⟨b0, o0, none⟩) fun A7 k8 k9 =>
((0 : Int) ≤ x2) ∧
((x2 : Int) < ((k8 : Nat) : Int)) ∧
aF A7 fun gh fu =>
aJ (Mem.ld M ⟨gh, (fu + ((Int.toNat x2) * 3)), none⟩) .u64 fun jK =>
aJ (Mem.ld M ⟨gh, ((fu + ((Int.toNat x2) * 3)) + 1), none⟩) .u64 fun j7 =>
aJ (Mem.ld M ⟨gh, ((fu + ((Int.toNat x2) * 3)) + 2), none⟩) .i64 fun lY =>
aB (Mem.ld M ⟨b0, o0, none⟩) fun wS fH fx =>
((0 : Int) ≤ x1) ∧
((x1 : Int) < ((fH : Nat) : Int)) ∧
aF wS fun fI jI =>
aJ (Mem.ld M ⟨fI, (jI + ((Int.toNat x1) * 3)), none⟩) .u64 fun gd =>
aJ (Mem.ld M ⟨fI, ((jI + ((Int.toNat x1) * 3)) + 1), none⟩) .u64 fun sK =>
aJ (Mem.ld M ⟨fI, ((jI + ((Int.toNat x1) * 3)) + 2), none⟩) .i64 fun wT =>
((0 : Int) ≤ x1) ∧
((x1 : Int) < ((k2 : Nat) : Int)) ∧
aF A1 fun jm vg =>
aK M ⟨jm, (vg + ((Int.toNat x1) * 3)), none⟩ (.int .u64 jK) fun Iv =>
aK Iv ⟨jm, ((vg + ((Int.toNat x1) * 3)) + 1), none⟩ (.int .u64 j7) fun xY =>
aK xY ⟨jm, ((vg + ((Int.toNat x1) * 3)) + 2), none⟩ (.int .i64 lY) fun xU =>
((0 : Int) ≤ x2) ∧
((x2 : Int) < ((k5 : Nat) : Int)) ∧
aF A4 fun oC iq =>
aK xU ⟨oC, (iq + ((Int.toNat x2) * 3)), none⟩ (.int .u64 gd) fun uj =>
aK uj ⟨oC, ((iq + ((Int.toNat x2) * 3)) + 1), none⟩ (.int .u64 sK) fun TS =>
aK TS ⟨oC, ((iq + ((Int.toNat x2) * 3)) + 2), none⟩ (.int .i64 wT) fun sk =>
K (.tuple #[]) sk) :
 aa Tryz.prog 154 ([.pointer (some ⟨b0, o0, none⟩), .int .i64 x1, .int .i64 x2] : List Value).toArray M K Kp :=
 cu (C := Cx) good [(0, .bQ [0, 1, 3, 7, 0, 0, 32, 96, 224, 0, 0, 1024, 3072, 7168, 0, 31744, 64512, 0, 131072, 393216, 917504, 0, 4063232, 8257536, 16776703, 33553919, 67108863, 134217727] (.step 0 (.step 1 (.step 2 (.step 4 (.step 5 (.step 6 (.step 7 (.step 9 (.step 10 (.step 11 (.step 12 (.step 14 (.step 17 (.step 18 (.step 19 (.step 21 (.step 3 (.step 8 (.step 13 (.step 15 (.step 16 (.step 20 (.step 22 (.step 23 (.step 24 (.step 25 (.step 26 (.step 27 .done)))))))))))))))))))))))))))))] Tryz.func154 (by kernel_rfl) (by kernel_rfl) h
theorem uz {b0 o0 : Nat} {x1 : Int} (h :
aa Tryz.prog 186 #[(.pointer (some ⟨b0, o0, none⟩)), (iV x1)] M (fun v1 M2 =>
aJ (some v1) .i64 fun n3 =>
∃ I4 : IT, (∃ k5, I4 k5 [(iV x1), (iV n3)] M2) ∧
∀ (k6 : Nat) (_ : Nat → Value) (n8 : Int) (n9 : Int) (iU : Mem), (I4 k6 [(iV n8), (iV n9)] iU) → aO (n9 != n8)
 (aa Tryz.prog 154 #[(.pointer (some ⟨b0, o0, none⟩)), (iV n8), (iV n9)] iU (fun v11 sg =>
 (v11 = (.tuple #[])) ∧
 aa Tryz.prog 186 #[(.pointer (some ⟨b0, o0, none⟩)), (iV n9)] sg (fun Lt oh =>
 aJ (some Lt) .i64 fun kZ =>
 ∃ fH : Nat, (fH < k6) ∧
 I4 fH [(iV n9), (iV kZ)] oh) Kp) Kp)
 (K (.tuple #[]) iU)) Kp) :
 aa Tryz.prog 155 #[.pointer (some ⟨b0, o0, none⟩), .int .i64 x1] M K Kp := vw [(2000000, .loop [(1, .c (.int .i64)), (4, .c (.int .i64))])] Tryz.func155 h
theorem xu {b0 o0 : Nat} {x1 : Int} (h :
∃ I1 : Nat → List Value → Mem → Prop, (∃ k2 : Nat, I1 k2 [(.int .i64 x1)] M) ∧
∀ k3 : Nat, ∀ Sx : Nat → Value, ∀ n5 : Int, ∀ M6 : Mem, (I1 k3 [(.int .i64 n5)] M6) → aO (decide ((n5 : Int) > 0))
 (((4 : Int) ≠ 0) ∧
 aB (Mem.ld M6 ⟨b0, o0, none⟩) fun A7 k8 k9 =>
 ((0 : Int) ≤ n5) ∧
 ((n5 : Int) < ((k8 : Nat) : Int)) ∧
 aF A7 fun gh fu =>
 aJ (Mem.ld M6 ⟨gh, (fu + ((Int.toNat n5) * 3)), none⟩) .u64 fun jK =>
 aJ (Mem.ld M6 ⟨gh, ((fu + ((Int.toNat n5) * 3)) + 1), none⟩) .u64 fun j7 =>
 aJ (Mem.ld M6 ⟨gh, ((fu + ((Int.toNat n5) * 3)) + 2), none⟩) .i64 fun lY =>
 aB (Mem.ld M6 ⟨b0, o0, none⟩) fun wS fH fx =>
 ((0 : Int) ≤ (IntKind.wrap .i64 (Int.tdiv (IntKind.wrap .i64 (n5 - 1)) 4))) ∧
 (((IntKind.wrap .i64 (Int.tdiv (IntKind.wrap .i64 (n5 - 1)) 4)) : Int) < ((fH : Nat) : Int)) ∧
 aF wS fun fI jI =>
 aJ (Mem.ld M6 ⟨fI, (jI + ((Int.toNat (IntKind.wrap .i64 (Int.tdiv (IntKind.wrap .i64 (n5 - 1)) 4))) * 3)), none⟩) .u64 fun gd =>
 aJ (Mem.ld M6 ⟨fI, ((jI + ((Int.toNat (IntKind.wrap .i64 (Int.tdiv (IntKind.wrap .i64 (n5 - 1)) 4))) * 3)) + 1), none⟩) .u64 fun sK =>
 aJ (Mem.ld M6 ⟨fI, ((jI + ((Int.toNat (IntKind.wrap .i64 (Int.tdiv (IntKind.wrap .i64 (n5 - 1)) 4))) * 3)) + 2), none⟩) .i64 fun wT =>
 aa Tryz.prog 187 #[(.agg #[(.int .u64 jK), (.int .u64 j7), (.int .i64 lY)]), (.agg #[(.int .u64 gd), (.int .u64 sK), (.int .i64 wT)])] M6 (fun X0 j6 =>
 de (some X0) fun t25 =>
 aO t25
  (((4 : Int) ≠ 0) ∧
  aa Tryz.prog 154 #[(.pointer (some ⟨b0, o0, none⟩)), (.int .i64 n5), (.int .i64 (IntKind.wrap .i64 (Int.tdiv (IntKind.wrap .i64 (n5 - 1)) 4)))] j6 (fun XY xU =>
  (XY = (.tuple #[])) ∧
  ((4 : Int) ≠ 0) ∧
  ∃ oC : Nat, (oC < k3) ∧
  I1 oC [(.int .i64 (IntKind.wrap .i64 (Int.tdiv (IntKind.wrap .i64 (n5 - 1)) 4)))] xU) Kp)
  (K (.tuple #[]) j6)) Kp)
 (K (.tuple #[]) M6)) :
 aa Tryz.prog 156 ([.pointer (some ⟨b0, o0, none⟩), .int .i64 x1] : List Value).toArray M K Kp :=
 cu (C := Cx) good [(2000000, .loop [(1, .c (.int .i64))]), (0, .bQ [0, 1, 3, 7, 15, 31, 63, 7, 255, 511, 7, 1031, 3079, 7175, 7, 16391, 49159, 130055, 261127, 524287, 1048575] (.step 0 (.step 1 (.step 2 (.step 3 (.step 4 (.step 5 (.step 7 (.step 10 (.step 11 (.step 12 (.step 14 (.step 15 (.step 16 (.step 6 (.step 8 (.step 9 (.step 13 (.step 17 (.step 18 (.step 19 (.step 20 .done))))))))))))))))))))))] Tryz.func156 (by kernel_rfl) (by kernel_rfl) h
theorem sV {b0 o0 : Nat} {cU : Int} {cV : Int} {cW : Int} {eX : Int} (h :
bh M (cl [(iV cU), (iV cV), (iV cW), (iV eX)] 27) fun k1 M2 =>
K (.tuple #[]) M2) :
 aa Tryz.prog 225 #[.pointer (some ⟨b0, o0, none⟩), .agg #[.int .i64 cU, .int .i64 cV, .int .i64 cW, .int .i64 eX]] M K Kp := vw [] Tryz.func225 h
theorem mJ {b0 o0 : Nat} {cU : Int} {cV : Int} {cW : Int} {eX : Int} (h :
bh M (cl [(iV cU), (iV cV), (iV cW), (iV eX)] 27) fun k1 M2 =>
rI M2 k1 1 fun n3 =>
rI M2 k1 2 fun n4 =>
(0 ≤ n3) ∧
(n3 < 8) ∧
sT M2 b0 ((o0 + 2) + (Int.toNat n3)) (iV n4) fun M5 =>
K (.tuple #[]) M5) :
 aa Tryz.prog 226 #[.pointer (some ⟨b0, o0, none⟩), .agg #[.int .i64 cU, .int .i64 cV, .int .i64 cW, .int .i64 eX]] M K Kp := vw [(1, .bQ [0, 0, 2, 0, 8, 1, 33, 127, 255] (sy [0, 1, 3, 5, 6, 2, 4, 7, 8] .done))] Tryz.func226 h
theorem rz {b0 o0 : Nat} {cU : Int} {cV : Int} {cW : Int} {eX : Int} (h :
bh M (cl [(iV cU), (iV cV), (iV cW), (iV eX)] 27) fun k1 M2 =>
rI M2 k1 1 fun n3 =>
rI M2 k1 2 fun n4 =>
(0 ≤ n4) ∧
(n4 < 8) ∧
rI M2 b0 ((o0 + 2) + (Int.toNat n4)) fun n5 =>
(0 ≤ n3) ∧
(n3 < 8) ∧
sT M2 b0 ((o0 + 2) + (Int.toNat n3)) (iV n5) fun M6 =>
K (.tuple #[]) M6) :
 aa Tryz.prog 227 #[.pointer (some ⟨b0, o0, none⟩), .agg #[.int .i64 cU, .int .i64 cV, .int .i64 cW, .int .i64 eX]] M K Kp := vw [(1, .bQ [0, 0, 2, 0, 0, 16, 8, 72, 248, 504, 1, 1025, 4095, 8191] (sy [0, 1, 3, 4, 6, 7, 10, 11, 2, 5, 8, 9, 12, 13] .done))] Tryz.func227 h
theorem sW {b0 o0 : Nat} {cU : Int} {cV : Int} {cW : Int} {eX : Int} (h :
bh M (cl [(iV cU), (iV cV), (iV cW), (iV eX)] 27) fun k1 M2 =>
rI M2 k1 1 fun n3 =>
rI M2 k1 2 fun n4 =>
(0 ≤ n4) ∧
(n4 < 8) ∧
rI M2 b0 ((o0 + 2) + (Int.toNat n4)) fun n5 =>
rI M2 k1 3 fun n6 =>
(0 ≤ n6) ∧
(n6 < 8) ∧
rI M2 b0 ((o0 + 2) + (Int.toNat n6)) fun n7 =>
(0 ≤ n3) ∧
(n3 < 8) ∧
sT M2 b0 ((o0 + 2) + (Int.toNat n3)) (iV (IntKind.wrap .i64 (n5 + n7))) fun M8 =>
K (.tuple #[]) M8) :
 aa Tryz.prog 228 #[.pointer (some ⟨b0, o0, none⟩), .agg #[.int .i64 cU, .int .i64 cV, .int .i64 cW, .int .i64 eX]] M K Kp := vw [(1, .bQ [0, 0, 2, 0, 0, 16, 8, 72, 248, 504, 0, 0, 2048, 1024, 9216, 31744, 64512, 131064, 1, 262145, 1048575, 2097151] (sy [0, 1, 3, 4, 6, 7, 10, 11, 13, 14, 18, 19, 2, 5, 8, 9, 12, 15, 16, 17, 20, 21] .done))] Tryz.func228 h
theorem sX {b0 o0 : Nat} {cU : Int} {cV : Int} {cW : Int} {eX : Int} (h :
bh M (cl [(iV cU), (iV cV), (iV cW), (iV eX)] 27) fun k1 M2 =>
rI M2 k1 1 fun n3 =>
rI M2 k1 2 fun n4 =>
(0 ≤ n4) ∧
(n4 < 8) ∧
rI M2 b0 ((o0 + 2) + (Int.toNat n4)) fun n5 =>
rI M2 k1 3 fun n6 =>
(0 ≤ n6) ∧
(n6 < 8) ∧
rI M2 b0 ((o0 + 2) + (Int.toNat n6)) fun n7 =>
(0 ≤ n3) ∧
(n3 < 8) ∧
sT M2 b0 ((o0 + 2) + (Int.toNat n3)) (iV (IntKind.wrap .i64 (n5 - n7))) fun M8 =>
K (.tuple #[]) M8) :
 aa Tryz.prog 229 #[.pointer (some ⟨b0, o0, none⟩), .agg #[.int .i64 cU, .int .i64 cV, .int .i64 cW, .int .i64 eX]] M K Kp := vw [(1, .bQ [0, 0, 2, 0, 0, 16, 8, 72, 248, 504, 0, 0, 2048, 1024, 9216, 31744, 64512, 131064, 1, 262145, 1048575, 2097151] (sy [0, 1, 3, 4, 6, 7, 10, 11, 13, 14, 18, 19, 2, 5, 8, 9, 12, 15, 16, 17, 20, 21] .done))] Tryz.func229 h
theorem sY {b0 o0 : Nat} {cU : Int} {cV : Int} {cW : Int} {eX : Int} (h :
bh M (cl [(iV cU), (iV cV), (iV cW), (iV eX)] 27) fun k1 M2 =>
rI M2 k1 1 fun n3 =>
rI M2 k1 2 fun n4 =>
(0 ≤ n4) ∧
(n4 < 8) ∧
rI M2 b0 ((o0 + 2) + (Int.toNat n4)) fun n5 =>
rI M2 k1 3 fun n6 =>
(0 ≤ n6) ∧
(n6 < 8) ∧
rI M2 b0 ((o0 + 2) + (Int.toNat n6)) fun n7 =>
(0 ≤ n3) ∧
(n3 < 8) ∧
sT M2 b0 ((o0 + 2) + (Int.toNat n3)) (iV (IntKind.wrap .i64 (n5 * n7))) fun M8 =>
K (.tuple #[]) M8) :
 aa Tryz.prog 230 #[.pointer (some ⟨b0, o0, none⟩), .agg #[.int .i64 cU, .int .i64 cV, .int .i64 cW, .int .i64 eX]] M K Kp := vw [(1, .bQ [0, 0, 2, 0, 0, 16, 8, 72, 248, 504, 0, 0, 2048, 1024, 9216, 31744, 64512, 131064, 1, 262145, 1048575, 2097151] (sy [0, 1, 3, 4, 6, 7, 10, 11, 13, 14, 18, 19, 2, 5, 8, 9, 12, 15, 16, 17, 20, 21] .done))] Tryz.func230 h
theorem rD {b0 o0 : Nat} {cU : Int} {cV : Int} {cW : Int} {eX : Int} (h :
bh M (cl [(iV cU), (iV cV), (iV cW), (iV eX)] 27) fun k1 M2 =>
rI M2 k1 2 fun n3 =>
(0 ≤ n3) ∧
(n3 < 8) ∧
rI M2 b0 ((o0 + 2) + (Int.toNat n3)) fun n4 =>
rI M2 k1 3 fun n5 =>
(0 ≤ n5) ∧
(n5 < 8) ∧
rI M2 b0 ((o0 + 2) + (Int.toNat n5)) fun n6 =>
rI M2 k1 1 fun n7 =>
(0 ≤ n7) ∧
(n7 < 8) ∧
sT M2 b0 ((o0 + 2) + (Int.toNat n7)) (iV 0) fun M8 =>
aO (decide (n4 < n6))
 (rI M8 k1 1 fun n9 =>
 (0 ≤ n9) ∧
 (n9 < 8) ∧
 sT M8 b0 ((o0 + 2) + (Int.toNat n9)) (iV 1) fun iU =>
 K (.tuple #[]) iU)
 (K (.tuple #[]) M8)) :
 aa Tryz.prog 231 #[.pointer (some ⟨b0, o0, none⟩), .agg #[.int .i64 cU, .int .i64 cV, .int .i64 cW, .int .i64 eX]] M K Kp := vw [(1, .bQ [0, 0, 2, 1, 9, 31, 63, 0, 0, 256, 128, 1152, 3968, 8064, 16383, 32767] (sy [0, 1, 3, 4, 7, 8, 10, 11, 2, 5, 6, 9, 12, 13, 14, 15] .done)), (2, .bQ [0, 0, 2, 1, 9, 31, 63] (sy [0, 1, 3, 4, 2, 5, 6] .done)), (4, .bQ [0, 0, 2, 1, 9, 31, 63] (sy [0, 1, 3, 4, 2, 5, 6] .done))] Tryz.func231 h
theorem rE {b0 o0 : Nat} {cU : Int} {cV : Int} {cW : Int} {eX : Int} (h :
bh M (cl [(iV cU), (iV cV), (iV cW), (iV eX)] 27) fun k1 M2 =>
rI M2 k1 1 fun n3 =>
sT M2 b0 (o0 + 1) (iV n3) fun M4 =>
K (.tuple #[]) M4) :
 aa Tryz.prog 232 #[.pointer (some ⟨b0, o0, none⟩), .agg #[.int .i64 cU, .int .i64 cV, .int .i64 cW, .int .i64 eX]] M K Kp := vw [] Tryz.func232 h
theorem oF {b0 o0 : Nat} {cU : Int} {cV : Int} {cW : Int} {eX : Int} (h :
bh M (cl [(iV cU), (iV cV), (iV cW), (iV eX)] 27) fun k1 M2 =>
rI M2 k1 1 fun n3 =>
(0 ≤ n3) ∧
(n3 < 8) ∧
rI M2 b0 ((o0 + 2) + (Int.toNat n3)) fun n4 =>
aO (n4 != 0)
 (rI M2 k1 2 fun n5 =>
 sT M2 b0 (o0 + 1) (iV n5) fun M6 =>
 K (.tuple #[]) M6)
 (K (.tuple #[]) M2)) :
 aa Tryz.prog 233 #[.pointer (some ⟨b0, o0, none⟩), .agg #[.int .i64 cU, .int .i64 cV, .int .i64 cW, .int .i64 eX]] M K Kp := vw [(1, .bQ [0, 0, 2, 1, 9, 31, 63, 127] (sy [0, 1, 3, 4, 2, 5, 6, 7] .done))] Tryz.func233 h
theorem mK {b0 o0 : Nat} {cU : Int} {cV : Int} {cW : Int} {x2 : Int} (h :
bh M (cl [(iV cU), (iV cV), (iV cW)] 280) fun k1 M2 =>
rS M2 b0 (o0 + 4) fun A3 k4 k5 =>
rI M2 k1 0 fun n6 =>
(0 ≤ n6) ∧
(n6 < k4) ∧
aF A3 fun k7 k8 =>
rP M2 k7 (k8 + (Int.toNat n6)) fun A9 =>
aF A9 fun gh fu =>
rS M2 gh (fu + 1) fun An eK jH =>
rS M2 b0 (o0 + 4) fun wS fH fx =>
rI M2 k1 0 fun lq =>
(0 ≤ lq) ∧
(lq < fH) ∧
aF wS fun jI lF =>
rP M2 jI (lF + (Int.toNat lq)) fun CT =>
aF CT fun iw jm =>
bH M2 iw (jm + 2) fun DG nG oU oB =>
(True) ∧
aa Tryz.prog 189 #[(.slice An eK jH)] M2 (fun TL oS =>
cy (some TL) fun WQ =>
((Mem.iS oS ⟨iw, (jm + 2), none⟩ 0 4) = some [(iV DG), (iV nG), (iV oU), (iV oB)]) ∧
((Mem.ld oS ⟨jI, (lF + (Int.toNat lq)), none⟩) = (some (.pointer CT))) ∧
eI oS k1 0 lq ∧
((Mem.ld oS ⟨b0, (o0 + 4), none⟩) = (some (.slice wS fH fx))) ∧
aF WQ fun qD uo =>
bh oS vH fun so sq =>
kB sq so (iV DG) (iV nG) (iV oU) (iV oB) fun lZ =>
((Mem.iS lZ ⟨iw, (jm + 2), none⟩ 0 4) = some [(iV DG), (iV nG), (iV oU), (iV oB)]) ∧
((Mem.ld lZ ⟨jI, (lF + (Int.toNat lq)), none⟩) = (some (.pointer CT))) ∧
eI lZ k1 0 lq ∧
((Mem.ld lZ ⟨b0, (o0 + 4), none⟩) = (some (.slice wS fH fx))) ∧
rI lZ so 0 fun J2 =>
aO (J2 == 16)
 (rS lZ b0 (o0 + 3) fun XQ It Lw =>
 rI lZ so 1 fun Ep =>
 rI lZ k1 1 fun CX =>
 ((0 : Int) ≤ (IntKind.wrap .i64 (Ep + CX))) ∧
 (((IntKind.wrap .i64 (Ep + CX)) : Int) < (It : Int)) ∧
 aF XQ fun FG ML =>
 rI lZ FG ((ML + ((Int.toNat (IntKind.wrap .i64 (Ep + CX))) * 3)) + 2) fun xq =>
 rI lZ k1 2 fun Kh =>
 (0 ≤ xq) ∧
 (xq < 8) ∧
 sT lZ qD ((uo + 2) + (Int.toNat xq)) (iV Kh) fun yN =>
 rII yN k1 0 fun Nb GC =>
 aa Tryz.prog 251 #[(.pointer (some ⟨b0, o0, none⟩)), (iV Nb), (iV GC)] yN (fun v52 GD =>
 (v52 = (.tuple #[])) ∧
 rI GD k1 0 fun TU =>
 aa Tryz.prog 158 #[(.pointer (some ⟨b0, o0, none⟩)), (iV TU)] GD (fun XS XT =>
 (XS = (.tuple #[])) ∧
 K (.tuple #[]) XT) Kp) Kp)
 (rI lZ so 2 fun Iz =>
 rI lZ k1 2 fun CP =>
 (0 ≤ Iz) ∧
 (Iz < 8) ∧
 rI lZ so 3 fun tK =>
 sT lZ qD ((uo + 2) + (Int.toNat Iz)) (iV CP) fun pD =>
 eI pD so 3 tK ∧
 (0 ≤ tK) ∧
 (tK < 8) ∧
 sT pD qD ((uo + 2) + (Int.toNat tK)) (iV x2) fun DF =>
 eI DF so 3 tK ∧
 rI DF k1 0 fun WX =>
 aa Tryz.prog 158 #[(.pointer (some ⟨b0, o0, none⟩)), (iV WX)] DF (fun v63 IA =>
 (v63 = (.tuple #[])) ∧
 K (.tuple #[]) IA) Kp)) Kp) :
 aa Tryz.prog 238 #[.pointer (some ⟨b0, o0, none⟩), .agg #[.int .i64 cU, .int .i64 cV, .int .i64 cW], .int .i64 x2] M K Kp := vw [(1, .bQ [0, 1, 3, 7, 0, 16, 63, 127, 255, 511, 1023, 0, 2048, 6144, 14336, 0, 32768, 129024, 260096, 522240, 1046528, 2095104, 4192256, 8386560, 16775168, 0, 41943039, 134217727] (sy [0, 1, 2, 4, 11, 12, 13, 15, 14, 16, 17, 18, 19, 20, 21] (.dD 3 (.dD 5 (sy [6] (.dD 7 (sy [8, 9] (.dD 10 (.late 22 (sy [23, 24, 25, 26, 27] .done)))))))))), (3, .bQ [0, 0, 2, 6, 14, 30, 0, 64, 0, 256, 960, 2046, 4094, 8190, 0, 16384, 1, 131071, 262143] (sy [0, 1, 2, 3, 4, 6, 8, 14, 16, 5, 7, 9, 10, 11, 12, 13, 15, 17, 18] .done)), (5, .bQ [0, 0, 2, 0, 0, 16, 0, 64, 0, 1, 711, 1735, 8, 8191, 16383] (sy [0, 1, 3, 4, 6, 8, 9, 12, 2, 7, 10] (.dD 5 (sy [11, 13, 14] .done))))] Tryz.func238 h
theorem rF {b0 o0 : Nat} {cU : Int} {cV : Int} {cW : Int} (h :
bh M (cl [(iV cU), (iV cV), (iV cW)] 280) fun k1 M2 =>
rS M2 b0 (o0 + 4) fun A3 k4 k5 =>
rI M2 k1 0 fun n6 =>
(0 ≤ n6) ∧
(n6 < k4) ∧
aF A3 fun k7 k8 =>
rP M2 k7 (k8 + (Int.toNat n6)) fun A9 =>
aF A9 fun gh fu =>
rI M2 gh (fu + 2) fun jK =>
aO (jK == 16)
 (rI M2 k1 0 fun j7 =>
 rI M2 k1 1 fun lY =>
 aa Tryz.prog 251 #[(.pointer (some ⟨b0, o0, none⟩)), (iV j7), (iV lY)] M2 (fun CU fq =>
 (CU = (.tuple #[])) ∧
 rI fq k1 0 fun iQ =>
 aa Tryz.prog 158 #[(.pointer (some ⟨b0, o0, none⟩)), (iV iQ)] fq (fun En jB =>
 (En = (.tuple #[])) ∧
 K (.tuple #[]) jB) Kp) Kp)
 (rI M2 k1 0 fun gd =>
 aa Tryz.prog 158 #[(.pointer (some ⟨b0, o0, none⟩)), (iV gd)] M2 (fun Yb dP =>
 (Yb = (.tuple #[])) ∧
 K (.tuple #[]) dP) Kp)) :
 aa Tryz.prog 240 #[.pointer (some ⟨b0, o0, none⟩), .agg #[.int .i64 cU, .int .i64 cV, .int .i64 cW]] M K Kp := vw [(1, .bQ [0, 1, 3, 7, 0, 16, 63, 127, 255, 511, 1023, 2047, 4095] (sy [0, 1, 2, 4, 3, 5, 6, 7, 8, 9, 10, 11, 12] .done))] Tryz.func240 h
theorem rG {B0 : Option Addr} {m0 c0 : Nat} {x1 : Int} {x2 : Int} {x3 : Int} (h :
aO (decide ((m0 : Int) ≥ 16))
 (K (.tuple #[(.slice B0 m0 c0), (.bool false)]) M)
 (((0 : Int) ≤ m0) ∧
 ((m0 : Int) ≤ c0) ∧
 ((0 : Int) ≤ m0) ∧
 ((m0 : Int) ≤ m0) ∧
 ((0 : Int) ≤ 0) ∧
 ((0 : Int) ≤ m0) ∧
 bh M (cl [(iV x1), (iV 0), (iV x2), (iV 0), (iV 0), (iV 0), (iV 0), (iV 0), (iV 0), (iV 0), (iV x3)] 275) fun k1 M2 =>
 aY Tryz.prog (Go.Builtin.append_ #[226, 226] 226 #[(.slice (lp B0 0 (Int.toNat (m0 : Int)) 11) ((Int.toNat (m0 : Int)) - 0) ((Int.toNat (m0 : Int)) - 0)), (.slice (some ⟨k1, 0, none⟩) 1 1)]) M2 (fun v3 M4 =>
 aB (some v3) fun A5 k6 k7 =>
 K (.tuple #[(.slice A5 k6 k7), (.bool true)]) M4) Kp)) :
 aa Tryz.prog 241 #[.slice B0 m0 c0, .int .i64 x1, .int .i64 x2, .int .i64 x3] M K Kp := vw [] Tryz.func241 h
theorem oG {B0 : Option Addr} {m0 c0 : Nat} {x1 : Int} (h :
aO (decide ((m0 : Int) < 2))
 (K (.tuple #[(.slice none 0 0), (.bool false)]) M)
 (bh M (cl [] 275) fun k1 M2 =>
 ((0 : Int) ≤ c0) ∧
 ((c0 : Int) ≤ c0) ∧
 ((0 : Int) ≤ (IntKind.wrap .i64 ((m0 : Int) - 1))) ∧
 (((IntKind.wrap .i64 ((m0 : Int) - 1)) : Int) ≤ (c0 : Int)) ∧
 ((0 : Int) ≤ 0) ∧
 ((0 : Int) ≤ (IntKind.wrap .i64 ((m0 : Int) - 1))) ∧
 aY Tryz.prog (Go.Builtin.append_ #[226, 226] 226 #[(.slice (some ⟨k1, 0, none⟩) 0 0), (.slice (lp B0 0 (Int.toNat (c0 : Int)) 11) ((Int.toNat (IntKind.wrap .i64 ((m0 : Int) - 1))) - 0) ((Int.toNat (c0 : Int)) - 0))]) M2 (fun v3 M4 =>
 aB (some v3) fun A5 k6 k7 =>
 aa Tryz.prog 189 #[(.slice A5 k6 k7)] M4 (fun v8 M9 =>
 cy (some v8) fun FF =>
 aF FF fun fu gY =>
 aa Tryz.prog 189 #[(.slice B0 m0 c0)] M9 (fun Lt oh =>
 cy (some Lt) fun wS =>
 aF wS fun fH fx =>
 rI oh fH (fx + 10) fun lq =>
 (0 ≤ lq) ∧
 (lq < 8) ∧
 sT oh fu ((gY + 2) + (Int.toNat lq)) (iV x1) fun jB =>
 K (.tuple #[(.slice A5 k6 k7), (.bool true)]) jB) Kp) Kp) Kp)) :
 aa Tryz.prog 242 #[.slice B0 m0 c0, .int .i64 x1] M K Kp := vw [(4, .bQ [0, 1, 0, 7, 15, 31, 63, 0, 3, 259, 1023, 2047] (sy [0, 2, 7, 1, 8, 9, 3, 4, 5, 6, 10, 11] .done))] Tryz.func242 h
theorem uA {b0 o0 : Nat} {x1 : Int} {x2 : Int} (h :
aB (Mem.ld M ⟨b0, o0, none⟩) fun A1 k2 k3 =>
aJ (Mem.ld M ⟨b0, (o0 + 1), none⟩) .u64 fun n4 =>
bh M (.cells #[(.int .u64 x1), (.int .u64 n4), (.int .i64 x2)] 203 (0, 0)) fun k5 M6 =>
aY Tryz.prog (Go.Builtin.append_ #[46, 46] 46 #[(.slice A1 k2 k3), (.slice (some ⟨k5, 0, none⟩) 1 1)]) M6 (fun v7 M8 =>
aB (some v7) fun A9 gh fu =>
aK M8 ⟨b0, o0, none⟩ (.slice A9 gh fu) fun sg =>
aJ (Mem.ld sg ⟨b0, (o0 + 1), none⟩) .u64 fun j7 =>
aK sg ⟨b0, (o0 + 1), none⟩ (.int .u64 (IntKind.wrap .u64 (j7 + 1))) fun oh =>
aB (Mem.ld oh ⟨b0, o0, none⟩) fun wS fH fx =>
aa Tryz.prog 156 #[(.pointer (some ⟨b0, o0, none⟩)), (.int .i64 (IntKind.wrap .i64 (((fH : Nat) : Int) - 1)))] oh (fun En jB =>
(En = (.tuple #[])) ∧
aJ (Mem.ld jB ⟨b0, (o0 + 1), none⟩) .u64 fun gd =>
K (.int .u64 (IntKind.wrap .u64 (gd - 1))) jB) Kp) Kp) :
 aa Tryz.prog 244 ([.pointer (some ⟨b0, o0, none⟩), .int .u64 x1, .int .i64 x2] : List Value).toArray M K Kp :=
 cu (C := Cx) good [(1, .bQ [0, 0, 2, 6, 14, 0, 0, 64, 192, 448, 0, 2016, 4064, 8190, 16383, 32767, 65535] (.step 0 (.step 1 (.step 2 (.step 3 (.step 5 (.step 6 (.step 7 (.step 8 (.step 10 (.step 4 (.step 9 (.step 11 (.step 12 (.step 13 (.step 14 (.step 15 (.step 16 .done))))))))))))))))))] Tryz.func244 (by kernel_rfl) (by kernel_rfl) h
theorem sZ {b0 o0 : Nat} {x1 : Int} (h :
rI M b0 o0 fun n1 =>
aO (n1 != (-1))
 (rS M b0 (o0 + 1) fun A2 k3 k4 =>
 bh M (cl [(iV x1)] 3) fun k5 M6 =>
 aA 36 A2 k3 k4 (some ⟨k5, 0, none⟩) 1 1 M6 (fun v7 M8 =>
 aB (some v7) fun A9 gh fu =>
 sT M8 b0 (o0 + 1) (.slice A9 gh fu) fun sg =>
 K (.bool false) sg) Kp)
 (sT M b0 o0 (iV x1) fun mG =>
 K (.bool true) mG)) :
 aa Tryz.prog 245 #[.pointer (some ⟨b0, o0, none⟩), .int .i64 x1] M K Kp := vw [] Tryz.func245 h
theorem s9 {b0 o0 : Nat} {x1 : Int} (h :
rI M b0 o0 fun n1 =>
aO (n1 == (-1))
 (K (.tuple #[(iV (-1)), (iV 5)]) M)
 (rI M b0 o0 fun n2 =>
 aO (n2 != x1)
 (K (.tuple #[(iV (-1)), (iV 5)]) M)
 (sT M b0 o0 (iV (-1)) fun M3 =>
 rS M3 b0 (o0 + 1) fun A4 k5 k6 =>
 aO (decide ((k5 : Int) > 0))
 (rS M3 b0 (o0 + 1) fun A7 k8 k9 =>
 ((0 : Int) ≤ 0) ∧
 ((0 : Int) < k8) ∧
 aF A7 fun gh fu =>
 rI M3 gh (fu + 0) fun jK =>
 sT M3 b0 o0 (iV jK) fun mG =>
 bh mG (cl [] 3) fun jH sr =>
 rS sr b0 (o0 + 1) fun WU fx fI =>
 ((0 : Int) ≤ fI) ∧
 ((fI : Int) ≤ fI) ∧
 ((0 : Int) ≤ fx) ∧
 ((fx : Int) ≤ fI) ∧
 ((0 : Int) ≤ 1) ∧
 ((1 : Int) ≤ fx) ∧
 aY Tryz.prog (Go.Builtin.append_ #[36, 36] 36 #[(.slice (some ⟨jH, 0, none⟩) 0 0), (.slice (lp WU 1 (Int.toNat (fI : Int)) 1) ((Int.toNat (fx : Int)) - 1) ((Int.toNat (fI : Int)) - 1))]) sr (fun TQ vL =>
 aB (some TQ) fun CT iw jm =>
 sT vL b0 (o0 + 1) (.slice CT iw jm) fun j6 =>
 rI j6 b0 o0 fun nG =>
 K (.tuple #[(iV nG), (iV 0)]) j6) Kp)
 (rI M3 b0 o0 fun oU =>
 K (.tuple #[(iV oU), (iV 0)]) M3)))) :
 aa Tryz.prog 246 #[.pointer (some ⟨b0, o0, none⟩), .int .i64 x1] M K Kp := vw [] Tryz.func246 h
theorem td {b0 o0 : Nat} {x1 : Int} (h :
∃ I1 : Nat → List Value → Mem → Prop, (∃ k2 : Nat, I1 k2 [(.int .i64 x1), (.int .i64 (IntKind.wrap .i64 ((IntKind.wrap .i64 (4 * x1)) + 1)))] M) ∧
∀ k3 : Nat, ∀ Sx : Nat → Value, ∀ n5 : Int, ∀ n6 : Int, ∀ M7 : Mem, (I1 k3 [(.int .i64 n5), (.int .i64 n6)] M7) → aO (decide ((n6 : Int) ≤ (IntKind.wrap .i64 ((IntKind.wrap .i64 (4 * x1)) + 4))))
 (aB (Mem.ld M7 ⟨b0, o0, none⟩) fun A8 k9 gh =>
 aO (decide ((n6 : Int) < ((k9 : Nat) : Int)))
  (aB (Mem.ld M7 ⟨b0, o0, none⟩) fun PC gY eK =>
  ((0 : Int) ≤ n6) ∧
  ((n6 : Int) < ((gY : Nat) : Int)) ∧
  aF PC fun jH iW =>
  aJ (Mem.ld M7 ⟨jH, (iW + ((Int.toNat n6) * 3)), none⟩) .u64 fun nh =>
  aJ (Mem.ld M7 ⟨jH, ((iW + ((Int.toNat n6) * 3)) + 1), none⟩) .u64 fun iQ =>
  aJ (Mem.ld M7 ⟨jH, ((iW + ((Int.toNat n6) * 3)) + 2), none⟩) .i64 fun lq =>
  aB (Mem.ld M7 ⟨b0, o0, none⟩) fun FJ lF fQ =>
  ((0 : Int) ≤ n5) ∧
  ((n5 : Int) < ((lF : Nat) : Int)) ∧
  aF FJ fun iw jm =>
  aJ (Mem.ld M7 ⟨iw, (jm + ((Int.toNat n5) * 3)), none⟩) .u64 fun DG =>
  aJ (Mem.ld M7 ⟨iw, ((jm + ((Int.toNat n5) * 3)) + 1), none⟩) .u64 fun nG =>
  aJ (Mem.ld M7 ⟨iw, ((jm + ((Int.toNat n5) * 3)) + 2), none⟩) .i64 fun oU =>
  aa Tryz.prog 187 #[(.agg #[(.int .u64 nh), (.int .u64 iQ), (.int .i64 lq)]), (.agg #[(.int .u64 DG), (.int .u64 nG), (.int .i64 oU)])] M7 (fun Qn vK =>
  de (some Qn) fun t29 =>
  aO t29
   (∃ mH : Nat, (mH < k3) ∧
   I1 mH [(.int .i64 n6), (.int .i64 (IntKind.wrap .i64 (n6 + 1)))] vK)
   (∃ qD : Nat, (qD < k3) ∧
   I1 qD [(.int .i64 n5), (.int .i64 (IntKind.wrap .i64 (n6 + 1)))] vK)) Kp)
  (K (.int .i64 n5) M7))
 (K (.int .i64 n5) M7)) :
 aa Tryz.prog 186 ([.pointer (some ⟨b0, o0, none⟩), .int .i64 x1] : List Value).toArray M K Kp :=
 cu (C := Cx) good [(2000000, .loop [(5, .c (.int .i64)), (6, .c (.int .i64))]), (5, .bQ [0, 1, 3, 7, 0, 31, 63, 0, 128, 384, 896, 0, 3968, 8064, 16383] (.step 0 (.step 1 (.step 2 (.step 4 (.step 7 (.step 8 (.step 9 (.step 11 (.step 3 (.step 5 (.step 6 (.step 10 (.step 12 (.step 13 (.step 14 .done))))))))))))))))] Tryz.func186 (by kernel_rfl) (by kernel_rfl) h
theorem yZ {yS : Int} {yT : Int} {gR : Int} {cU : Int} {cV : Int} {cW : Int} (h :
bh M (cl [(.int .u64 yS), (.int .u64 yT), (iV gR)] 203) fun k1 M2 =>
bh M2 (cl [(.int .u64 cU), (.int .u64 cV), (iV cW)] 203) fun k3 M4 =>
rU M4 k1 0 fun n5 =>
rU M4 k3 0 fun n6 =>
aO (decide (n5 < n6))
 (K (.bool true) M4)
 (rU M4 k1 0 fun n7 =>
 rU M4 k3 0 fun n8 =>
 aO (n7 == n8)
 (rU M4 k1 1 fun n9 =>
 rU M4 k3 1 fun iZ =>
 K (.bool (decide (n9 < iZ))) M4)
 (K (.bool false) M4))) :
 aa Tryz.prog 187 #[.agg #[.int .u64 yS, .int .u64 yT, .int .i64 gR], .agg #[.int .u64 cU, .int .u64 cV, .int .i64 cW]] M K Kp := vw [] Tryz.func187 h
theorem oH {b0 o0 : Nat} {x1 : Int} {x2 : Int} (h :
rS M b0 (o0 + 4) fun A1 k2 k3 =>
((0 : Int) ≤ x1) ∧
((x1 : Int) < k2) ∧
aF A1 fun k4 k5 =>
rP M k4 (k5 + (Int.toNat x1)) fun A6 =>
aF A6 fun k7 k8 =>
bH M k7 (k8 + 2) fun n9 iZ iI jK =>
bh M vH fun eK oh =>
kB oh eK (iV n9) (iV iZ) (iV iI) (iV jK) fun um =>
rS um b0 (o0 + 4) fun FJ lF fQ =>
((0 : Int) ≤ x1) ∧
((x1 : Int) < lF) ∧
aF FJ fun iw jm =>
rP um iw (jm + (Int.toNat x1)) fun Ly =>
aF Ly fun qP sj =>
rS um qP (sj + 1) fun PB oC iq =>
rI um eK 3 fun Ey =>
aa Tryz.prog 189 #[(.slice PB oC iq)] um (fun TJ sk =>
cy (some TJ) fun J4 =>
eI sk eK 3 Ey ∧
aF J4 fun qC BO =>
(0 ≤ Ey) ∧
(Ey < 8) ∧
sT sk qC ((BO + 2) + (Int.toNat Ey)) (iV x2) fun Ak =>
eI Ak eK 3 Ey ∧
rS Ak b0 (o0 + 6) fun Qt iR yY =>
aa Tryz.prog 252 #[(iV x1), (.slice Qt iR yY)] Ak (fun Kf Ap =>
(Kf = (.tuple #[])) ∧
K (.tuple #[]) Ap) Kp) Kp) :
 aa Tryz.prog 251 #[.pointer (some ⟨b0, o0, none⟩), .int .i64 x1, .int .i64 x2] M K Kp := vw [(1, .bQ [0, 1, 3, 7, 0, 31, 63, 127, 255, 511, 1023, 0, 2048, 0, 2047, 18431, 65535, 131071] (sy [0, 1, 2, 4, 11, 13, 3, 5, 6, 7, 8, 9] (.dD 12 (sy [10, 14, 15, 16, 17] .done))))] Tryz.func251 h
end Go.Proofs
namespace Go.Proofs
open Go.AF
set_option maxRecDepth 100000
theorem CY {mL : Option Addr} {mN mO : Nat} {mP : Option Addr} {mQ mR : Nat} {gR : Int} {mS : Option Addr} {mT mU : Nat} {M : Mem} {K : Value → Mem → Prop} {Kp : List PanicEntry → Mem → Prop} (h :
bh M (cl [(.slice mL mN mO), (.slice mP mQ mR), (iV gR), (.slice mS mT mU)] 39) fun k1 M2 =>
yJ M2 k1 0 fun A3 k4 k5 A6 k7 k8 n9 FF fu gY =>
aa Tryz.prog 112 #[(iV 0), (iV 0)] M2 (fun Lt oh =>
aB (some Lt) fun wS fH fx =>
((Mem.iS oh ⟨k1, 0, none⟩ 0 4) = some [(.slice A3 k4 k5), (.slice A6 k7 k8), (iV n9), (.slice FF fu gY)]) ∧
bh oh (cl [(iV 1), (.slice wS fH fx), (iV 0), (iV 0), (iV 0), (iV 0)] 229) fun fI jB =>
bh jB (cl [(.pointer (some ⟨fI, 0, none⟩))] 224) fun lF ov =>
bh ov (cl [(.slice A3 k4 k5), (.slice A6 k7 k8), (iV n9), (.slice FF fu gY), (.slice (some ⟨lF, 0, none⟩) 1 1), (.int .u64 0), (.slice none 0 0), (.slice none 0 0), (.slice none 0 0), (.int .u64 0), (.slice none 0 0), (iV 0), (iV 0), (.slice none 0 0), .nilFunc] 161) fun iw mj =>
rS mj k1 1 fun Ly qP sj =>
∃ I27 : IT, (∃ oC, I27 oC [(iV 0)] mj) ∧
∀ (iq : Nat) (_ : Nat → Value) (si : Int) (sk : Mem), (I27 iq [(iV si)] sk) → aO (decide (si < qP))
 ((0 ≤ si) ∧
 (si < qP) ∧
 aF Ly fun so qC =>
 rI sk so (qC + (Int.toNat si)) fun DH =>
 ∃ J36 : List Value → Mem → Prop, ((rS sk iw 6 fun Qt iR yY =>
 aa Tryz.prog 113 #[(iV DH)] sk (fun Kf Ap =>
 cy (some Kf) fun Ql =>
 bh Ap (cl [(.pointer Ql)] 230) fun yM AO =>
 aA 156 Qt iR yY (some ⟨yM, 0, none⟩) 1 1 AO (fun v45 FM =>
 aB (some v45) fun A47 Qp GB =>
 sT FM iw 6 (.slice A47 Qp GB) fun xS =>
 J36 [] xS) Kp) Kp) ∧
 (aa Tryz.prog 113 #[(iV DH)] sk (fun v51 X6 =>
 cy (some v51) fun A53 =>
 rS X6 iw 6 fun A54 SB LA =>
 bh X6 (cl [(.pointer A53)] 230) fun Au IB =>
 aA 156 A54 SB LA (some ⟨Au, 0, none⟩) 1 1 IB (fun v59 pD =>
 aB (some v59) fun TV Nl PD =>
 sT pD iw 6 (.slice TV Nl PD) fun IA =>
 J36 [] IA) Kp) Kp) ∧
 True) ∧
 ∀ junk65 : Nat → Value, ∀ WT : Mem, (J36 [] WT) → ∃ xw : Nat, (xw < iq) ∧
 I27 xw [(iV (IntKind.wrap .i64 (si + 1)))] WT)
 (rI sk k1 2 fun Nc =>
 ∃ I69 : IT, (∃ IC, I69 IC [(iV 0)] sk) ∧
 ∀ (PE : Nat) (_ : Nat → Value) (XV : Int) (Ew : Mem), (I69 PE [(iV XV)] Ew) → aO (decide (XV < Nc))
 (∃ J75 : List Value → Mem → Prop, ((rS Ew iw 7 fun A76 k77 TW =>
 aa Tryz.prog 114 #[] Ew (fun v79 xy =>
 cy (some v79) fun Qu =>
 bh xy (cl [(.pointer Qu)] 232) fun Ki Av =>
 aA 157 A76 k77 TW (some ⟨Ki, 0, none⟩) 1 1 Av (fun v84 M85 =>
 aB (some v84) fun A86 k87 LB =>
 sT M85 iw 7 (.slice A86 k87 LB) fun Ez =>
 J75 [] Ez) Kp) Kp) ∧
 (aa Tryz.prog 114 #[] Ew (fun Nm lj =>
 cy (some Nm) fun Yc =>
 rS lj iw 7 fun A93 TX k95 =>
 bh lj (cl [(.pointer Yc)] 232) fun k96 Qv =>
 aA 157 A93 TX k95 (some ⟨k96, 0, none⟩) 1 1 Qv (fun v98 M99 =>
 aB (some v98) fun A100 k101 Qw =>
 sT M99 iw 7 (.slice A100 k101 Qw) fun TY =>
 J75 [] TY) Kp) Kp) ∧
 True) ∧
 ∀ junk104 : Nat → Value, ∀ Qx : Mem, (J75 [] Qx) → ∃ xz : Nat, (xz < PE) ∧
 I69 xz [(iV (IntKind.wrap .i64 (XV + 1)))] Qx)
 (K (.pointer (some ⟨iw, 0, none⟩)) Ew))) Kp) :
 aa Tryz.prog 56 #[.agg #[.slice mL mN mO, .slice mP mQ mR, .int .i64 gR, .slice mS mT mU]] M K Kp := vw [(1, .bQ [0, 0, 2, 6, 14, 31, 63, 127] (.dD 0 (sy [1, 2, 3, 4, 5, 6, 7] .done))), (2000000, .loop [(16, .c (.int .i64))]), (5, .JL [0, 0, 2, 6, 14, 0, 32, 96, 254, 511, 1023, 2047] (sy [0, 1, 2, 3, 5] (.fork 4 (sy [6, 7, 8, 9, 10, 11] .done) (.fork 6 (sy [4, 7, 8, 9, 10, 11] .done) .dead))) []), (2000002, .loop [(34, .c (.int .i64))]), (9, .JL [0, 0, 2, 6, 14, 0, 32, 126, 255, 511, 1023] (sy [0, 1, 2, 3] (.fork 4 (sy [5, 6, 7, 8, 9, 10] .done) (.fork 5 (sy [4, 6, 7, 8, 9, 10] .done) .dead))) [])] Tryz.func56 h
theorem jT {b0 o0 : Nat} {x1 : Int} {u2 : Value} {M : Mem} {K : Value → Mem → Prop} {Kp : List PanicEntry → Mem → Prop} (h :
bh M (.cells #[(.bool false), (.slice none 0 0)] 250 (0, 0)) fun k1 M2 =>
aO (decide ((x1 : Int) < 0))
 (aK M2 ⟨k1, 0, none⟩ (.bool false) fun M3 =>
 aK M3 ⟨k1, (0 + 1), none⟩ (.slice none 0 0) fun M4 =>
 de (Mem.ld M4 ⟨k1, 0, none⟩) fun t5 =>
 aB (Mem.ld M4 ⟨k1, (0 + 1), none⟩) fun A6 k7 k8 =>
 K (.agg #[(.bool t5), (.slice A6 k7 k8)]) M4)
 (aB (Mem.ld M2 ⟨b0, (o0 + 4), none⟩) fun A9 gh fu =>
 aO (decide ((x1 : Int) ≥ ((gh : Nat) : Int)))
  (aK M2 ⟨k1, 0, none⟩ (.bool false) fun sg =>
  aK sg ⟨k1, (0 + 1), none⟩ (.slice none 0 0) fun mG =>
  de (Mem.ld mG ⟨k1, 0, none⟩) fun t14 =>
  aB (Mem.ld mG ⟨k1, (0 + 1), none⟩) fun wS fH fx =>
  K (.agg #[(.bool t14), (.slice wS fH fx)]) mG)
  (aJ (Mem.ld M2 ⟨b0, (o0 + 11), none⟩) .i64 fun lq =>
  aO (lq != 0)
   (aK M2 ⟨k1, 0, none⟩ (.bool false) fun jB =>
   aK jB ⟨k1, (0 + 1), none⟩ (.slice none 0 0) fun vL =>
   de (Mem.ld vL ⟨k1, 0, none⟩) fun t21 =>
   aB (Mem.ld vL ⟨k1, (0 + 1), none⟩) fun WW jm vg =>
   K (.agg #[(.bool t21), (.slice WW jm vg)]) vL)
   (aB (Mem.ld M2 ⟨b0, (o0 + 4), none⟩) fun XR sj Am =>
   ((0 : Int) ≤ x1) ∧
   ((x1 : Int) < ((sj : Nat) : Int)) ∧
   aF XR fun oC iq =>
   cy (Mem.ld M2 ⟨oC, (iq + (Int.toNat x1)), none⟩) fun WQ =>
   aF WQ fun qD uo =>
   aJ (Mem.ld M2 ⟨qD, uo, none⟩) .i64 fun sL =>
   aO (sL != 1)
    (aK M2 ⟨k1, 0, none⟩ (.bool false) fun sq =>
    aK sq ⟨k1, (0 + 1), none⟩ (.slice none 0 0) fun AP =>
    de (Mem.ld AP ⟨k1, 0, none⟩) fun t36 =>
    aB (Mem.ld AP ⟨k1, (0 + 1), none⟩) fun Qt iR yY =>
    K (.agg #[(.bool t36), (.slice Qt iR yY)]) AP)
    (aK M2 ⟨b0, (o0 + 13), none⟩ (.slice none 0 0) fun TR =>
    Bn u2 <|
    aK TR ⟨b0, (o0 + 14), none⟩ u2 fun Ap =>
    aa Tryz.prog 159 #[(.pointer (some ⟨b0, o0, none⟩)), (.int .i64 x1)] Ap (fun v42 tL =>
    de (some v42) fun t44 =>
    aO (!t44)
     (aJ (Mem.ld tL ⟨b0, (o0 + 11), none⟩) .i64 fun Aq =>
     aO (Aq == 0)
      (aB (Mem.ld tL ⟨b0, (o0 + 4), none⟩) fun A46 TI Qp =>
      ((0 : Int) ≤ x1) ∧
      ((x1 : Int) < ((TI : Nat) : Int)) ∧
      aF A46 fun GB MP =>
      cy (Mem.ld tL ⟨GB, (MP + (Int.toNat x1)), none⟩) fun Qj =>
      aF Qj fun sM qB =>
      aJ (Mem.ld tL ⟨sM, qB, none⟩) .i64 fun TU =>
      aB (Mem.ld tL ⟨b0, (o0 + 13), none⟩) fun A55 LA Au =>
      aK tL ⟨k1, 0, none⟩ (.bool (TU == 1)) fun IB =>
      aK IB ⟨k1, (0 + 1), none⟩ (.slice A55 LA Au) fun Aw =>
      de (Mem.ld Aw ⟨k1, 0, none⟩) fun t60 =>
      aB (Mem.ld Aw ⟨k1, (0 + 1), none⟩) fun TV Nl PD =>
      K (.agg #[(.bool t60), (.slice TV Nl PD)]) Aw)
      (aB (Mem.ld tL ⟨b0, (o0 + 13), none⟩) fun A64 k65 Nn =>
      aK tL ⟨k1, 0, none⟩ (.bool false) fun M67 =>
      aK M67 ⟨k1, (0 + 1), none⟩ (.slice A64 k65 Nn) fun Yd =>
      de (Mem.ld Yd ⟨k1, 0, none⟩) fun t69 =>
      aB (Mem.ld Yd ⟨k1, (0 + 1), none⟩) fun Qy PE Ye =>
      K (.agg #[(.bool t69), (.slice Qy PE Ye)]) Yd))
     (aB (Mem.ld tL ⟨b0, (o0 + 13), none⟩) fun A73 ID k75 =>
     aK tL ⟨k1, 0, none⟩ (.bool false) fun M76 =>
     aK M76 ⟨k1, (0 + 1), none⟩ (.slice A73 ID k75) fun Kj =>
     de (Mem.ld Kj ⟨k1, 0, none⟩) fun t78 =>
     aB (Mem.ld Kj ⟨k1, (0 + 1), none⟩) fun TZ No T0 =>
     K (.agg #[(.bool t78), (.slice TZ No T0)]) Kj)) Kp))))) :
 aa Tryz.prog 121 ([.pointer (some ⟨b0, o0, none⟩), .int .i64 x1, u2] : List Value).toArray M K Kp :=
 cu (C := Cx) good [(5, .bQ [0, 1, 3, 7, 15, 31, 63, 127, 255, 511, 1023, 2047, 4095, 8191, 1023, 32767, 65535, 131071, 262143, 524287, 1048575, 2097151, 0, 4194304, 12582912, 29360128, 67108863, 134217727] (.step 0 (.step 1 (.step 2 (.step 3 (.step 4 (.step 5 (.step 22 (.step 23 (.step 24 (.step 6 (.step 7 (.step 8 (.step 9 (.step 10 (.step 11 (.step 12 (.step 14 (.step 13 (.step 15 (.step 16 (.step 17 (.step 18 (.step 19 (.step 20 (.step 21 (.step 25 (.step 26 (.step 27 .done)))))))))))))))))))))))))))))] Tryz.func121 (by kernel_rfl) (by kernel_rfl) h
theorem pO {b0 o0 : Nat} {M : Mem} {K : Value → Mem → Prop} {Kp : List PanicEntry → Mem → Prop} (h :
aJ (Mem.ld M ⟨b0, (o0 + 11), none⟩) .i64 fun n1 =>
aO (n1 != 0)
 (K (.bool false) M)
 (aB (Mem.ld M ⟨b0, (o0 + 4), none⟩) fun A2 k3 k4 =>
 ∃ I5 : Nat → List Value → Mem → Prop, (∃ k6 : Nat, I5 k6 [(.int .i64 0)] M) ∧
 ∀ k7 : Nat, ∀ junk8 : Nat → Value, ∀ n9 : Int, ∀ iU : Mem, (I5 k7 [(.int .i64 n9)] iU) → aO (decide ((n9 : Int) < ((k3 : Nat) : Int)))
  (((0 : Int) ≤ n9) ∧
  ((n9 : Int) < ((k3 : Nat) : Int)) ∧
  aF A2 fun fu gY =>
  cy (Mem.ld iU ⟨fu, (gY + (Int.toNat n9)), none⟩) fun DE =>
  aF DE fun jH iW =>
  aJ (Mem.ld iU ⟨jH, iW, none⟩) .i64 fun nh =>
  aO (nh == 1)
   (K (.bool false) iU)
   (aF DE fun fx fI =>
   aJ (Mem.ld iU ⟨fx, fI, none⟩) .i64 fun yQ =>
   aO (yQ == 3)
    (K (.bool false) iU)
    (∃ lF : Nat, (lF < k7) ∧
    I5 lF [(.int .i64 (IntKind.wrap .i64 (n9 + 1)))] iU)))
  (K (.bool true) iU))) :
 aa Tryz.prog 65 ([.pointer (some ⟨b0, o0, none⟩)] : List Value).toArray M K Kp :=
 cu (C := Cx) good [(2000000, .loop [(15, .c (.int .i64))])] Tryz.func65 (by kernel_rfl) (by kernel_rfl) h
variable {M : Mem} {K : Value → Mem → Prop} {Kp : List PanicEntry → Mem → Prop}
theorem vQ {B0 : Option Addr} {m0 c0 : Nat} (h :
bh M (cl [] 32) fun k1 M2 =>
aA 31 (some ⟨k1, 0, none⟩) 0 0 B0 m0 c0 M2 (fun v3 M4 =>
aB (some v3) fun A5 k6 k7 =>
bh M4 (cl [(.slice A5 k6 k7), (iV 0)] 147) fun k8 M9 =>
bh M9 (.cells #[(.func (.func 59) #[(.pointer (some ⟨k8, 0, none⟩))] #[]), (.func (.func 60) #[(.pointer (some ⟨k8, 0, none⟩))] #[]), (.slice none 0 0), .nilFunc] 152 (0, 0)) fun gh jJ =>
K (.pointer (some ⟨gh, 0, none⟩)) jJ) Kp) :
 aa Tryz.prog 16 #[.slice B0 m0 c0] M K Kp := vw [] Tryz.func16 h
theorem nI {b0 o0 : Nat} (h :
bh M (cl [] 95) fun k1 M2 =>
rS M2 b0 (o0 + 2) fun A3 k4 k5 =>
aA 149 (some ⟨k1, 0, none⟩) 0 0 A3 k4 k5 M2 (fun v6 M7 =>
aB (some v6) fun A8 k9 gh =>
K (.slice A8 k9 gh) M7) Kp) :
 aa Tryz.prog 76 #[.pointer (some ⟨b0, o0, none⟩)] M K Kp := vw [] Tryz.func76 h
theorem oI {b0 o0 : Nat} {x1 : Int} {x2 : Int} (h :
aJ (Mem.ld M ⟨b0, (o0 + 1), none⟩) .i64 fun n1 =>
aB (Mem.ld M ⟨b0, o0, none⟩) fun A2 k3 k4 =>
aO (decide ((n1 : Int) ≥ ((k3 : Nat) : Int)))
 (Kp [{ v := (.iface 240 (.agg #[])), recovered := false }] M)
 (aJ (Mem.ld M ⟨b0, (o0 + 1), none⟩) .i64 fun n5 =>
 aK M ⟨b0, (o0 + 1), none⟩ (.int .i64 (IntKind.wrap .i64 (n5 + 1))) fun M6 =>
 aB (Mem.ld M6 ⟨b0, o0, none⟩) fun A7 k8 k9 =>
 aJ (Mem.ld M6 ⟨b0, (o0 + 1), none⟩) .i64 fun iZ =>
 ((0 : Int) ≤ (IntKind.wrap .i64 (iZ - 1))) ∧
 (((IntKind.wrap .i64 (iZ - 1)) : Int) < ((k8 : Nat) : Int)) ∧
 aF A7 fun fu gY =>
 aJ (Mem.ld M6 ⟨fu, (gY + (Int.toNat (IntKind.wrap .i64 (iZ - 1)))), none⟩) .u64 fun j7 =>
 (((IntKind.wrap .u64 x2) : Int) ≠ 0) ∧
 K (.int .u64 (Int.tmod j7 (IntKind.wrap .u64 x2))) M6)) :
 aa Tryz.prog 59 ([.pointer (some ⟨b0, o0, none⟩), .int .i64 x1, .int .i64 x2] : List Value).toArray M K Kp :=
 cu (C := Cx) good [(1, .bQ [0, 1, 3, 7, 0, 16, 48, 112, 240, 511] (.step 0 (.step 1 (.step 2 (.step 4 (.step 5 (.step 6 (.step 3 (.step 7 (.step 8 (.step 9 .done))))))))))), (4, .bQ [0, 1, 3, 7, 0, 16, 48, 112, 240, 511, 1023, 0, 2048, 8191, 16383] (.step 0 (.step 1 (.step 2 (.step 4 (.step 5 (.step 6 (.step 11 (.step 12 (.step 3 (.step 7 (.step 8 (.step 9 (.step 10 (.step 13 (.step 14 .done))))))))))))))))] Tryz.func59 (by kernel_rfl) (by kernel_rfl) h
theorem xA {u0 : Value} (h :
bh M yK fun k1 M2 =>
bh M2 Sg fun k3 M4 =>
bh M4 yK fun k5 M6 =>
sT M6 k3 0 (iV 0) fun M7 =>
sT5 M7 k5 (iV 0) (iV 0) (iV 0) (iV 0) (.int .u64 0) fun sg =>
aa Tryz.prog 116 #[u0, (.pointer (some ⟨k3, 0, none⟩)), (.pointer (some ⟨k5, 0, none⟩))] sg (fun Lt oh =>
(Lt = (.tuple #[])) ∧
rI oh k3 0 fun kZ =>
My oh k5 0 fun nh iQ lq yQ gd =>
sT5 oh k1 (iV nh) (iV iQ) (iV lq) (iV yQ) (.int .u64 gd) fun Iv =>
My Iv k1 0 fun oU oB wU xX Ey =>
K (.tuple #[(iV kZ), (.agg #[(iV oU), (iV oB), (iV wU), (iV xX), (.int .u64 Ey)])]) Iv) Kp) :
 aa Tryz.prog 61 #[u0] M K Kp := vw [(3, .bQ [0, 0, 1, 7] (sy [0, 2, 1, 3] .done))] Tryz.func61 h
theorem rH {b0 o0 : Nat} {x1 : Int} {x2 : Int} (h :
aJ (Mem.ld M ⟨b0, (o0 + 1), none⟩) .i64 fun n1 =>
aB (Mem.ld M ⟨b0, o0, none⟩) fun A2 k3 k4 =>
aO (decide ((n1 : Int) ≥ ((k3 : Nat) : Int)))
 (Kp [{ v := (.iface 240 (.agg #[])), recovered := false }] M)
 (aB (Mem.ld M ⟨b0, o0, none⟩) fun A5 k6 k7 =>
 aJ (Mem.ld M ⟨b0, (o0 + 1), none⟩) .i64 fun n8 =>
 ((0 : Int) ≤ n8) ∧
 ((n8 : Int) < ((k6 : Nat) : Int)) ∧
 aF A5 fun k9 gh =>
 aJ (Mem.ld M ⟨k9, (gh + ((Int.toNat n8) * 2)), none⟩) .i64 fun iI =>
 aJ (Mem.ld M ⟨k9, ((gh + ((Int.toNat n8) * 2)) + 1), none⟩) .u64 fun jK =>
 bh M (.cells #[(.int .i64 0), (.int .u64 0)] 95 (0, 0)) fun eK oh =>
 aK oh ⟨eK, 0, none⟩ (.int .i64 iI) fun sr =>
 aK sr ⟨eK, (0 + 1), none⟩ (.int .u64 jK) fun fq =>
 aJ (Mem.ld fq ⟨eK, 0, none⟩) .i64 fun iQ =>
 aO (iQ != x1)
  (aJ (Mem.ld fq ⟨b0, (o0 + 1), none⟩) .i64 fun lq =>
  aJ (Mem.ld fq ⟨eK, 0, none⟩) .i64 fun yQ =>
  aJ (Mem.ld fq ⟨eK, (0 + 1), none⟩) .u64 fun gd =>
  Kp [{ v := (.iface 97 (.agg #[(.int .i64 lq), (.int .i64 x1), (.int .i64 x2), (.int .i64 yQ), (.int .u64 gd)])), recovered := false }] fq)
  (aJ (Mem.ld fq ⟨eK, (0 + 1), none⟩) .u64 fun sK =>
  aO (decide ((sK : Int) ≥ (IntKind.wrap .u64 x2)))
   (aJ (Mem.ld fq ⟨b0, (o0 + 1), none⟩) .i64 fun wT =>
   aJ (Mem.ld fq ⟨eK, 0, none⟩) .i64 fun qS =>
   aJ (Mem.ld fq ⟨eK, (0 + 1), none⟩) .u64 fun DG =>
   Kp [{ v := (.iface 97 (.agg #[(.int .i64 wT), (.int .i64 x1), (.int .i64 x2), (.int .i64 qS), (.int .u64 DG)])), recovered := false }] fq)
   (aJ (Mem.ld fq ⟨b0, (o0 + 1), none⟩) .i64 fun nG =>
   aK fq ⟨b0, (o0 + 1), none⟩ (.int .i64 (IntKind.wrap .i64 (nG + 1))) fun xY =>
   aJ (Mem.ld xY ⟨eK, (0 + 1), none⟩) .u64 fun oB =>
   K (.int .u64 oB) xY)))) :
 aa Tryz.prog 198 ([.pointer (some ⟨b0, o0, none⟩), .int .i64 x1, .int .i64 x2] : List Value).toArray M K Kp :=
 cu (C := Cx) good [(1, .bQ [0, 1, 3, 7, 0, 16, 48, 112, 240, 511] (.step 0 (.step 1 (.step 2 (.step 4 (.step 5 (.step 6 (.step 3 (.step 7 (.step 8 (.step 9 .done))))))))))), (3, .bQ [0, 1, 3, 7, 0, 16, 48, 112, 255, 511, 0, 2047] (.step 0 (.step 1 (.step 2 (.step 4 (.step 5 (.step 6 (.step 3 (.step 7 (.step 8 (.step 9 (.step 10 (.step 11 .done))))))))))))), (5, .bQ [0, 1, 3, 7, 0, 0, 0, 127, 255, 511] (.step 0 (.step 1 (.step 2 (.step 4 (.step 5 (.step 3 (.step 6 (.step 7 (.step 8 (.step 9 .done)))))))))))] Tryz.func198 (by kernel_rfl) (by kernel_rfl) h
theorem oJ {b0 o0 : Nat} {x1 : Int} {x2 : Int} (h :
dZ (Mem.ld M ⟨b0, o0, none⟩) fun v1 =>
iB Cx v1 [(iV x1), (iV (if (1 : Int) > x2 then 1 else x2))] M (fun v2 M3 =>
aJ (some v2) .u64 fun n4 =>
bh M3 Ip fun k5 M6 =>
sT2 M6 k5 (iV x1) (.int .u64 n4) fun M8 =>
rS M8 b0 (o0 + 2) fun A9 gh fu =>
rIU M8 k5 0 fun jK j7 =>
bh M8 (cl [(iV jK), (.int .u64 j7)] 95) fun jH sr =>
aA 149 A9 gh fu (some ⟨jH, 0, none⟩) 1 1 sr (fun Na oz =>
aB (some Na) fun Kg jI lF =>
sT oz b0 (o0 + 2) (.slice Kg jI lF) fun ov =>
dZ (Mem.ld ov ⟨b0, (o0 + 3), none⟩) fun Kc =>
H7 Kc fun t23 =>
aO (!t23)
 (dZ (Mem.ld ov ⟨b0, (o0 + 3), none⟩) fun X8 =>
 rIU ov k5 0 fun nG oU =>
 iB Cx X8 [(.agg #[(iV nG), (.int .u64 oU)])] ov (fun Qn vK =>
 (Qn = (.tuple #[])) ∧
 rU vK k5 1 fun xX =>
 K (iV (IntKind.wrap .i64 xX)) vK) Kp)
 (rU ov k5 1 fun Ey =>
 K (iV (IntKind.wrap .i64 Ey)) ov)) Kp) Kp) :
 aa Tryz.prog 107 #[.pointer (some ⟨b0, o0, none⟩), .int .i64 x1, .int .i64 x2] M K Kp := vw [(2, .bQ [0, 0, 2, 6, 14, 0, 32, 126, 255, 511, 1023] (sy [0, 1, 2, 3, 4, 5, 6, 7, 8, 9, 10] .done)), (4, .bQ [0, 1, 3, 7, 0, 31] (sy [0, 1, 2, 3, 4, 5] .done))] Tryz.func107 h
end Go.Proofs
namespace Go.Proofs
open Go.AF
set_option maxRecDepth 100000
variable {M : Mem} {K : Value → Mem → Prop} {Kp : List PanicEntry → Mem → Prop}
theorem CZ {x0 : Int} (h :
aa Tryz.prog 115 #[(iV x0)] M (fun v1 M2 =>
cy (some v1) fun A3 =>
bh M2 (cl [(iV (-1)), (.pointer A3)] 237) fun k4 M5 =>
K (.pointer (some ⟨k4, 0, none⟩)) M5) Kp) :
 aa Tryz.prog 57 #[.int .i64 x0] M K Kp := vw [] Tryz.func57 h
theorem rJ {b0 o0 : Nat} {B1 : Option Addr} {m1 c1 : Nat} (h :
aB (Mem.ld M ⟨b0, o0, none⟩) fun A1 k2 k3 =>
aY Tryz.prog (Go.Builtin.append_ #[36, 36] 36 #[(.slice A1 k2 k3), (.slice B1 m1 c1)]) M (fun v4 M5 =>
aB (some v4) fun A6 k7 k8 =>
aK M5 ⟨b0, o0, none⟩ (.slice A6 k7 k8) fun M9 =>
K (.tuple #[]) M9) Kp) :
 aa Tryz.prog 58 ([.pointer (some ⟨b0, o0, none⟩), .slice B1 m1 c1] : List Value).toArray M K Kp :=
 cu (C := Cx) good [] Tryz.func58 (by kernel_rfl) (by kernel_rfl) h
theorem rK {b0 o0 : Nat} (h :
rI M b0 o0 fun n1 =>
K (iV n1) M) :
 aa Tryz.prog 148 #[.pointer (some ⟨b0, o0, none⟩)] M K Kp := vw [] Tryz.func148 h
theorem EA {x0 : Int} (h :
aY Tryz.prog (Go.Instr.makeSlice 36 (iV (if (1024 : Int) < (if (1 : Int) > x0 then 1 else x0) then 1024 else (if (1 : Int) > x0 then 1 else x0))) (iV (if (1024 : Int) < (if (1 : Int) > x0 then 1 else x0) then 1024 else (if (1 : Int) > x0 then 1 else x0)))) M (fun v1 M2 =>
aB (some v1) fun A3 k4 k5 =>
bh M2 (cl [(.slice A3 k4 k5), (iV 0), (iV 0)] 309) fun k6 M7 =>
K (.pointer (some ⟨k6, 0, none⟩)) M7) Kp) :
 aa Tryz.prog 115 #[.int .i64 x0] M K Kp := vw [] Tryz.func115 h
theorem tf {b0 o0 : Nat} (h :
rI M b0 o0 fun n1 =>
aO (n1 != (-1))
 (sT M b0 o0 (iV (-1)) fun M2 =>
 K (.tuple #[(iV n1), (.bool true)]) M2)
 (rP M b0 (o0 + 1) fun A3 =>
 aa Tryz.prog 177 #[(.pointer A3)] M (fun v4 M5 =>
 ∃ n6 : Int, ∃ t7 : Bool, (v4 = (.tuple #[(iV n6), (.bool t7)])) ∧
 aO (!t7)
 (K (.tuple #[(iV (-1)), (.bool false)]) M5)
 (K (.tuple #[(iV n6), (.bool true)]) M5)) Kp)) :
 aa Tryz.prog 149 #[.pointer (some ⟨b0, o0, none⟩)] M K Kp := vw [] Tryz.func149 h
theorem ju {b0 o0 : Nat} {b1 o1 : Nat} (h :
Go.AF.ptrEq M (some ⟨b0, o0, none⟩) (some ⟨b1, o1, none⟩) fun t1 =>
aO t1
 (K (.tuple #[(iV (-1)), (.bool false)]) M)
 (rP M b1 (o1 + 1) fun A2 =>
 aa Tryz.prog 181 #[(.pointer A2)] M (fun v3 M4 =>
 aJ (some v3) .i64 fun n5 =>
 aO (n5 == 0)
 (rI M4 b1 o1 fun n6 =>
 sT M4 b1 o1 (iV (-1)) fun M7 =>
 K (.tuple #[(iV n6), (.bool (n6 != (-1)))]) M7)
 (((2 : Int) ≠ 0) ∧
 rP M4 b0 (o0 + 1) fun A8 =>
 rP M4 b1 (o1 + 1) fun A9 =>
 rP M4 b0 (o0 + 1) fun FF =>
 aa Tryz.prog 183 #[(.pointer A8)] M4 (fun v11 sg =>
 aJ (some v11) .i64 fun j7 =>
 ((Mem.ld sg ⟨b0, (o0 + 1), none⟩) = (some (.pointer FF))) ∧
 ((Mem.ld sg ⟨b1, (o1 + 1), none⟩) = (some (.pointer A9))) ∧
 aa Tryz.prog 181 #[(.pointer FF)] sg (fun Ya sr =>
 aJ (some Ya) .i64 fun nh =>
 ((Mem.ld sr ⟨b0, (o0 + 1), none⟩) = (some (.pointer FF))) ∧
 ((Mem.ld sr ⟨b1, (o1 + 1), none⟩) = (some (.pointer A9))) ∧
 aa Tryz.prog 182 #[(.pointer A9), (iV (if ((IntKind.wrap .i64 ((IntKind.wrap .i64 (j7 - nh)) + 1)) : Int) < (IntKind.wrap .i64 (n5 - (IntKind.wrap .i64 (Int.tdiv n5 2)))) then (IntKind.wrap .i64 ((IntKind.wrap .i64 (j7 - nh)) + 1)) else (IntKind.wrap .i64 (n5 - (IntKind.wrap .i64 (Int.tdiv n5 2))))))] sr (fun TT um =>
 aB (some TT) fun FJ lF fQ =>
 ((Mem.ld um ⟨b0, (o0 + 1), none⟩) = (some (.pointer FF))) ∧
 ((Mem.ld um ⟨b1, (o1 + 1), none⟩) = (some (.pointer A9))) ∧
 ((0 : Int) ≤ fQ) ∧
 ((fQ : Int) ≤ fQ) ∧
 ((0 : Int) ≤ lF) ∧
 ((lF : Int) ≤ fQ) ∧
 ((0 : Int) ≤ 1) ∧
 ((1 : Int) ≤ lF) ∧
 ∃ I22 : IT, (∃ jm, I22 jm [(iV 0)] um) ∧
 ∀ (vg : Nat) (_ : Nat → Value) (oU : Int) (xU : Mem), (I22 vg [(iV oU)] xU) → aO (decide ((oU : Int) < ((((Int.toNat (lF : Int)) - 1) : Nat) : Int)))
 ((0 ≤ oU) ∧
 ((oU : Int) < ((((Int.toNat (lF : Int)) - 1) : Nat) : Int)) ∧
 aF (lp FJ 1 (Int.toNat (fQ : Int)) 1) fun oC iq =>
 rI xU oC (iq + (Int.toNat oU)) fun Ey =>
 rP xU b0 (o0 + 1) fun TO =>
 aa Tryz.prog 184 #[(.pointer TO), (iV Ey)] xU (fun T3 Ao =>
 de (some T3) fun t34 =>
 ∃ BO : Nat, (BO < vg) ∧
 I22 BO [(iV (IntKind.wrap .i64 (oU + 1)))] Ao) Kp)
 (((0 : Int) ≤ 0) ∧
 ((0 : Int) < lF) ∧
 aF FJ fun MW jS =>
 rI xU MW (jS + 0) fun J1 =>
 K (.tuple #[(iV J1), (.bool true)]) xU)) Kp) Kp) Kp)) Kp)) :
 aa Tryz.prog 151 #[.pointer (some ⟨b0, o0, none⟩), .pointer (some ⟨b1, o1, none⟩)] M K Kp := vw [(8, .bQ [0, 1, 3, 7, 0, 0, 32, 112, 0, 256, 768, 1792, 3840, 0, 8192, 24576, 57344, 130816, 261888, 524032, 1048560, 2097151, 4194303] (sy [0, 1, 2, 4, 5, 6, 7, 8, 9, 10, 13, 14, 15, 11] (.dD 3 (.dD 16 (sy [12, 17, 18, 19, 20, 21, 22] .done))))), (2000000, .loop [(56, .c (.int .i64))])] Tryz.func151 h
theorem pP {b0 o0 : Nat} {x1 : Int} {b2 o2 : Nat} (h :
rI M b0 o0 fun n1 =>
sT M b0 o0 (iV x1) fun M2 =>
aO (n1 == (-1))
 (K (iV 0) M2)
 (aa Tryz.prog 185 #[(.pointer (some ⟨b0, o0, none⟩)), (iV n1), (.pointer (some ⟨b2, o2, none⟩))] M2 (fun v3 M4 =>
 aJ (some v3) .i64 fun n5 =>
 K (iV n5) M4) Kp)) :
 aa Tryz.prog 152 #[.pointer (some ⟨b0, o0, none⟩), .int .i64 x1, .pointer (some ⟨b2, o2, none⟩)] M K Kp := vw [] Tryz.func152 h
theorem vR {b0 o0 : Nat} (h :
rI M b0 (o0 + 2) fun n1 =>
aO (n1 == 0)
 (K (.tuple #[(iV 0), (.bool false)]) M)
 (rS M b0 o0 fun A2 k3 k4 =>
 rI M b0 (o0 + 1) fun n5 =>
 (0 ≤ n5) ∧
 (n5 < k3) ∧
 aF A2 fun k6 k7 =>
 rI M k6 (k7 + (Int.toNat n5)) fun n8 =>
 rI M b0 (o0 + 1) fun n9 =>
 rS M b0 o0 fun FF fu gY =>
 ((fu : Int) ≠ 0) ∧
 sT M b0 (o0 + 1) (iV (Int.tmod (IntKind.wrap .i64 (n9 + 1)) (fu : Int))) fun mG =>
 rI mG b0 (o0 + 2) fun lY =>
 sT mG b0 (o0 + 2) (iV (IntKind.wrap .i64 (lY - 1))) fun sr =>
 K (.tuple #[(iV n8), (.bool true)]) sr)) :
 aa Tryz.prog 177 #[.pointer (some ⟨b0, o0, none⟩)] M K Kp := vw [(3, .bQ [0, 1, 3, 7, 0, 16, 48, 112, 255, 511, 1023] (sy [0, 1, 2, 4, 5, 6, 3, 7, 8, 9, 10] .done)), (4, .bQ [0, 0, 2, 6, 14, 30, 0, 64, 192, 448, 960, 2046, 4095, 8191, 16383] (sy [0, 1, 2, 3, 6, 7, 8, 4, 5, 9, 10, 11, 12, 13, 14] .done))] Tryz.func177 h
theorem rL {b0 o0 : Nat} {b1 o1 : Nat} (h :
rI M b0 o0 fun n1 =>
aO (n1 == (-1))
 (K (iV 0) M)
 (sT M b0 o0 (iV (-1)) fun M2 =>
 aa Tryz.prog 185 #[(.pointer (some ⟨b0, o0, none⟩)), (iV n1), (.pointer (some ⟨b1, o1, none⟩))] M2 (fun v3 M4 =>
 aJ (some v3) .i64 fun n5 =>
 K (iV n5) M4) Kp)) :
 aa Tryz.prog 178 #[.pointer (some ⟨b0, o0, none⟩), .pointer (some ⟨b1, o1, none⟩)] M K Kp := vw [] Tryz.func178 h
theorem pQ {b0 o0 : Nat} {x1 : Int} (h :
aB (Mem.ld M ⟨b0, o0, none⟩) fun A1 k2 k3 =>
bh M (.cells #[] 3 (0, 0)) fun k4 M5 =>
aB (Mem.ld M5 ⟨b0, o0, none⟩) fun A6 k7 k8 =>
((0 : Int) ≤ ((k8 : Nat) : Int)) ∧
((((k8 : Nat) : Int) : Int) ≤ ((k8 : Nat) : Int)) ∧
((0 : Int) ≤ (if (((k2 : Nat) : Int) : Int) < (if (0 : Int) > x1 then 0 else x1) then ((k2 : Nat) : Int) else (if (0 : Int) > x1 then 0 else x1))) ∧
(((if (((k2 : Nat) : Int) : Int) < (if (0 : Int) > x1 then 0 else x1) then ((k2 : Nat) : Int) else (if (0 : Int) > x1 then 0 else x1)) : Int) ≤ ((k8 : Nat) : Int)) ∧
((0 : Int) ≤ 0) ∧
((0 : Int) ≤ (if (((k2 : Nat) : Int) : Int) < (if (0 : Int) > x1 then 0 else x1) then ((k2 : Nat) : Int) else (if (0 : Int) > x1 then 0 else x1))) ∧
aY Tryz.prog (Go.Builtin.append_ #[36, 36] 36 #[(.slice (some ⟨k4, 0, none⟩) 0 0), (.slice (lp A6 0 (Int.toNat ((k8 : Nat) : Int)) 1) ((Int.toNat (if (((k2 : Nat) : Int) : Int) < (if (0 : Int) > x1 then 0 else x1) then ((k2 : Nat) : Int) else (if (0 : Int) > x1 then 0 else x1))) - 0) ((Int.toNat ((k8 : Nat) : Int)) - 0))]) M5 (fun v9 iU =>
aB (some v9) fun PC gY eK =>
bh iU (.cells #[] 3 (0, 0)) fun jH sr =>
aB (Mem.ld sr ⟨b0, o0, none⟩) fun WU fx fI =>
((0 : Int) ≤ ((fI : Nat) : Int)) ∧
((((fI : Nat) : Int) : Int) ≤ ((fI : Nat) : Int)) ∧
((0 : Int) ≤ ((fx : Nat) : Int)) ∧
((((fx : Nat) : Int) : Int) ≤ ((fI : Nat) : Int)) ∧
((0 : Int) ≤ (if (((k2 : Nat) : Int) : Int) < (if (0 : Int) > x1 then 0 else x1) then ((k2 : Nat) : Int) else (if (0 : Int) > x1 then 0 else x1))) ∧
(((if (((k2 : Nat) : Int) : Int) < (if (0 : Int) > x1 then 0 else x1) then ((k2 : Nat) : Int) else (if (0 : Int) > x1 then 0 else x1)) : Int) ≤ ((fx : Nat) : Int)) ∧
aY Tryz.prog (Go.Builtin.append_ #[36, 36] 36 #[(.slice (some ⟨jH, 0, none⟩) 0 0), (.slice (lp WU (Int.toNat (if (((k2 : Nat) : Int) : Int) < (if (0 : Int) > x1 then 0 else x1) then ((k2 : Nat) : Int) else (if (0 : Int) > x1 then 0 else x1))) (Int.toNat ((fI : Nat) : Int)) 1) ((Int.toNat ((fx : Nat) : Int)) - (Int.toNat (if (((k2 : Nat) : Int) : Int) < (if (0 : Int) > x1 then 0 else x1) then ((k2 : Nat) : Int) else (if (0 : Int) > x1 then 0 else x1)))) ((Int.toNat ((fI : Nat) : Int)) - (Int.toNat (if (((k2 : Nat) : Int) : Int) < (if (0 : Int) > x1 then 0 else x1) then ((k2 : Nat) : Int) else (if (0 : Int) > x1 then 0 else x1)))))]) sr (fun TQ vL =>
aB (some TQ) fun CT iw jm =>
aK vL ⟨b0, o0, none⟩ (.slice CT iw jm) fun j6 =>
K (.slice PC gY eK) j6) Kp) Kp) :
 aa Tryz.prog 179 ([.pointer (some ⟨b0, o0, none⟩), .int .i64 x1] : List Value).toArray M K Kp :=
 cu (C := Cx) good [] Tryz.func179 (by kernel_rfl) (by kernel_rfl) h
theorem pR {b0 o0 : Nat} {b1 o1 : Nat} {x2 : Int} (h :
rP M b0 (o0 + 1) fun A1 =>
rP M b0 (o0 + 1) fun A2 =>
aa Tryz.prog 202 #[(.pointer (some ⟨b1, o1, none⟩))] M (fun v3 M4 =>
aJ (some v3) .i64 fun n5 =>
((Mem.ld M4 ⟨b0, (o0 + 1), none⟩) = (some (.pointer A2))) ∧
((Mem.ld M4 ⟨b0, (o0 + 1), none⟩) = (some (.pointer A1))) ∧
(((if (1 : Int) > x2 then 1 else x2) : Int) ≠ 0) ∧
aa Tryz.prog 183 #[(.pointer A1)] M4 (fun v6 M7 =>
aJ (some v6) .i64 fun n8 =>
((Mem.ld M7 ⟨b0, (o0 + 1), none⟩) = (some (.pointer A2))) ∧
((Mem.ld M7 ⟨b0, (o0 + 1), none⟩) = (some (.pointer A1))) ∧
aa Tryz.prog 181 #[(.pointer A2)] M7 (fun v9 iU =>
aJ (some v9) .i64 fun iI =>
((Mem.ld iU ⟨b0, (o0 + 1), none⟩) = (some (.pointer A2))) ∧
((Mem.ld iU ⟨b0, (o0 + 1), none⟩) = (some (.pointer A1))) ∧
aO (decide ((x2 : Int) < 1))
 (aa Tryz.prog 179 #[(.pointer (some ⟨b1, o1, none⟩)), (iV 1)] iU (fun Im mG =>
 aB (some Im) fun oT iW fH =>
 aO ((iW : Int) == 0)
 (K (.tuple #[(iV (-1)), (.bool false)]) mG)
 (((0 : Int) ≤ fH) ∧
 ((fH : Int) ≤ fH) ∧
 ((0 : Int) ≤ iW) ∧
 ((iW : Int) ≤ fH) ∧
 ((0 : Int) ≤ 1) ∧
 ((1 : Int) ≤ iW) ∧
 ∃ I17 : IT, (∃ fI, I17 fI [(iV 0)] mG) ∧
 ∀ (jI : Nat) (_ : Nat → Value) (sK : Int) (dP : Mem), (I17 jI [(iV sK)] dP) → aO (decide ((sK : Int) < ((((Int.toNat (iW : Int)) - 1) : Nat) : Int)))
 ((0 ≤ sK) ∧
 ((sK : Int) < ((((Int.toNat (iW : Int)) - 1) : Nat) : Int)) ∧
 aF (lp oT 1 (Int.toNat (fH : Int)) 1) fun jm vg =>
 rI dP jm (vg + (Int.toNat sK)) fun nG =>
 rP dP b0 (o0 + 1) fun T4 =>
 aa Tryz.prog 184 #[(.pointer T4), (iV nG)] dP (fun Qn vK =>
 de (some Qn) fun t29 =>
 ∃ mH : Nat, (mH < jI) ∧
 I17 mH [(iV (IntKind.wrap .i64 (sK + 1)))] vK) Kp)
 (((0 : Int) ≤ 0) ∧
 ((0 : Int) < iW) ∧
 aF oT fun qD uo =>
 rI dP qD (uo + 0) fun sL =>
 K (.tuple #[(iV sL), (.bool true)]) dP))) Kp)
 (aa Tryz.prog 179 #[(.pointer (some ⟨b1, o1, none⟩)), (iV (if ((IntKind.wrap .i64 ((IntKind.wrap .i64 (n8 - iI)) + 1)) : Int) < (IntKind.wrap .i64 ((IntKind.wrap .i64 (Int.tdiv n5 (if (1 : Int) > x2 then 1 else x2))) + 1)) then (IntKind.wrap .i64 ((IntKind.wrap .i64 (n8 - iI)) + 1)) else (IntKind.wrap .i64 ((IntKind.wrap .i64 (Int.tdiv n5 (if (1 : Int) > x2 then 1 else x2))) + 1))))] iU (fun v34 AP =>
 aB (some v34) fun Sz jS iR =>
 aO ((jS : Int) == 0)
 (K (.tuple #[(iV (-1)), (.bool false)]) AP)
 (((0 : Int) ≤ iR) ∧
 ((iR : Int) ≤ iR) ∧
 ((0 : Int) ≤ jS) ∧
 ((jS : Int) ≤ iR) ∧
 ((0 : Int) ≤ 1) ∧
 ((1 : Int) ≤ jS) ∧
 ∃ I39 : IT, (∃ FH, I39 FH [(iV 0)] AP) ∧
 ∀ (It : Nat) (_ : Nat → Value) (Ep : Int) (AO : Mem), (I39 It [(iV Ep)] AO) → aO (decide ((Ep : Int) < ((((Int.toNat (jS : Int)) - 1) : Nat) : Int)))
 ((0 ≤ Ep) ∧
 ((Ep : Int) < ((((Int.toNat (jS : Int)) - 1) : Nat) : Int)) ∧
 aF (lp Sz 1 (Int.toNat (iR : Int)) 1) fun FG ML =>
 rI AO FG (ML + (Int.toNat Ep)) fun xq =>
 rP AO b0 (o0 + 1) fun Np =>
 aa Tryz.prog 184 #[(.pointer Np), (iV xq)] AO (fun J3 xS =>
 de (some J3) fun t51 =>
 ∃ sM : Nat, (sM < It) ∧
 I39 sM [(iV (IntKind.wrap .i64 (Ep + 1)))] xS) Kp)
 (((0 : Int) ≤ 0) ∧
 ((0 : Int) < jS) ∧
 aF Sz fun qB J5 =>
 rI AO qB (J5 + 0) fun n55 =>
 K (.tuple #[(iV n55), (.bool true)]) AO))) Kp)) Kp) Kp) Kp) :
 aa Tryz.prog 180 #[.pointer (some ⟨b0, o0, none⟩), .pointer (some ⟨b1, o1, none⟩), .int .i64 x2] M K Kp := vw [(1, .bQ [0, 1, 0, 4, 15, 31, 0, 64, 192, 448, 963, 0, 2048, 6144, 14336, 32707, 65475, 131011, 262143, 524287] (sy [0, 2, 3, 6, 7, 8, 11, 12, 13] (.dD 9 (.dD 14 (sy [1, 4, 5, 10, 15, 16, 17, 18, 19] .done))))), (2000000, .loop [(42, .c (.int .i64))])] Tryz.func180 h
theorem vS {b0 o0 : Nat} (h :
rI M b0 (o0 + 2) fun n1 =>
K (iV n1) M) :
 aa Tryz.prog 181 #[.pointer (some ⟨b0, o0, none⟩)] M K Kp := vw [] Tryz.func181 h
theorem uB {b0 o0 : Nat} {x1 : Int} (h :
∃ I1 : IT, (∃ k2, I1 k2 [(.slice none 0 0)] M) ∧
∀ (k3 : Nat) (_ : Nat → Value) (A5 : Option Addr) (k6 : Nat) (k7 : Nat) (M8 : Mem), (I1 k3 [(.slice A5 k6 k7)] M8) → aO (decide ((k6 : Int) < x1))
 (aa Tryz.prog 177 #[(.pointer (some ⟨b0, o0, none⟩))] M8 (fun v9 iU =>
 ∃ iI : Int, ∃ t12 : Bool, (v9 = (.tuple #[(iV iI), (.bool t12)])) ∧
 aO (!t12)
 (K (.slice A5 k6 k7) iU)
 (bh iU (cl [(iV iI)] 3) fun eK oh =>
 aA 36 A5 k6 k7 (some ⟨eK, 0, none⟩) 1 1 oh (fun CU fq =>
 aB (some CU) fun Py fI jI =>
 ∃ lF : Nat, (lF < k3) ∧
 I1 lF [(.slice Py fI jI)] fq) Kp)) Kp)
 (K (.slice A5 k6 k7) M8)) :
 aa Tryz.prog 182 #[.pointer (some ⟨b0, o0, none⟩), .int .i64 x1] M K Kp := vw [(2000000, .loop [(5, .c .sl)])] Tryz.func182 h
theorem uC {b0 o0 : Nat} (h :
rS M b0 o0 fun A1 k2 k3 =>
K (iV (k2 : Int)) M) :
 aa Tryz.prog 183 #[.pointer (some ⟨b0, o0, none⟩)] M K Kp := vw [] Tryz.func183 h
theorem uD {b0 o0 : Nat} {x1 : Int} (h :
rI M b0 (o0 + 2) fun n1 =>
rS M b0 o0 fun A2 k3 k4 =>
aO (n1 == (k3 : Int))
 (K (.bool false) M)
 (rS M b0 o0 fun A5 k6 k7 =>
 rI M b0 (o0 + 1) fun n8 =>
 rI M b0 (o0 + 2) fun n9 =>
 rS M b0 o0 fun FF fu gY =>
 ((fu : Int) ≠ 0) ∧
 ((0 : Int) ≤ (Int.tmod (IntKind.wrap .i64 (n8 + n9)) (fu : Int))) ∧
 (((Int.tmod (IntKind.wrap .i64 (n8 + n9)) (fu : Int)) : Int) < (k6 : Int)) ∧
 aF A5 fun eK jH =>
 sT M eK (jH + (Int.toNat (Int.tmod (IntKind.wrap .i64 (n8 + n9)) (fu : Int)))) (iV x1) fun sr =>
 rI sr b0 (o0 + 2) fun nh =>
 sT sr b0 (o0 + 2) (iV (IntKind.wrap .i64 (nh + 1))) fun oz =>
 K (.bool true) oz)) :
 aa Tryz.prog 184 #[.pointer (some ⟨b0, o0, none⟩), .int .i64 x1] M K Kp := vw [(1, .bQ [0, 1, 3, 7, 0, 16, 48, 112, 240, 511] (sy [0, 1, 2, 4, 5, 6, 3, 7, 8, 9] .done)), (3, .bQ [0, 1, 3, 7, 0, 16, 48, 112, 0, 256, 768, 1792, 4080, 0, 8192, 24576, 57344, 122880, 262128, 0, 1048575, 2097151] (sy [0, 1, 2, 4, 5, 6, 8, 9, 10, 13, 14, 15, 19, 3, 7, 11, 12, 16, 17, 18, 20, 21] .done))] Tryz.func184 h
theorem tg {b0 o0 : Nat} {x1 : Int} {b2 o2 : Nat} (h :
rP M b0 (o0 + 1) fun A1 =>
aa Tryz.prog 184 #[(.pointer A1), (iV x1)] M (fun v2 M3 =>
de (some v2) fun t4 =>
aO t4
 (K (iV 0) M3)
 (rP M3 b0 (o0 + 1) fun A5 =>
 rP M3 b0 (o0 + 1) fun A6 =>
 (True) ∧
 aa Tryz.prog 181 #[(.pointer A5)] M3 (fun v7 M8 =>
 aJ (some v7) .i64 fun n9 =>
 ((Mem.ld M8 ⟨b0, (o0 + 1), none⟩) = (some (.pointer A6))) ∧
 ((2 : Int) ≠ 0) ∧
 (True) ∧
 aa Tryz.prog 182 #[(.pointer A6), (iV (IntKind.wrap .i64 (Int.tdiv n9 2)))] M8 (fun v10 jJ =>
 aB (some v10) fun An eK jH =>
 ((Mem.ld jJ ⟨b0, (o0 + 1), none⟩) = (some (.pointer A6))) ∧
 bh jJ (cl [(iV x1)] 3) fun iW fq =>
 aA 36 An eK jH (some ⟨iW, 0, none⟩) 1 1 fq (fun TT um =>
 aB (some TT) fun FJ lF fQ =>
 ((Mem.ld um ⟨b0, (o0 + 1), none⟩) = (some (.pointer A6))) ∧
 aa Tryz.prog 58 #[(.pointer (some ⟨b2, o2, none⟩)), (.slice FJ lF fQ)] um (fun Kc mj =>
 (Kc = (.tuple #[])) ∧
 K (iV (lF : Int)) mj) Kp) Kp) Kp) Kp)) Kp) :
 aa Tryz.prog 185 #[.pointer (some ⟨b0, o0, none⟩), .int .i64 x1, .pointer (some ⟨b2, o2, none⟩)] M K Kp := vw [(3, .bQ [0, 1, 3, 7, 0, 16, 48, 112, 240, 496, 1023, 0, 2048, 8191, 16383] (sy [0, 1, 2, 4, 5, 6, 11, 7] (.dD 3 (.late 8 (sy [9] (.late 10 (sy [12, 13, 14] .done)))))))] Tryz.func185 h
theorem rM {b0 o0 : Nat} (h :
aB (Mem.ld M ⟨b0, o0, none⟩) fun A1 k2 k3 =>
K (.int .i64 ((k2 : Nat) : Int)) M) :
 aa Tryz.prog 202 ([.pointer (some ⟨b0, o0, none⟩)] : List Value).toArray M K Kp :=
 cu (C := Cx) good [] Tryz.func202 (by kernel_rfl) (by kernel_rfl) h
end Go.Proofs
namespace Go.Proofs
open Go.AF
set_option maxRecDepth 100000
variable {M : Mem} {K : Value → Mem → Prop} {Kp : List PanicEntry → Mem → Prop}
theorem C0 {mL : Option Addr} {mN mO : Nat} {mP : Option Addr} {mQ mR : Nat} {gR : Int} {mS : Option Addr} {mT mU : Nat} {cU : Int} {cV : Int} {cW : Int} {eX : Int} {b2 o2 : Nat} (h :
bh M (cl [(.slice mL mN mO), (.slice mP mQ mR), (iV gR), (.slice mS mT mU)] 39) fun k1 M2 =>
bh M2 (cl [(iV cU), (iV cV), (iV cW), (iV eX)] 29) fun k3 M4 =>
yJ M4 k1 0 fun A5 k6 k7 A8 k9 gh iI An eK jH =>
bH M4 k3 0 fun kZ nh iQ lq =>
aa Tryz.prog 56 #[(.agg #[(.slice A5 k6 k7), (.slice A8 k9 gh), (iV iI), (.slice An eK jH)])] M4 (fun TQ vL =>
cy (some TQ) fun CT =>
((Mem.iS vL ⟨k3, 0, none⟩ 0 4) = some [(iV kZ), (iV nh), (iV iQ), (iV lq)]) ∧
bh vL (cl [(.pointer CT), (iV kZ), (iV nh), (iV iQ), (iV lq), (.slice none 0 0), (.slice none 0 0), (.slice none 0 0), (.pointer (some ⟨b2, o2, none⟩)), (iV 0)] 137) fun iw mj =>
rI mj k3 0 fun DG =>
∃ T5 : IT, (∃ sj, T5 sj [(iV 0)] mj) ∧
∀ (Am : Nat) (_ : Nat → Value) (xX : Int) (uj : Mem), (T5 Am [(iV xX)] uj) → aO (decide (xX < DG))
 (∃ J31 : List Value → Mem → Prop, (rI uj k3 2 fun n32 =>
 (rS uj iw 5 fun J4 qC BO =>
 aa Tryz.prog 57 #[(iV n32)] uj (fun v36 GF =>
 cy (some v36) fun A38 =>
 bh GF (cl [(.pointer A38), (iV 0), (iV (-1))] 141) fun yY TR =>
 aA 132 J4 qC BO (some ⟨yY, 0, none⟩) 1 1 TR (fun v41 Qr =>
 aB (some v41) fun A43 Gq FG =>
 sT Qr iw 5 (.slice A43 Gq FG) fun FM =>
 J31 [] FM) Kp) Kp) ∧
 (aa Tryz.prog 57 #[(iV n32)] uj (fun v47 MM =>
 cy (some v47) fun Yf =>
 rS MM iw 5 fun A50 Nk sM =>
 bh MM (cl [(.pointer Yf), (iV 0), (iV (-1))] 141) fun qB Qk =>
 aA 132 A50 Nk sM (some ⟨qB, 0, none⟩) 1 1 Qk (fun XS XT =>
 aB (some XS) fun A57 Gr XU =>
 sT XT iw 5 (.slice A57 Gr XU) fun pD =>
 J31 [] pD) Kp) Kp) ∧
 True) ∧
 ∀ junk61 : Nat → Value, ∀ vj : Mem, (J31 [] vj) → ∃ PD : Nat, (PD < Am) ∧
 T5 PD [(iV (IntKind.wrap .i64 (xX + 1)))] vj)
 (rI uj k3 1 fun n64 =>
 ∃ I65 : IT, (∃ Nn, I65 Nn [(iV 0)] uj) ∧
 ∀ (xw : Nat) (_ : Nat → Value) (Yg : Int) (Iy : Mem), (I65 xw [(iV Yg)] Iy) → aO (decide (Yg < n64))
 (rS Iy iw 6 fun T6 Ye Kk =>
 bh Iy (cl [(iV (-1)), (iV (-1)), (iV 0)] 143) fun ID AQ =>
 aA 133 T6 Ye Kk (some ⟨ID, 0, none⟩) 1 1 AQ (fun Yh Kj =>
 aB (some Yh) fun A78 Qz No =>
 sT Kj iw 6 (.slice A78 Qz No) fun Yi =>
 ∃ Ki : Nat, (Ki < xw) ∧
 I65 Ki [(iV (IntKind.wrap .i64 (Yg + 1)))] Yi) Kp)
 (bh Iy Sg fun FN QA =>
 aa Tryz.prog 58 #[(.pointer (some ⟨iw, 7, none⟩)), (.slice (some ⟨FN, 0, none⟩) 1 1)] QA (fun T7 GH =>
 (T7 = (.tuple #[])) ∧
 K (.pointer (some ⟨iw, 0, none⟩)) GH) Kp))) Kp) :
 aa Tryz.prog 15 #[.agg #[.slice mL mN mO, .slice mP mQ mR, .int .i64 gR, .slice mS mT mU], .agg #[.int .i64 cU, .int .i64 cV, .int .i64 cW, .int .i64 eX], .pointer (some ⟨b2, o2, none⟩)] M K Kp := vw [(1, .bQ [0, 1, 0, 0, 15, 31, 63] (sy [3, 0] (.dD 2 (sy [1, 4, 5, 6] .done)))), (2000000, .loop [(16, .c (.int .i64))]), (4, .JL [0, 0, 2, 6, 14, 0, 32, 96, 224, 480, 1022, 2047, 4095, 8191] (sy [0, 1, 2, 3, 5, 6] (.fork 4 (sy [7, 8, 9, 10, 11, 12, 13] .done) (.fork 7 (sy [8, 4, 9, 10, 11, 12, 13] .done) .dead))) []), (2000002, .loop [(34, .c (.int .i64))])] Tryz.func15 h
theorem pS {b0 o0 : Nat} (h :
rP M b0 o0 fun A1 =>
K (.pointer A1) M) :
 aa Tryz.prog 18 #[.pointer (some ⟨b0, o0, none⟩)] M K Kp := vw [] Tryz.func18 h
theorem oK {b0 o0 : Nat} (h :
rP M b0 o0 fun A1 =>
aa Tryz.prog 28 #[(.pointer A1)] M (fun v2 M3 =>
∃ n4 n5 : Int, (v2 = (.tuple #[(iV n4), (iV n5)])) ∧
aO (n4 == 1)
 (K (iV 1) M3)
 (aO (n4 == 2)
 (K (iV 2) M3)
 (rP M3 b0 o0 fun A6 =>
 aa Tryz.prog 65 #[(.pointer A6)] M3 (fun v7 M8 =>
 de (some v7) fun t9 =>
 aO t9
 (K (iV 3) M8)
 (K (iV 0) M8)) Kp))) Kp) :
 aa Tryz.prog 22 #[.pointer (some ⟨b0, o0, none⟩)] M K Kp := vw [] Tryz.func22 h
theorem pT {b0 o0 : Nat} (h :
rI M b0 (o0 + 9) fun n1 =>
K (iV n1) M) :
 aa Tryz.prog 35 #[.pointer (some ⟨b0, o0, none⟩)] M K Kp := vw [] Tryz.func35 h
theorem rN {b0 o0 : Nat} (h :
bh M (.cells #[(.int .i64 0), (.int .i64 0), (.int .i64 0), (.slice none 0 0)] 43 (0, 0)) fun k1 M2 =>
aa Tryz.prog 22 #[(.pointer (some ⟨b0, o0, none⟩))] M2 (fun v3 M4 =>
aJ (some v3) .i64 fun n5 =>
aO (n5 != 0)
 (aK M4 ⟨k1, 0, none⟩ (.int .i64 0) fun M6 =>
 aK M6 ⟨k1, (0 + 1), none⟩ (.int .i64 0) fun M7 =>
 aK M7 ⟨k1, (0 + 2), none⟩ (.int .i64 0) fun M8 =>
 aK M8 ⟨k1, (0 + 3), none⟩ (.slice none 0 0) fun M9 =>
 aJ (Mem.ld M9 ⟨k1, 0, none⟩) .i64 fun iZ =>
 aJ (Mem.ld M9 ⟨k1, (0 + 1), none⟩) .i64 fun iI =>
 aJ (Mem.ld M9 ⟨k1, (0 + 2), none⟩) .i64 fun jK =>
 aB (Mem.ld M9 ⟨k1, (0 + 3), none⟩) fun DE jH iW =>
 K (.agg #[(.int .i64 iZ), (.int .i64 iI), (.int .i64 jK), (.slice DE jH iW)]) M9)
 (cy (Mem.ld M4 ⟨b0, (o0 + 8), none⟩) fun WU =>
 aJ (Mem.ld M4 ⟨b0, ((o0 + 1) + 1), none⟩) .i64 fun iQ =>
 aa Tryz.prog 107 #[(.pointer WU), (.int .i64 1), (.int .i64 (IntKind.wrap .i64 (iQ + 1)))] M4 (fun En jB =>
 aJ (some En) .i64 fun gd =>
 bh jB (.cells #[(.int .i64 0), (.int .i64 0), (.int .i64 0), (.slice none 0 0)] 43 (0, 0)) fun fQ dP =>
 aJ (Mem.ld dP ⟨b0, ((o0 + 1) + 1), none⟩) .i64 fun qS =>
 aO (gd == qS)
  (aa Tryz.prog 108 #[(.pointer (some ⟨b0, o0, none⟩))] dP (fun X8 Iv =>
  ∃ oU : Int, ∃ oB : Int, ∃ wU : Int, ∃ Su : Option Addr, ∃ mH : Nat, ∃ qD : Nat, (X8 = (.agg #[(.int .i64 oU), (.int .i64 oB), (.int .i64 wU), (.slice Su mH qD)])) ∧
  aK Iv ⟨fQ, 0, none⟩ (.int .i64 oU) fun sk =>
  aK sk ⟨fQ, (0 + 1), none⟩ (.int .i64 oB) fun Ao =>
  aK Ao ⟨fQ, (0 + 2), none⟩ (.int .i64 wU) fun sq =>
  aK sq ⟨fQ, (0 + 3), none⟩ (.slice Su mH qD) fun AP =>
  aJ (Mem.ld AP ⟨b0, (o0 + 9), none⟩) .i64 fun vP =>
  aK AP ⟨b0, (o0 + 9), none⟩ (.int .i64 (IntKind.wrap .i64 (vP + 1))) fun GF =>
  aJ (Mem.ld GF ⟨fQ, 0, none⟩) .i64 fun J1 =>
  aJ (Mem.ld GF ⟨fQ, (0 + 1), none⟩) .i64 fun J2 =>
  aJ (Mem.ld GF ⟨fQ, (0 + 2), none⟩) .i64 fun Nd =>
  aB (Mem.ld GF ⟨fQ, (0 + 3), none⟩) fun X9 Lw yM =>
  aK GF ⟨k1, 0, none⟩ (.int .i64 J1) fun AO =>
  aK AO ⟨k1, (0 + 1), none⟩ (.int .i64 J2) fun tM =>
  aK tM ⟨k1, (0 + 2), none⟩ (.int .i64 Nd) fun FM =>
  aK FM ⟨k1, (0 + 3), none⟩ (.slice X9 Lw yM) fun wY =>
  aJ (Mem.ld wY ⟨k1, 0, none⟩) .i64 fun Kh =>
  aJ (Mem.ld wY ⟨k1, (0 + 1), none⟩) .i64 fun T8 =>
  aJ (Mem.ld wY ⟨k1, (0 + 2), none⟩) .i64 fun Nb =>
  aB (Mem.ld wY ⟨k1, (0 + 3), none⟩) fun Qj sM qB =>
  K (.agg #[(.int .i64 Kh), (.int .i64 T8), (.int .i64 Nb), (.slice Qj sM qB)]) wY) Kp)
  (aB (Mem.ld dP ⟨b0, (o0 + 6), none⟩) fun A54 SB LA =>
  ((0 : Int) ≤ gd) ∧
  ((gd : Int) < ((SB : Nat) : Int)) ∧
  aF A54 fun Au Gr =>
  aJ (Mem.ld dP ⟨Au, (Gr + ((Int.toNat gd) * 3)), none⟩) .i64 fun tK =>
  aO (tK == (-1))
   (aa Tryz.prog 109 #[(.pointer (some ⟨b0, o0, none⟩)), (.int .i64 gd)] dP (fun v60 DF =>
   ∃ WX : Int, ∃ Gs : Int, ∃ n64 : Int, ∃ WY : Option Addr, ∃ Nn : Nat, ∃ xw : Nat, (v60 = (.agg #[(.int .i64 WX), (.int .i64 Gs), (.int .i64 n64), (.slice WY Nn xw)])) ∧
   aK DF ⟨fQ, 0, none⟩ (.int .i64 WX) fun Yd =>
   aK Yd ⟨fQ, (0 + 1), none⟩ (.int .i64 Gs) fun M69 =>
   aK M69 ⟨fQ, (0 + 2), none⟩ (.int .i64 n64) fun Iy =>
   aK Iy ⟨fQ, (0 + 3), none⟩ (.slice WY Nn xw) fun PF =>
   aJ (Mem.ld PF ⟨b0, (o0 + 9), none⟩) .i64 fun X5 =>
   aK PF ⟨b0, (o0 + 9), none⟩ (.int .i64 (IntKind.wrap .i64 (X5 + 1))) fun tN =>
   aJ (Mem.ld tN ⟨fQ, 0, none⟩) .i64 fun Nq =>
   aJ (Mem.ld tN ⟨fQ, (0 + 1), none⟩) .i64 fun CQ =>
   aJ (Mem.ld tN ⟨fQ, (0 + 2), none⟩) .i64 fun J7 =>
   aB (Mem.ld tN ⟨fQ, (0 + 3), none⟩) fun A77 TW Qz =>
   aK tN ⟨k1, 0, none⟩ (.int .i64 Nq) fun xy =>
   aK xy ⟨k1, (0 + 1), none⟩ (.int .i64 CQ) fun Yi =>
   aK Yi ⟨k1, (0 + 2), none⟩ (.int .i64 J7) fun M82 =>
   aK M82 ⟨k1, (0 + 3), none⟩ (.slice A77 TW Qz) fun Av =>
   aJ (Mem.ld Av ⟨k1, 0, none⟩) .i64 fun Iu =>
   aJ (Mem.ld Av ⟨k1, (0 + 1), none⟩) .i64 fun SC =>
   aJ (Mem.ld Av ⟨k1, (0 + 2), none⟩) .i64 fun n86 =>
   aB (Mem.ld Av ⟨k1, (0 + 3), none⟩) fun A87 LB k89 =>
   K (.agg #[(.int .i64 Iu), (.int .i64 SC), (.int .i64 n86), (.slice A87 LB k89)]) Av) Kp)
   (aB (Mem.ld dP ⟨b0, (o0 + 6), none⟩) fun WZ T9 Ua =>
   ((0 : Int) ≤ gd) ∧
   ((gd : Int) < ((T9 : Nat) : Int)) ∧
   aF WZ fun Ub TX =>
   aJ (Mem.ld dP ⟨Ub, ((TX + ((Int.toNat gd) * 3)) + 1), none⟩) .i64 fun Ka =>
   aO (Ka == (-1))
    (aa Tryz.prog 110 #[(.pointer (some ⟨b0, o0, none⟩)), (.int .i64 gd)] dP (fun v96 Qv =>
    ∃ Sr : Int, ∃ LC : Int, ∃ qQ : Int, ∃ Yj : Option Addr, ∃ Qw : Nat, ∃ mV : Nat, (v96 = (.agg #[(.int .i64 Sr), (.int .i64 LC), (.int .i64 qQ), (.slice Yj Qw mV)])) ∧
    aK Qv ⟨fQ, 0, none⟩ (.int .i64 Sr) fun Uc =>
    aK Uc ⟨fQ, (0 + 1), none⟩ (.int .i64 LC) fun Qx =>
    aK Qx ⟨fQ, (0 + 2), none⟩ (.int .i64 qQ) fun QB =>
    aK QB ⟨fQ, (0 + 3), none⟩ (.slice Yj Qw mV) fun C1 =>
    aJ (Mem.ld C1 ⟨b0, (o0 + 9), none⟩) .i64 fun C2 =>
    aK C1 ⟨b0, (o0 + 9), none⟩ (.int .i64 (IntKind.wrap .i64 (C2 + 1))) fun uk =>
    aJ (Mem.ld uk ⟨fQ, 0, none⟩) .i64 fun MS =>
    aJ (Mem.ld uk ⟨fQ, (0 + 1), none⟩) .i64 fun Ud =>
    aJ (Mem.ld uk ⟨fQ, (0 + 2), none⟩) .i64 fun yO =>
    aB (Mem.ld uk ⟨fQ, (0 + 3), none⟩) fun A113 Ue k115 =>
    aK uk ⟨k1, 0, none⟩ (.int .i64 MS) fun xB =>
    aK xB ⟨k1, (0 + 1), none⟩ (.int .i64 Ud) fun GI =>
    aK GI ⟨k1, (0 + 2), none⟩ (.int .i64 yO) fun nJ =>
    aK nJ ⟨k1, (0 + 3), none⟩ (.slice A113 Ue k115) fun C3 =>
    aJ (Mem.ld C3 ⟨k1, 0, none⟩) .i64 fun y3 =>
    aJ (Mem.ld C3 ⟨k1, (0 + 1), none⟩) .i64 fun y4 =>
    aJ (Mem.ld C3 ⟨k1, (0 + 2), none⟩) .i64 fun Nr =>
    aB (Mem.ld C3 ⟨k1, (0 + 3), none⟩) fun A123 GJ Uf =>
    K (.agg #[(.int .i64 y3), (.int .i64 y4), (.int .i64 Nr), (.slice A123 GJ Uf)]) C3) Kp)
    (aa Tryz.prog 111 #[(.pointer (some ⟨b0, o0, none⟩)), (.int .i64 gd)] dP (fun Ug QC =>
    ∃ xC : Int, ∃ Yk : Int, ∃ Yl : Int, ∃ EB : Option Addr, ∃ EC : Nat, ∃ Kl : Nat, (Ug = (.agg #[(.int .i64 xC), (.int .i64 Yk), (.int .i64 Yl), (.slice EB EC Kl)])) ∧
    aK QC ⟨fQ, 0, none⟩ (.int .i64 xC) fun Ns =>
    aK Ns ⟨fQ, (0 + 1), none⟩ (.int .i64 Yk) fun M135 =>
    aK M135 ⟨fQ, (0 + 2), none⟩ (.int .i64 Yl) fun M136 =>
    aK M136 ⟨fQ, (0 + 3), none⟩ (.slice EB EC Kl) fun Km =>
    aJ (Mem.ld Km ⟨b0, (o0 + 9), none⟩) .i64 fun n138 =>
    aK Km ⟨b0, (o0 + 9), none⟩ (.int .i64 (IntKind.wrap .i64 (n138 + 1))) fun C4 =>
    aJ (Mem.ld C4 ⟨fQ, 0, none⟩) .i64 fun n140 =>
    aJ (Mem.ld C4 ⟨fQ, (0 + 1), none⟩) .i64 fun n141 =>
    aJ (Mem.ld C4 ⟨fQ, (0 + 2), none⟩) .i64 fun Uh =>
    aB (Mem.ld C4 ⟨fQ, (0 + 3), none⟩) fun A143 k144 k145 =>
    aK C4 ⟨k1, 0, none⟩ (.int .i64 n140) fun M146 =>
    aK M146 ⟨k1, (0 + 1), none⟩ (.int .i64 n141) fun M147 =>
    aK M147 ⟨k1, (0 + 2), none⟩ (.int .i64 Uh) fun M148 =>
    aK M148 ⟨k1, (0 + 3), none⟩ (.slice A143 k144 k145) fun ED =>
    aJ (Mem.ld ED ⟨k1, 0, none⟩) .i64 fun Nt =>
    aJ (Mem.ld ED ⟨k1, (0 + 1), none⟩) .i64 fun Ui =>
    aJ (Mem.ld ED ⟨k1, (0 + 2), none⟩) .i64 fun Uj =>
    aB (Mem.ld ED ⟨k1, (0 + 3), none⟩) fun A153 Nu k155 =>
    K (.agg #[(.int .i64 Nt), (.int .i64 Ui), (.int .i64 Uj), (.slice A153 Nu k155)]) ED) Kp)))) Kp)) Kp) :
 aa Tryz.prog 54 ([.pointer (some ⟨b0, o0, none⟩)] : List Value).toArray M K Kp :=
 cu (C := Cx) good [(3, .bQ [0, 1, 3, 7, 0, 16, 48, 112, 240, 496, 1023, 2047] (.step 0 (.step 1 (.step 2 (.step 4 (.step 5 (.step 6 (.step 7 (.step 3 (.step 8 (.step 9 (.step 10 (.step 11 .done)))))))))))))] Tryz.func54 (by kernel_rfl) (by kernel_rfl) h
theorem rO {b0 o0 : Nat} (h :
bh M BI fun k1 M2 =>
rP M2 b0 o0 fun A3 =>
aa Tryz.prog 120 #[(.pointer A3)] M2 (fun v4 M5 =>
aB (some v4) fun A6 k7 k8 =>
aa Tryz.prog 58 #[(.pointer (some ⟨b0, (o0 + 7), none⟩)), (.slice A6 k7 k8)] M5 (fun v9 iU =>
(v9 = (.tuple #[])) ∧
kB iU k1 (iV 1) (iV (-1)) (iV (-1)) (.slice A6 k7 k8) fun oh =>
Mz oh k1 0 fun kZ nh iQ Kg jI lF =>
K (.agg #[(iV kZ), (iV nh), (iV iQ), (.slice Kg jI lF)]) oh) Kp) Kp) :
 aa Tryz.prog 108 #[.pointer (some ⟨b0, o0, none⟩)] M K Kp := vw [] Tryz.func108 h
theorem rQ {b0 o0 : Nat} {x1 : Int} (h :
bh M BI fun k1 M2 =>
rS M2 b0 (o0 + 5) fun A3 k4 k5 =>
∃ I6 : IT, (∃ k7, I6 k7 [(iV 0)] M2) ∧
∀ (k8 : Nat) (_ : Nat → Value) (iZ : Int) (jJ : Mem), (I6 k8 [(iV iZ)] jJ) → aO (decide (iZ < k4))
 (rS jJ b0 (o0 + 5) fun An eK jH =>
 (0 ≤ iZ) ∧
 (iZ < eK) ∧
 aF An fun iW fH =>
 rI jJ iW ((fH + ((Int.toNat iZ) * 3)) + 2) fun iQ =>
 aO (iQ == (-1))
 (rS jJ b0 (o0 + 5) fun Kg jI lF =>
 rS jJ b0 (o0 + 6) fun CT iw jm =>
 (0 ≤ iZ) ∧
 (iZ < jI) ∧
 aF Kg fun vg qP =>
 sT jJ vg ((qP + ((Int.toNat iZ) * 3)) + 2) (iV x1) fun xY =>
 ((0 : Int) ≤ x1) ∧
 ((x1 : Int) < iw) ∧
 aF CT fun Am oC =>
 sT xY Am (oC + ((Int.toNat x1) * 3)) (iV iZ) fun oS =>
 kB oS k1 (iV 2) (iV x1) (iV (-1)) (.slice none 0 0) fun Ao =>
 Mz Ao k1 0 fun Ke DH vP Qt iR yY =>
 K (.agg #[(iV Ke), (iV DH), (iV vP), (.slice Qt iR yY)]) Ao)
 (∃ FH : Nat, (FH < k8) ∧
 I6 FH [(iV (IntKind.wrap .i64 (iZ + 1)))] jJ))
 (sT jJ k1 0 (iV 3) fun Ap =>
 sT Ap k1 1 (iV x1) fun Qr =>
 sT Qr k1 2 (iV (-1)) fun tL =>
 sT tL k1 3 (.slice none 0 0) fun AO =>
 Mz AO k1 0 fun Aq DI xq Np GB MP =>
 K (.agg #[(iV Aq), (iV DI), (iV xq), (.slice Np GB MP)]) AO)) :
 aa Tryz.prog 109 #[.pointer (some ⟨b0, o0, none⟩), .int .i64 x1] M K Kp := vw [(2000000, .loop [(11, .c (.int .i64))]), (5, .bQ [0, 1, 3, 7, 0, 0, 32, 96, 224, 0, 0, 0, 1535, 5631, 13823, 32767, 65535, 131071] (sy [0, 1, 2, 4, 5, 6, 7, 9, 10, 11, 3, 8, 12, 13, 14, 15, 16, 17] .done))] Tryz.func109 h
theorem rR {b0 o0 : Nat} {x1 : Int} (h :
bh M (.cells #[(.int .i64 0), (.int .i64 0), (.int .i64 0), (.slice none 0 0)] 43 (0, 0)) fun k1 M2 =>
aB (Mem.ld M2 ⟨b0, (o0 + 5), none⟩) fun A3 k4 k5 =>
aB (Mem.ld M2 ⟨b0, (o0 + 6), none⟩) fun A6 k7 k8 =>
((0 : Int) ≤ x1) ∧
((x1 : Int) < ((k7 : Nat) : Int)) ∧
aF A6 fun k9 gh =>
aJ (Mem.ld M2 ⟨k9, (gh + ((Int.toNat x1) * 3)), none⟩) .i64 fun iI =>
((0 : Int) ≤ iI) ∧
((iI : Int) < ((k4 : Nat) : Int)) ∧
aF A3 fun gY eK =>
aB (Mem.ld M2 ⟨b0, (o0 + 6), none⟩) fun oT iW fH =>
((0 : Int) ≤ x1) ∧
((x1 : Int) < ((iW : Nat) : Int)) ∧
aF oT fun fx fI =>
aJ (Mem.ld M2 ⟨fx, ((fI + ((Int.toNat x1) * 3)) + 2), none⟩) .i64 fun yQ =>
aO (decide ((yQ : Int) > 0))
 (cy (Mem.ld M2 ⟨gY, (eK + ((Int.toNat iI) * 3)), none⟩) fun Qs =>
 aa Tryz.prog 148 #[(.pointer Qs)] M2 (fun Yb dP =>
 aJ (some Yb) .i64 fun qS =>
 ∃ J24 : List Value → Mem → Prop, (aO (qS != (-1))
  (cy (Mem.ld dP ⟨gY, (eK + ((Int.toNat iI) * 3)), none⟩) fun XR =>
   aB (Mem.ld dP ⟨b0, (o0 + 6), none⟩) fun T4 Am oC =>
   aa Tryz.prog 149 #[(.pointer XR)] dP (fun v29 uj =>
   ∃ si : Int, ∃ t32 : Bool, (v29 = (.tuple #[(.int .i64 si), (.bool t32)])) ∧
   ((Mem.ld uj ⟨b0, (o0 + 6), none⟩) = (some (.slice T4 Am oC))) ∧
   ((0 : Int) ≤ x1) ∧
   ((x1 : Int) < ((Am : Nat) : Int)) ∧
   aF T4 fun so qC =>
   aK uj ⟨so, ((qC + ((Int.toNat x1) * 3)) + 1), none⟩ (.int .i64 si) fun AP =>
   ((Mem.ld AP ⟨b0, (o0 + 6), none⟩) = (some (.slice T4 Am oC))) ∧
   aB (Mem.ld AP ⟨b0, (o0 + 6), none⟩) fun Sz jS iR =>
   ((0 : Int) ≤ x1) ∧
   ((x1 : Int) < ((jS : Nat) : Int)) ∧
   aF Sz fun yY FH =>
   aJ (Mem.ld AP ⟨yY, ((FH + ((Int.toNat x1) * 3)) + 1), none⟩) .i64 fun n41 =>
   aK AP ⟨k1, 0, none⟩ (.int .i64 4) fun Qr =>
   aK Qr ⟨k1, (0 + 1), none⟩ (.int .i64 x1) fun tL =>
   aK tL ⟨k1, (0 + 2), none⟩ (.int .i64 n41) fun AO =>
   aK AO ⟨k1, (0 + 3), none⟩ (.slice none 0 0) fun tM =>
   aJ (Mem.ld tM ⟨k1, 0, none⟩) .i64 fun DI =>
   aJ (Mem.ld tM ⟨k1, (0 + 1), none⟩) .i64 fun xq =>
   aJ (Mem.ld tM ⟨k1, (0 + 2), none⟩) .i64 fun Kh =>
   aB (Mem.ld tM ⟨k1, (0 + 3), none⟩) fun Yf MP Nk =>
   K (.agg #[(.int .i64 DI), (.int .i64 xq), (.int .i64 Kh), (.slice Yf MP Nk)]) tM) Kp)
  (J24 [] dP)) ∧
 ∀ junk52 : Nat → Value, ∀ GD : Mem, (J24 [] GD) → aa Tryz.prog 150 #[(.pointer (some ⟨b0, o0, none⟩)), (.pointer (some ⟨gY, (eK + ((Int.toNat iI) * 3)), none⟩))] GD (fun Nv vT =>
 ∃ Nw : Int, ∃ t57 : Bool, (Nv = (.tuple #[(.int .i64 Nw), (.bool t57)])) ∧
 aO (!t57)
  (aJ (Mem.ld vT ⟨b0, (o0 + 1), none⟩) .i64 fun CP =>
  ∃ Uk : List Value → Mem → Prop, (aO (decide ((CP : Int) > 1))
   (cy (Mem.ld vT ⟨b0, (o0 + 8), none⟩) fun A60 =>
    aJ (Mem.ld vT ⟨b0, (o0 + 1), none⟩) .i64 fun J6 =>
    aa Tryz.prog 107 #[(.pointer A60), (.int .i64 2), (.int .i64 J6)] vT (fun Qq Al =>
    aJ (some Qq) .i64 fun n64 =>
    cy (Mem.ld Al ⟨gY, (eK + ((Int.toNat iI) * 3)), none⟩) fun WY =>
    aB (Mem.ld Al ⟨b0, (o0 + 5), none⟩) fun Nx xw xD =>
    ((0 : Int) ≤ n64) ∧
    ((n64 : Int) < ((xw : Nat) : Int)) ∧
    aF Nx fun Ym IC =>
    cy (Mem.ld Al ⟨Ym, (IC + ((Int.toNat n64) * 3)), none⟩) fun T6 =>
    aa Tryz.prog 151 #[(.pointer WY), (.pointer T6)] Al (fun v72 tN =>
    ∃ Nq : Int, ∃ t75 : Bool, (v72 = (.tuple #[(.int .i64 Nq), (.bool t75)])) ∧
    Uk [(.int .i64 5), (.int .i64 Nq), (.bool t75)] tN) Kp) Kp)
   (Uk [(.int .i64 4), (.int .i64 Nw), (.bool t57)] vT)) ∧
  ∀ Ul : Nat → Value, ∀ CR : Int, ∀ C5 : Int, ∀ t79 : Bool, ∀ xy : Mem, (Uk [(.int .i64 CR), (.int .i64 C5), (.bool t79)] xy) → aO (!t79)
   (aB (Mem.ld xy ⟨b0, (o0 + 6), none⟩) fun Qu Ki FN =>
   aK xy ⟨gY, ((eK + ((Int.toNat iI) * 3)) + 2), none⟩ (.int .i64 (-1)) fun QA =>
   ((0 : Int) ≤ x1) ∧
   ((x1 : Int) < ((Ki : Nat) : Int)) ∧
   aF Qu fun LD Ny =>
   aK QA ⟨LD, (Ny + ((Int.toNat x1) * 3)), none⟩ (.int .i64 (-1)) fun IE =>
   aK IE ⟨LD, ((Ny + ((Int.toNat x1) * 3)) + 1), none⟩ (.int .i64 (-1)) fun Yn =>
   aK Yn ⟨LD, ((Ny + ((Int.toNat x1) * 3)) + 2), none⟩ (.int .i64 0) fun Ez =>
   aK Ez ⟨k1, 0, none⟩ (.int .i64 6) fun Yo =>
   aK Yo ⟨k1, (0 + 1), none⟩ (.int .i64 x1) fun lj =>
   aK lj ⟨k1, (0 + 2), none⟩ (.int .i64 (-1)) fun Yp =>
   aK Yp ⟨k1, (0 + 3), none⟩ (.slice none 0 0) fun EE =>
   aJ (Mem.ld EE ⟨k1, 0, none⟩) .i64 fun Qm =>
   aJ (Mem.ld EE ⟨k1, (0 + 1), none⟩) .i64 fun Ka =>
   aJ (Mem.ld EE ⟨k1, (0 + 2), none⟩) .i64 fun Kb =>
   aB (Mem.ld EE ⟨k1, (0 + 3), none⟩) fun Yq Yr W0 =>
   K (.agg #[(.int .i64 Qm), (.int .i64 Ka), (.int .i64 Kb), (.slice Yq Yr W0)]) EE)
   (aJ (Mem.ld xy ⟨gY, ((eK + ((Int.toNat iI) * 3)) + 1), none⟩) .i64 fun qQ =>
   aK xy ⟨gY, ((eK + ((Int.toNat iI) * 3)) + 1), none⟩ (.int .i64 (IntKind.wrap .i64 (qQ + 1))) fun jf =>
   aB (Mem.ld jf ⟨b0, (o0 + 6), none⟩) fun y5 mV EF =>
   aB (Mem.ld jf ⟨b0, (o0 + 6), none⟩) fun C6 xz Kn =>
   aJ (Mem.ld jf ⟨b0, ((o0 + 1) + 3), none⟩) .i64 fun C2 =>
   ((0 : Int) ≤ x1) ∧
   ((x1 : Int) < ((mV : Nat) : Int)) ∧
   aF y5 fun GK Ko =>
   aK jf ⟨GK, ((Ko + ((Int.toNat x1) * 3)) + 1), none⟩ (.int .i64 C5) fun nK =>
   ((0 : Int) ≤ x1) ∧
   ((x1 : Int) < ((xz : Nat) : Int)) ∧
   aF C6 fun Nz GL =>
   aK nK ⟨Nz, ((GL + ((Int.toNat x1) * 3)) + 2), none⟩ (.int .i64 C2) fun AR =>
   aK AR ⟨k1, 0, none⟩ (.int .i64 CR) fun GM =>
   aK GM ⟨k1, (0 + 1), none⟩ (.int .i64 x1) fun xB =>
   aK xB ⟨k1, (0 + 2), none⟩ (.int .i64 C5) fun GI =>
   aK GI ⟨k1, (0 + 3), none⟩ (.slice none 0 0) fun nJ =>
   aJ (Mem.ld nJ ⟨k1, 0, none⟩) .i64 fun NA =>
   aJ (Mem.ld nJ ⟨k1, (0 + 1), none⟩) .i64 fun y3 =>
   aJ (Mem.ld nJ ⟨k1, (0 + 2), none⟩) .i64 fun y4 =>
   aB (Mem.ld nJ ⟨k1, (0 + 3), none⟩) fun NB GN GJ =>
   K (.agg #[(.int .i64 NA), (.int .i64 y3), (.int .i64 y4), (.slice NB GN GJ)]) nJ))
  (∃ NC : List Value → Mem → Prop, (NC [(.int .i64 4), (.int .i64 Nw), (.bool t57)] vT) ∧
  ∀ QD : Nat → Value, ∀ C7 : Int, ∀ xC : Int, ∀ t129 : Bool, ∀ rT : Mem, (NC [(.int .i64 C7), (.int .i64 xC), (.bool t129)] rT) → aO (!t129)
   (aB (Mem.ld rT ⟨b0, (o0 + 6), none⟩) fun EB EC Kl =>
   aK rT ⟨gY, ((eK + ((Int.toNat iI) * 3)) + 2), none⟩ (.int .i64 (-1)) fun Ns =>
   ((0 : Int) ≤ x1) ∧
   ((x1 : Int) < ((EC : Nat) : Int)) ∧
   aF EB fun AS rV =>
   aK Ns ⟨AS, (rV + ((Int.toNat x1) * 3)), none⟩ (.int .i64 (-1)) fun Km =>
   aK Km ⟨AS, ((rV + ((Int.toNat x1) * 3)) + 1), none⟩ (.int .i64 (-1)) fun Um =>
   aK Um ⟨AS, ((rV + ((Int.toNat x1) * 3)) + 2), none⟩ (.int .i64 0) fun C4 =>
   aK C4 ⟨k1, 0, none⟩ (.int .i64 6) fun Un =>
   aK Un ⟨k1, (0 + 1), none⟩ (.int .i64 x1) fun Kr =>
   aK Kr ⟨k1, (0 + 2), none⟩ (.int .i64 (-1)) fun ND =>
   aK ND ⟨k1, (0 + 3), none⟩ (.slice none 0 0) fun y6 =>
   aJ (Mem.ld y6 ⟨k1, 0, none⟩) .i64 fun NF =>
   aJ (Mem.ld y6 ⟨k1, (0 + 1), none⟩) .i64 fun NG =>
   aJ (Mem.ld y6 ⟨k1, (0 + 2), none⟩) .i64 fun NH =>
   aB (Mem.ld y6 ⟨k1, (0 + 3), none⟩) fun Uo NI Up =>
   K (.agg #[(.int .i64 NF), (.int .i64 NG), (.int .i64 NH), (.slice Uo NI Up)]) y6)
   (aJ (Mem.ld rT ⟨gY, ((eK + ((Int.toNat iI) * 3)) + 1), none⟩) .i64 fun Nt =>
   aK rT ⟨gY, ((eK + ((Int.toNat iI) * 3)) + 1), none⟩ (.int .i64 (IntKind.wrap .i64 (Nt + 1))) fun y7 =>
   aB (Mem.ld y7 ⟨b0, (o0 + 6), none⟩) fun NJ NK Nu =>
   aB (Mem.ld y7 ⟨b0, (o0 + 6), none⟩) fun Uq Ur Us =>
   aJ (Mem.ld y7 ⟨b0, ((o0 + 1) + 3), none⟩) .i64 fun Ut =>
   ((0 : Int) ≤ x1) ∧
   ((x1 : Int) < ((NK : Nat) : Int)) ∧
   aF NJ fun Uu Uv =>
   aK y7 ⟨Uu, ((Uv + ((Int.toNat x1) * 3)) + 1), none⟩ (.int .i64 xC) fun vU =>
   ((0 : Int) ≤ x1) ∧
   ((x1 : Int) < ((Ur : Nat) : Int)) ∧
   aF Uq fun NL NM =>
   aK vU ⟨NL, ((NM + ((Int.toNat x1) * 3)) + 2), none⟩ (.int .i64 Ut) fun NN =>
   aK NN ⟨k1, 0, none⟩ (.int .i64 C7) fun NO =>
   aK NO ⟨k1, (0 + 1), none⟩ (.int .i64 x1) fun NP =>
   aK NP ⟨k1, (0 + 2), none⟩ (.int .i64 xC) fun Ks =>
   aK Ks ⟨k1, (0 + 3), none⟩ (.slice none 0 0) fun y8 =>
   aJ (Mem.ld y8 ⟨k1, 0, none⟩) .i64 fun NQ =>
   aJ (Mem.ld y8 ⟨k1, (0 + 1), none⟩) .i64 fun NR =>
   aJ (Mem.ld y8 ⟨k1, (0 + 2), none⟩) .i64 fun NS =>
   aB (Mem.ld y8 ⟨k1, (0 + 3), none⟩) fun Uw Kt Ux =>
   K (.agg #[(.int .i64 NQ), (.int .i64 NR), (.int .i64 NS), (.slice Uw Kt Ux)]) y8))) Kp) Kp)
 (∃ Ys : List Value → Mem → Prop, (Ys [] M2) ∧
 ∀ junk176 : Nat → Value, ∀ Yt : Mem, (Ys [] Yt) → aa Tryz.prog 150 #[(.pointer (some ⟨b0, o0, none⟩)), (.pointer (some ⟨gY, (eK + ((Int.toNat iI) * 3)), none⟩))] Yt (fun v178 Ku =>
 ∃ Uy : Int, ∃ t181 : Bool, (v178 = (.tuple #[(.int .i64 Uy), (.bool t181)])) ∧
 aO (!t181)
  (aJ (Mem.ld Ku ⟨b0, (o0 + 1), none⟩) .i64 fun n182 =>
  ∃ Uz : List Value → Mem → Prop, (aO (decide ((n182 : Int) > 1))
   (cy (Mem.ld Ku ⟨b0, (o0 + 8), none⟩) fun A184 =>
    aJ (Mem.ld Ku ⟨b0, (o0 + 1), none⟩) .i64 fun UA =>
    aa Tryz.prog 107 #[(.pointer A184), (.int .i64 2), (.int .i64 UA)] Ku (fun v186 QE =>
    aJ (some v186) .i64 fun GO =>
    cy (Mem.ld QE ⟨gY, (eK + ((Int.toNat iI) * 3)), none⟩) fun A189 =>
    aB (Mem.ld QE ⟨b0, (o0 + 5), none⟩) fun A190 k191 UB =>
    ((0 : Int) ≤ GO) ∧
    ((GO : Int) < ((k191 : Nat) : Int)) ∧
    aF A190 fun k193 k194 =>
    cy (Mem.ld QE ⟨k193, (k194 + ((Int.toNat GO) * 3)), none⟩) fun A195 =>
    aa Tryz.prog 151 #[(.pointer A189), (.pointer A195)] QE (fun v196 NT =>
    ∃ QF : Int, ∃ t199 : Bool, (v196 = (.tuple #[(.int .i64 QF), (.bool t199)])) ∧
    Uz [(.int .i64 5), (.int .i64 QF), (.bool t199)] NT) Kp) Kp)
   (Uz [(.int .i64 4), (.int .i64 Uy), (.bool t181)] Ku)) ∧
  ∀ junk200 : Nat → Value, ∀ QG : Int, ∀ NU : Int, ∀ t203 : Bool, ∀ NV : Mem, (Uz [(.int .i64 QG), (.int .i64 NU), (.bool t203)] NV) → aO (!t203)
   (aB (Mem.ld NV ⟨b0, (o0 + 6), none⟩) fun UC UD Yu =>
   aK NV ⟨gY, ((eK + ((Int.toNat iI) * 3)) + 2), none⟩ (.int .i64 (-1)) fun M208 =>
   ((0 : Int) ≤ x1) ∧
   ((x1 : Int) < ((UD : Nat) : Int)) ∧
   aF UC fun UE UF =>
   aK M208 ⟨UE, (UF + ((Int.toNat x1) * 3)), none⟩ (.int .i64 (-1)) fun M211 =>
   aK M211 ⟨UE, ((UF + ((Int.toNat x1) * 3)) + 1), none⟩ (.int .i64 (-1)) fun QH =>
   aK QH ⟨UE, ((UF + ((Int.toNat x1) * 3)) + 2), none⟩ (.int .i64 0) fun UG =>
   aK UG ⟨k1, 0, none⟩ (.int .i64 6) fun M214 =>
   aK M214 ⟨k1, (0 + 1), none⟩ (.int .i64 x1) fun M215 =>
   aK M215 ⟨k1, (0 + 2), none⟩ (.int .i64 (-1)) fun M216 =>
   aK M216 ⟨k1, (0 + 3), none⟩ (.slice none 0 0) fun NW =>
   aJ (Mem.ld NW ⟨k1, 0, none⟩) .i64 fun n218 =>
   aJ (Mem.ld NW ⟨k1, (0 + 1), none⟩) .i64 fun n219 =>
   aJ (Mem.ld NW ⟨k1, (0 + 2), none⟩) .i64 fun n220 =>
   aB (Mem.ld NW ⟨k1, (0 + 3), none⟩) fun A221 k222 UH =>
   K (.agg #[(.int .i64 n218), (.int .i64 n219), (.int .i64 n220), (.slice A221 k222 UH)]) NW)
   (aJ (Mem.ld NV ⟨gY, ((eK + ((Int.toNat iI) * 3)) + 1), none⟩) .i64 fun UI =>
   aK NV ⟨gY, ((eK + ((Int.toNat iI) * 3)) + 1), none⟩ (.int .i64 (IntKind.wrap .i64 (UI + 1))) fun QI =>
   aB (Mem.ld QI ⟨b0, (o0 + 6), none⟩) fun UJ UK k228 =>
   aB (Mem.ld QI ⟨b0, (o0 + 6), none⟩) fun A229 UL k231 =>
   aJ (Mem.ld QI ⟨b0, ((o0 + 1) + 3), none⟩) .i64 fun n232 =>
   ((0 : Int) ≤ x1) ∧
   ((x1 : Int) < ((UK : Nat) : Int)) ∧
   aF UJ fun k233 UM =>
   aK QI ⟨k233, ((UM + ((Int.toNat x1) * 3)) + 1), none⟩ (.int .i64 NU) fun M235 =>
   ((0 : Int) ≤ x1) ∧
   ((x1 : Int) < ((UL : Nat) : Int)) ∧
   aF A229 fun k236 UN =>
   aK M235 ⟨k236, ((UN + ((Int.toNat x1) * 3)) + 2), none⟩ (.int .i64 n232) fun UO =>
   aK UO ⟨k1, 0, none⟩ (.int .i64 QG) fun UP =>
   aK UP ⟨k1, (0 + 1), none⟩ (.int .i64 x1) fun QJ =>
   aK QJ ⟨k1, (0 + 2), none⟩ (.int .i64 NU) fun M241 =>
   aK M241 ⟨k1, (0 + 3), none⟩ (.slice none 0 0) fun NX =>
   aJ (Mem.ld NX ⟨k1, 0, none⟩) .i64 fun UQ =>
   aJ (Mem.ld NX ⟨k1, (0 + 1), none⟩) .i64 fun UR =>
   aJ (Mem.ld NX ⟨k1, (0 + 2), none⟩) .i64 fun US =>
   aB (Mem.ld NX ⟨k1, (0 + 3), none⟩) fun A246 k247 UT =>
   K (.agg #[(.int .i64 UQ), (.int .i64 UR), (.int .i64 US), (.slice A246 k247 UT)]) NX))
  (∃ Yv : List Value → Mem → Prop, (Yv [(.int .i64 4), (.int .i64 Uy), (.bool t181)] Ku) ∧
  ∀ junk250 : Nat → Value, ∀ Yw : Int, ∀ UU : Int, ∀ t253 : Bool, ∀ NY : Mem, (Yv [(.int .i64 Yw), (.int .i64 UU), (.bool t253)] NY) → aO (!t253)
   (aB (Mem.ld NY ⟨b0, (o0 + 6), none⟩) fun A255 UW k257 =>
   aK NY ⟨gY, ((eK + ((Int.toNat iI) * 3)) + 2), none⟩ (.int .i64 (-1)) fun M258 =>
   ((0 : Int) ≤ x1) ∧
   ((x1 : Int) < ((UW : Nat) : Int)) ∧
   aF A255 fun UX UY =>
   aK M258 ⟨UX, (UY + ((Int.toNat x1) * 3)), none⟩ (.int .i64 (-1)) fun M261 =>
   aK M261 ⟨UX, ((UY + ((Int.toNat x1) * 3)) + 1), none⟩ (.int .i64 (-1)) fun M262 =>
   aK M262 ⟨UX, ((UY + ((Int.toNat x1) * 3)) + 2), none⟩ (.int .i64 0) fun M263 =>
   aK M263 ⟨k1, 0, none⟩ (.int .i64 6) fun M264 =>
   aK M264 ⟨k1, (0 + 1), none⟩ (.int .i64 x1) fun M265 =>
   aK M265 ⟨k1, (0 + 2), none⟩ (.int .i64 (-1)) fun M266 =>
   aK M266 ⟨k1, (0 + 3), none⟩ (.slice none 0 0) fun EG =>
   aJ (Mem.ld EG ⟨k1, 0, none⟩) .i64 fun UZ =>
   aJ (Mem.ld EG ⟨k1, (0 + 1), none⟩) .i64 fun U0 =>
   aJ (Mem.ld EG ⟨k1, (0 + 2), none⟩) .i64 fun U1 =>
   aB (Mem.ld EG ⟨k1, (0 + 3), none⟩) fun A271 k272 k273 =>
   K (.agg #[(.int .i64 UZ), (.int .i64 U0), (.int .i64 U1), (.slice A271 k272 k273)]) EG)
   (aJ (Mem.ld NY ⟨gY, ((eK + ((Int.toNat iI) * 3)) + 1), none⟩) .i64 fun U2 =>
   aK NY ⟨gY, ((eK + ((Int.toNat iI) * 3)) + 1), none⟩ (.int .i64 (IntKind.wrap .i64 (U2 + 1))) fun QK =>
   aB (Mem.ld QK ⟨b0, (o0 + 6), none⟩) fun A276 k277 k278 =>
   aB (Mem.ld QK ⟨b0, (o0 + 6), none⟩) fun A279 k280 k281 =>
   aJ (Mem.ld QK ⟨b0, ((o0 + 1) + 3), none⟩) .i64 fun U3 =>
   ((0 : Int) ≤ x1) ∧
   ((x1 : Int) < ((k277 : Nat) : Int)) ∧
   aF A276 fun k283 k284 =>
   aK QK ⟨k283, ((k284 + ((Int.toNat x1) * 3)) + 1), none⟩ (.int .i64 UU) fun QL =>
   ((0 : Int) ≤ x1) ∧
   ((x1 : Int) < ((k280 : Nat) : Int)) ∧
   aF A279 fun k286 k287 =>
   aK QL ⟨k286, ((k287 + ((Int.toNat x1) * 3)) + 2), none⟩ (.int .i64 U3) fun M288 =>
   aK M288 ⟨k1, 0, none⟩ (.int .i64 Yw) fun M289 =>
   aK M289 ⟨k1, (0 + 1), none⟩ (.int .i64 x1) fun M290 =>
   aK M290 ⟨k1, (0 + 2), none⟩ (.int .i64 UU) fun M291 =>
   aK M291 ⟨k1, (0 + 3), none⟩ (.slice none 0 0) fun NZ =>
   aJ (Mem.ld NZ ⟨k1, 0, none⟩) .i64 fun n293 =>
   aJ (Mem.ld NZ ⟨k1, (0 + 1), none⟩) .i64 fun U4 =>
   aJ (Mem.ld NZ ⟨k1, (0 + 2), none⟩) .i64 fun U5 =>
   aB (Mem.ld NZ ⟨k1, (0 + 3), none⟩) fun A296 k297 k298 =>
   K (.agg #[(.int .i64 n293), (.int .i64 U4), (.int .i64 U5), (.slice A296 k297 k298)]) NZ))) Kp)) :
 aa Tryz.prog 110 ([.pointer (some ⟨b0, o0, none⟩), .int .i64 x1] : List Value).toArray M K Kp :=
 cu (C := Cx) good [(1, .bQ [0, 1, 3, 7, 0, 16, 48, 112, 0, 496, 1008, 2032, 4095, 8191] (.step 0 (.step 1 (.step 2 (.step 4 (.step 5 (.step 6 (.step 8 (.step 3 (.step 7 (.step 9 (.step 10 (.step 11 (.step 12 (.step 13 .done))))))))))))))), (3000039, .cut []), (3, .bQ [0, 1, 3, 7, 0, 0, 32, 96, 224, 480, 992, 2016, 2016, 4095, 12287, 28671] (.step 0 (.step 1 (.step 2 (.step 4 (.step 5 (.step 6 (.step 7 (.step 8 (.dD 3 (.step 9 (.step 10 (.step 11 (.step 12 (.step 13 (.step 14 (.step 15 .done))))))))))))))))), (3000080, .cut [(6, .c (.int .i64)), (7, .c (.int .i64)), (8, .c .bool)]), (8, .bQ [0, 1, 3, 7, 0, 16, 48, 112, 240, 511, 1023] (.step 0 (.step 1 (.step 2 (.step 4 (.step 5 (.step 6 (.step 7 (.step 3 (.step 8 (.step 9 (.step 10 .done)))))))))))), (10, .bQ [0, 1, 3, 7, 0, 16, 48, 112, 0, 496, 1008, 2032, 4095, 8191, 16383, 16383, 32767, 131071] (.step 0 (.step 1 (.step 2 (.step 4 (.step 5 (.step 6 (.step 8 (.step 3 (.step 7 (.step 9 (.step 10 (.step 11 (.step 12 (.step 13 (.step 14 (.step 15 (.step 16 (.step 17 .done))))))))))))))))))), (15, .bQ [0, 1, 3, 7, 0, 0, 32, 96, 224, 0, 0, 0, 2048, 6144, 14336, 30720, 65023, 130559, 261631, 524287, 1048575, 2097151] (.step 0 (.step 1 (.step 2 (.step 4 (.step 5 (.step 6 (.step 7 (.step 9 (.step 10 (.step 11 (.step 12 (.step 13 (.step 14 (.step 3 (.step 8 (.step 15 (.step 16 (.step 17 (.step 18 (.step 19 (.step 20 (.step 21 .done)))))))))))))))))))))))] Tryz.func110 (by kernel_rfl) (by kernel_rfl) h
theorem th {b0 o0 : Nat} {x1 : Int} (h :
bh M (.cells #[(.int .i64 0), (.int .i64 0), (.int .i64 0), (.slice none 0 0)] 43 (0, 0)) fun k1 M2 =>
aB (Mem.ld M2 ⟨b0, (o0 + 6), none⟩) fun A3 k4 k5 =>
((0 : Int) ≤ x1) ∧
((x1 : Int) < ((k4 : Nat) : Int)) ∧
aF A3 fun k6 k7 =>
aJ (Mem.ld M2 ⟨k6, ((k7 + ((Int.toNat x1) * 3)) + 1), none⟩) .i64 fun n8 =>
cy (Mem.ld M2 ⟨b0, o0, none⟩) fun A9 =>
cy (Mem.ld M2 ⟨b0, (o0 + 8), none⟩) fun FF =>
(True) ∧
aa Tryz.prog 121 #[(.pointer A9), (.int .i64 n8), (.func (.func 107) #[(.pointer FF)] #[])] M2 (fun v11 sg =>
∃ t13 : Bool, ∃ oT : Option Addr, ∃ iW : Nat, ∃ fH : Nat, (v11 = (.agg #[(.bool t13), (.slice oT iW fH)])) ∧
bh sg (.cells #[(.bool false), (.slice none 0 0)] 250 (0, 0)) fun fx um =>
aK um ⟨fx, 0, none⟩ (.bool t13) fun jB =>
aK jB ⟨fx, (0 + 1), none⟩ (.slice oT iW fH) fun vL =>
aB (Mem.ld vL ⟨fx, (0 + 1), none⟩) fun CT iw jm =>
∃ U6 : Nat → List Value → Mem → Prop, (∃ qP : Nat, U6 qP [(.int .i64 0)] vL) ∧
∀ sj : Nat, ∀ U7 : Nat → Value, ∀ wU : Int, ∀ oS : Mem, (U6 sj [(.int .i64 wU)] oS) → aO (decide ((wU : Int) < ((iw : Nat) : Int)))
 (((0 : Int) ≤ wU) ∧
 ((wU : Int) < ((iw : Nat) : Int)) ∧
 aF CT fun mH qD =>
 aJ (Mem.ld oS ⟨mH, (qD + (Int.toNat wU)), none⟩) .i64 fun n32 =>
 aB (Mem.ld oS ⟨b0, (o0 + 5), none⟩) fun J4 qC BO =>
 aJ (Mem.ld oS ⟨k6, (k7 + ((Int.toNat x1) * 3)), none⟩) .i64 fun vP =>
 ((0 : Int) ≤ vP) ∧
 ((vP : Int) < ((qC : Nat) : Int)) ∧
 aF J4 fun jS iR =>
 cy (Mem.ld oS ⟨jS, (iR + ((Int.toNat vP) * 3)), none⟩) fun A39 =>
 aa Tryz.prog 152 #[(.pointer A39), (.int .i64 n32), (.pointer (some ⟨b0, (o0 + 7), none⟩))] oS (fun Kf Ap =>
 aJ (some Kf) .i64 fun FL =>
 ∃ yM : Nat, (yM < sj) ∧
 U6 yM [(.int .i64 (IntKind.wrap .i64 (wU + 1)))] Ap) Kp)
 (aJ (Mem.ld oS ⟨k6, ((k7 + ((Int.toNat x1) * 3)) + 2), none⟩) .i64 fun CX =>
 aK oS ⟨k6, ((k7 + ((Int.toNat x1) * 3)) + 2), none⟩ (.int .i64 (IntKind.wrap .i64 (CX - 1))) fun tM =>
 de (Mem.ld tM ⟨fx, 0, none⟩) fun t46 =>
 aO (!t46)
  (aK tM ⟨k6, ((k7 + ((Int.toNat x1) * 3)) + 1), none⟩ (.int .i64 (-1)) fun wY =>
  cy (Mem.ld wY ⟨b0, o0, none⟩) fun Np =>
  aa Tryz.prog 119 #[(.pointer Np), (.int .i64 n8)] wY (fun J3 xS =>
  aJ (some J3) .i64 fun GC =>
  aO (GC == 1)
   (bh xS (.cells #[(.int .i64 n8)] 3 (0, 0)) fun sM GD =>
   aa Tryz.prog 58 #[(.pointer (some ⟨b0, (o0 + 7), none⟩)), (.slice (some ⟨sM, 0, none⟩) 1 1)] GD (fun Nv vT =>
   (Nv = (.tuple #[])) ∧
   aB (Mem.ld vT ⟨fx, (0 + 1), none⟩) fun QM Au Gr =>
   aK vT ⟨k1, 0, none⟩ (.int .i64 7) fun Aw =>
   aK Aw ⟨k1, (0 + 1), none⟩ (.int .i64 x1) fun pD =>
   aK pD ⟨k1, (0 + 2), none⟩ (.int .i64 n8) fun DF =>
   aK DF ⟨k1, (0 + 3), none⟩ (.slice QM Au Gr) fun vj =>
   aJ (Mem.ld vj ⟨k1, 0, none⟩) .i64 fun Gs =>
   aJ (Mem.ld vj ⟨k1, (0 + 1), none⟩) .i64 fun n64 =>
   aJ (Mem.ld vj ⟨k1, (0 + 2), none⟩) .i64 fun xT =>
   aB (Mem.ld vj ⟨k1, (0 + 3), none⟩) fun Nx xw xD =>
   K (.agg #[(.int .i64 Gs), (.int .i64 n64), (.int .i64 xT), (.slice Nx xw xD)]) vj) Kp)
   (aB (Mem.ld xS ⟨fx, (0 + 1), none⟩) fun U8 IC PE =>
   aK xS ⟨k1, 0, none⟩ (.int .i64 7) fun Sp =>
   aK Sp ⟨k1, (0 + 1), none⟩ (.int .i64 x1) fun tN =>
   aK tN ⟨k1, (0 + 2), none⟩ (.int .i64 n8) fun Ew =>
   aK Ew ⟨k1, (0 + 3), none⟩ (.slice U8 IC PE) fun AQ =>
   aJ (Mem.ld AQ ⟨k1, 0, none⟩) .i64 fun J7 =>
   aJ (Mem.ld AQ ⟨k1, (0 + 1), none⟩) .i64 fun CR =>
   aJ (Mem.ld AQ ⟨k1, (0 + 2), none⟩) .i64 fun C5 =>
   aB (Mem.ld AQ ⟨k1, (0 + 3), none⟩) fun TZ No T0 =>
   K (.agg #[(.int .i64 J7), (.int .i64 CR), (.int .i64 C5), (.slice TZ No T0)]) AQ)) Kp)
  (aJ (Mem.ld tM ⟨k6, ((k7 + ((Int.toNat x1) * 3)) + 2), none⟩) .i64 fun Lx =>
  aO (Lx == 0)
   (aK tM ⟨k6, ((k7 + ((Int.toNat x1) * 3)) + 1), none⟩ (.int .i64 (-1)) fun Av =>
   cy (Mem.ld Av ⟨b0, o0, none⟩) fun A84 =>
   aa Tryz.prog 119 #[(.pointer A84), (.int .i64 n8)] Av (fun T7 GH =>
   aJ (some T7) .i64 fun Yx =>
   aO (Yx == 1)
    (bh GH (.cells #[(.int .i64 n8)] 3 (0, 0)) fun LB Ez =>
    aa Tryz.prog 58 #[(.pointer (some ⟨b0, (o0 + 7), none⟩)), (.slice (some ⟨LB, 0, none⟩) 1 1)] Ez (fun Nm lj =>
    (Nm = (.tuple #[])) ∧
    aB (Mem.ld lj ⟨fx, (0 + 1), none⟩) fun Yc Ub TX =>
    aK lj ⟨k1, 0, none⟩ (.int .i64 7) fun PG =>
    aK PG ⟨k1, (0 + 1), none⟩ (.int .i64 x1) fun PI =>
    aK PI ⟨k1, (0 + 2), none⟩ (.int .i64 n8) fun Qv =>
    aK Qv ⟨k1, (0 + 3), none⟩ (.slice Yc Ub TX) fun DJ =>
    aJ (Mem.ld DJ ⟨k1, 0, none⟩) .i64 fun LC =>
    aJ (Mem.ld DJ ⟨k1, (0 + 1), none⟩) .i64 fun qQ =>
    aJ (Mem.ld DJ ⟨k1, (0 + 2), none⟩) .i64 fun MQ =>
    aB (Mem.ld DJ ⟨k1, (0 + 3), none⟩) fun y5 mV EF =>
    K (.agg #[(.int .i64 LC), (.int .i64 qQ), (.int .i64 MQ), (.slice y5 mV EF)]) DJ) Kp)
    (aB (Mem.ld GH ⟨fx, (0 + 1), none⟩) fun C6 xz Kn =>
    aK GH ⟨k1, 0, none⟩ (.int .i64 7) fun U9 =>
    aK U9 ⟨k1, (0 + 1), none⟩ (.int .i64 x1) fun uk =>
    aK uk ⟨k1, (0 + 2), none⟩ (.int .i64 n8) fun Va =>
    aK Va ⟨k1, (0 + 3), none⟩ (.slice C6 xz Kn) fun nK =>
    aJ (Mem.ld nK ⟨k1, 0, none⟩) .i64 fun yO =>
    aJ (Mem.ld nK ⟨k1, (0 + 1), none⟩) .i64 fun MT =>
    aJ (Mem.ld nK ⟨k1, (0 + 2), none⟩) .i64 fun MU =>
    aB (Mem.ld nK ⟨k1, (0 + 3), none⟩) fun Vb Kv Vc =>
    K (.agg #[(.int .i64 yO), (.int .i64 MT), (.int .i64 MU), (.slice Vb Kv Vc)]) nK)) Kp)
   (aB (Mem.ld tM ⟨fx, (0 + 1), none⟩) fun Vd GP Ve =>
   aK tM ⟨k1, 0, none⟩ (.int .i64 7) fun Vf =>
   aK Vf ⟨k1, (0 + 1), none⟩ (.int .i64 x1) fun Vg =>
   aK Vg ⟨k1, (0 + 2), none⟩ (.int .i64 n8) fun Vh =>
   aK Vh ⟨k1, (0 + 3), none⟩ (.slice Vd GP Ve) fun vV =>
   aJ (Mem.ld vV ⟨k1, 0, none⟩) .i64 fun GQ =>
   aJ (Mem.ld vV ⟨k1, (0 + 1), none⟩) .i64 fun Vi =>
   aJ (Mem.ld vV ⟨k1, (0 + 2), none⟩) .i64 fun C7 =>
   aB (Mem.ld vV ⟨k1, (0 + 3), none⟩) fun Vj N0 Vk =>
   K (.agg #[(.int .i64 GQ), (.int .i64 Vi), (.int .i64 C7), (.slice Vj N0 Vk)]) vV)))) Kp) :
 aa Tryz.prog 111 ([.pointer (some ⟨b0, o0, none⟩), .int .i64 x1] : List Value).toArray M K Kp :=
 cu (C := Cx) good [(3, .bQ [0, 1, 3, 7, 0, 0, 32, 96, 224, 480, 1023, 0, 4095] (.step 0 (.step 1 (.step 2 (.step 4 (.step 5 (.step 6 (.step 7 (.step 3 (.step 8 (.step 9 (.late 10 (.step 11 (.step 12 .done)))))))))))))), (2000000, .loop [(34, .c (.int .i64))]), (7, .bQ [0, 1, 3, 7, 0, 16, 48, 112, 255, 511, 1023, 0, 0, 4096, 12288, 32767] (.step 0 (.step 1 (.step 2 (.step 4 (.step 5 (.step 6 (.step 11 (.step 12 (.step 13 (.step 14 (.step 3 (.step 7 (.step 8 (.step 9 (.step 10 (.step 15 .done)))))))))))))))))] Tryz.func111 (by kernel_rfl) (by kernel_rfl) h
theorem tj {b0 o0 : Nat} {b1 o1 : Nat} (h :
rP M b1 o1 fun A1 =>
aa Tryz.prog 178 #[(.pointer A1), (.pointer (some ⟨b0, (o0 + 7), none⟩))] M (fun v2 M3 =>
aJ (some v2) .i64 fun n4 =>
rI M3 b1 (o1 + 1) fun n5 =>
((7 : Int) ≠ 0) ∧
aO ((Int.tmod n5 7) == 6)
 (aa Tryz.prog 179 #[(.pointer (some ⟨b0, (o0 + 7), none⟩)), (iV 1)] M3 (fun v6 M7 =>
 aB (some v6) fun A8 k9 gh =>
 aO ((k9 : Int) == 1)
 (((0 : Int) ≤ 0) ∧
 ((0 : Int) < k9) ∧
 aF A8 fun fu gY =>
 rI M7 fu (gY + 0) fun j7 =>
 K (.tuple #[(iV j7), (.bool true)]) M7)
 (rP M7 b1 o1 fun oT =>
 aa Tryz.prog 149 #[(.pointer oT)] M7 (fun CU fq =>
 ∃ iQ : Int, ∃ t18 : Bool, (CU = (.tuple #[(iV iQ), (.bool t18)])) ∧
 aO t18
 (K (.tuple #[(iV iQ), (.bool true)]) fq)
 (rP fq b1 o1 fun FJ =>
 aa Tryz.prog 180 #[(.pointer FJ), (.pointer (some ⟨b0, (o0 + 7), none⟩)), (iV 0)] fq (fun v20 ov =>
 ∃ wT : Int, ∃ t23 : Bool, (v20 = (.tuple #[(iV wT), (.bool t23)])) ∧
 K (.tuple #[(iV wT), (.bool t23)]) ov) Kp)) Kp)) Kp)
 (rP M3 b1 o1 fun Ly =>
 aa Tryz.prog 149 #[(.pointer Ly)] M3 (fun TP xY =>
 ∃ oB : Int, ∃ t28 : Bool, (TP = (.tuple #[(iV oB), (.bool t28)])) ∧
 aO t28
 (K (.tuple #[(iV oB), (.bool true)]) xY)
 (rP xY b1 o1 fun Su =>
 aa Tryz.prog 180 #[(.pointer Su), (.pointer (some ⟨b0, (o0 + 7), none⟩)), (iV 0)] xY (fun v30 TS =>
 ∃ n32 : Int, ∃ t33 : Bool, (v30 = (.tuple #[(iV n32), (.bool t33)])) ∧
 K (.tuple #[(iV n32), (.bool t33)]) TS) Kp)) Kp)) Kp) :
 aa Tryz.prog 150 #[.pointer (some ⟨b0, o0, none⟩), .pointer (some ⟨b1, o1, none⟩)] M K Kp := vw [(1, .bQ [0, 1, 3, 7, 0, 16, 48, 127] (sy [0, 1, 2, 4, 5, 6, 3, 7] .done)), (9, .bQ [0, 1, 3, 7, 0, 16, 48, 127, 255, 255, 1023, 2047] (sy [0, 1, 2, 4, 5, 6, 3, 7, 8, 9, 10, 11] .done))] Tryz.func150 h
end Go.Proofs
namespace Go.AF
theorem cZ.two : ∀ (zs : List HP) (i j : Nat), i ≠ j → i < zs.length → j < zs.length → ∃ rest, ∀ P Q, ∃ l1, cZ ((zs.set i P).set j Q) P l1 ∧ cZ l1 Q rest
 | [], _, _, _, h, _ => by simp at h
 | z :: zs, 0, 0, h, _, _ => absurd rfl h
 | z :: zs, 0, j + 1, _, _, hj => ⟨zs.eraseIdx j, fun P Q => ⟨zs.set j Q, by simp only [List.set_cons_zero, List.set_cons_succ]; exact .here, cZ.idx (by simpa using hj)⟩⟩
 | z :: zs, i + 1, 0, _, hi, _ => ⟨zs.eraseIdx i, fun P Q => ⟨Q :: zs.eraseIdx i, by simp only [List.set_cons_zero, List.set_cons_succ]; exact .there (cZ.idx (by simpa using hi)), .here⟩⟩
 | z :: zs, i + 1, j + 1, h, hi, hj => by
  obtain ⟨rest, hr⟩ := cZ.two zs i j (by omega) (by simpa using hi) (by simpa using hj)
  refine ⟨z :: rest, fun P Q => ?_⟩
  obtain ⟨l1, h1, h2⟩ := hr P Q
  exact ⟨z :: l1, by simp only [List.set_cons_succ]; exact .there h1, .there h2⟩
section
variable {α : Type} {r : sG α} {R : Mem} {L L' oe : List HP} {M : Mem} {bs : List Nat} {cs : List α} {b b' i j : Nat} {c c' : α}
theorem Hp.N1 (h : Hp R L M) (r : sG α) {bs : List Nat} {cs : List α} [o : fC r L bs cs L'] (hij : i ≠ j) (hb : bs[i]? = some b) (hc : cs[i]? = some c) (hb' : bs[j]? = some b') (FK : cs[j]? = some c') :
  ∃ X : HP, Hp R (az r b c :: az r b' c' :: X :: L') M ∧ ∀ {R' : Mem} {L2 : List HP} {M' : Mem} {d d' : α}, Hp R' (az r b d :: az r b' d' :: X :: L2) M' → Hp R' (bg r bs ((cs.set i d).set j d') :: L2) M' := by
 have hi := (List.getElem?_eq_some_iff.1 hb).1
 have hj := (List.getElem?_eq_some_iff.1 hb').1
 have Kw := (List.getElem?_eq_some_iff.1 hc).1
 have Gf := (List.getElem?_eq_some_iff.1 FK).1
 have hl : (List.zipWith (az r) bs cs).length = min bs.length cs.length := List.length_zipWith
 obtain ⟨rest, hr⟩ := cZ.two (List.zipWith (az r) bs cs) i j hij (by omega) (by omega)
 refine ⟨sep rest, ?_, ?_⟩
 ·have h0 : Hp R (sep (List.zipWith (az r) bs cs) :: L') M := h.pick o.pick
  obtain ⟨l1, p1, p2⟩ := hr (az r b c) (az r b' c')
  have e : ((List.zipWith (az r) bs cs).set i (az r b c)).set j (az r b' c') = List.zipWith (az r) bs cs := by
   rw [nE hb, nE hb']
   congr 1
   obtain ⟨_, e1⟩ := List.getElem?_eq_some_iff.1 hc
   obtain ⟨_, e2⟩ := List.getElem?_eq_some_iff.1 FK
   subst e1; subst e2
   rw [List.set_getElem_self, List.set_getElem_self]
  rw [e] at p1
  refine h0.map fun A hs => ?_
  have h1 := bV.pick p1.app (bV.aX.1 hs)
  exact h1.tail fun B Lq => (bV.pick p2.app Lq).tail fun C Pz => bV.aX.2 Pz
 ·intro R' L2 M' d d' h1
  obtain ⟨l1, p1, p2⟩ := hr (az r b d) (az r b' d')
  rw [nE hb, nE hb'] at p1
  show Hp R' (sep (List.zipWith (az r) bs ((cs.set i d).set j d')) :: L2) M'
  refine h1.map fun A hs => bV.aX.2 (bV.nw p1.app ?_)
  exact hs.tail fun B Lq => bV.nw p2.app (Lq.tail fun C Pz => bV.aX.1 Pz)
end
end Go.AF
namespace Go.Proofs
open Go.AF
set_option maxRecDepth 100000
theorem pU {yS : Int} {yT : Int} {gR : Int} {N2 : Int} {M : Mem} {K : Value → Mem → Prop} {Kp : List PanicEntry → Mem → Prop} (h :
bh M (cl [(iV yS), (iV yT), (iV gR), (iV N2)] 23) fun k1 M2 =>
bh M2 JW fun k3 M4 =>
bH M4 k1 0 fun n5 n6 n7 n8 =>
aa Tryz.prog 55 #[(iV n5), (iV 5)] M4 (fun v9 iU =>
aJ (some v9) .i64 fun iI =>
eI iU k1 3 n8 ∧
eI iU k1 2 n7 ∧
eI iU k1 1 n6 ∧
aa Tryz.prog 55 #[(iV n6), (iV 5)] iU (fun Im mG =>
aJ (some Im) .i64 fun lY =>
eI mG k1 3 n8 ∧
eI mG k1 2 n7 ∧
eI mG k1 1 n6 ∧
aa Tryz.prog 55 #[(iV n7), (iV 5)] mG (fun CU fq =>
aJ (some CU) .i64 fun iQ =>
eI fq k1 3 n8 ∧
eI fq k1 2 n7 ∧
eI fq k1 1 n6 ∧
aa Tryz.prog 55 #[(iV n8), (iV 12)] fq (fun En jB =>
aJ (some En) .i64 fun gd =>
eI jB k1 3 n8 ∧
eI jB k1 2 n7 ∧
eI jB k1 1 n6 ∧
kB jB k3 (iV (IntKind.wrap .i64 (1 + iI))) (iV (IntKind.wrap .i64 (1 + lY))) (iV (IntKind.wrap .i64 (2 + iQ))) (iV (IntKind.wrap .i64 (1 + gd))) fun j6 =>
eI j6 k1 3 n8 ∧
eI j6 k1 2 n7 ∧
eI j6 k1 1 n6 ∧
bH j6 k3 0 fun nG oU oB wU =>
K (.agg #[(iV nG), (iV oU), (iV oB), (iV wU)]) j6) Kp) Kp) Kp) Kp) :
 aa Tryz.prog 14 #[.agg #[.int .i64 yS, .int .i64 yT, .int .i64 gR, .int .i64 N2]] M K Kp := vw [(2, .bQ [0, 0, 2, 7, 15, 0, 0, 64, 239, 495, 0, 0, 2048, 7663, 15855, 0, 0, 65536, 245231, 507375, 1048575, 2097151] (sy [0, 1, 5, 6, 10, 11, 15, 16, 2] (.dD 7 (.dD 12 (.dD 17 (sy [3, 4, 8, 9, 13, 14, 18, 19, 20, 21] .done))))))] Tryz.func14 h
theorem nL {x0 : Int} {x1 : Int} {M : Mem} {K : Value → Mem → Prop} {Kp : List PanicEntry → Mem → Prop} (h :
((x1 : Int) ≠ 0) ∧
K (iV (Int.tmod (IntKind.wrap .i64 (((Nat.bitwise and (BitVec.ofInt IntKind.i64.bits x0).toNat (BitVec.ofInt IntKind.i64.bits 255).toNat) : Nat) : Int)) x1)) M) :
 aa Tryz.prog 55 #[.int .i64 x0, .int .i64 x1] M K Kp := vw [] Tryz.func55 h
theorem y9 {B0 : Option Addr} {m0 c0 : Nat} {x1 : Int} {M : Mem} {K : Value → Mem → Prop} {Kp : List PanicEntry → Mem → Prop} (h :
aY Tryz.prog (Go.Instr.makeSlice 36 (iV (if (0 : Int) > x1 then 0 else x1)) (iV (if (0 : Int) > x1 then 0 else x1))) M (fun v1 M2 =>
aB (some v1) fun A3 k4 k5 =>
∃ I6 : IT, (∃ k7, I6 k7 [(iV 0)] M2) ∧
∀ (k8 : Nat) (_ : Nat → Value) (iZ : Int) (jJ : Mem), (I6 k8 [(iV iZ)] jJ) → aO (decide (iZ < k4))
 ((0 ≤ iZ) ∧
 (iZ < k4) ∧
 aF A3 fun gY eK =>
 sT jJ gY (eK + (Int.toNat iZ)) (iV (-1)) fun oh =>
 ∃ iW : Nat, (iW < k8) ∧
 I6 iW [(iV (IntKind.wrap .i64 (iZ + 1)))] oh)
 (aY Tryz.prog (Go.Instr.makeSlice 248 (iV (k4 : Int)) (iV (k4 : Int))) jJ (fun Na oz =>
 aB (some Na) fun Kg jI lF =>
 ∃ Yy : IT, (∃ iw, Yy iw [(iV 0), (iV 0), (iV 0)] oz) ∧
 ∀ (jm : Nat) (_ : Nat → Value) (nG : Int) (oU : Int) (oB : Int) (vK : Mem), (Yy jm [(iV nG), (iV oU), (iV oB)] vK) → aO (decide (oB < m0))
 ((0 ≤ oB) ∧
 (oB < m0) ∧
 aF B0 fun iq mH =>
 rIU vK iq (mH + ((Int.toNat oB) * 2)) fun si n32 =>
 bh vK Ip fun so sq =>
 sT2 sq so (iV si) (.int .u64 n32) fun Ak =>
 rI Ak so 0 fun Eo =>
 aO (Eo != 1)
 (∃ iR : Nat, (iR < jm) ∧
 Yy iR [(iV nG), (iV oU), (iV (IntKind.wrap .i64 (oB + 1)))] Ak)
 (rU Ak so 1 fun J2 =>
 aO (decide ((J2 : Int) < (IntKind.wrap .u64 (k4 : Int))))
 (rU Ak so 1 fun Nd =>
 (0 ≤ Nd) ∧
 (Nd < k4) ∧
 aF A3 fun It Lw =>
 rI Ak It (Lw + (Int.toNat Nd)) fun Ep =>
 rU Ak so 1 fun CX =>
 (0 ≤ CX) ∧
 (CX < k4) ∧
 aF A3 fun FG ML =>
 rU Ak so 1 fun xq =>
 sT Ak FG (ML + (Int.toNat CX)) (iV nG) fun MM =>
 ((Mem.ld MM ⟨so, 1, none⟩) = (some (.int .u64 xq))) ∧
 (0 ≤ xq) ∧
 (xq < jI) ∧
 aF Kg fun GB MP =>
 sT MM GB (MP + (Int.toNat xq)) (.bool true) fun So =>
 ((Mem.ld So ⟨so, 1, none⟩) = (some (.int .u64 xq))) ∧
 ∃ sM : Nat, (sM < jm) ∧
 Yy sM [(iV (IntKind.wrap .i64 (nG + 1))), (iV (if ((IntKind.wrap .i64 (nG - Ep)) : Int) > oU then (IntKind.wrap .i64 (nG - Ep)) else oU)), (iV (IntKind.wrap .i64 (oB + 1)))] So)
 (∃ qB : Nat, (qB < jm) ∧
 Yy qB [(iV (IntKind.wrap .i64 (nG + 1))), (iV oU), (iV (IntKind.wrap .i64 (oB + 1)))] Ak)))
 (∃ I54 : IT, (∃ SB, I54 SB [(iV oU), (iV 0)] vK) ∧
 ∀ (LA : Nat) (_ : Nat → Value) (CP : Int) (tK : Int) (pD : Mem), (I54 LA [(iV CP), (iV tK)] pD) → aO (decide (tK < k4))
 ((0 ≤ tK) ∧
 (tK < k4) ∧
 aF A3 fun k61 Nl =>
 rI pD k61 (Nl + (Int.toNat tK)) fun Gs =>
 (0 ≤ tK) ∧
 (tK < jI) ∧
 aF Kg fun k64 k65 =>
 rB pD k64 (k65 + (Int.toNat tK)) fun t66 =>
 aO (!t66)
 (K (iV 0) pD)
 (∃ xw : Nat, (xw < LA) ∧
 I54 xw [(iV (if ((IntKind.wrap .i64 (nG - Gs)) : Int) > CP then (IntKind.wrap .i64 (nG - Gs)) else CP)), (iV (IntKind.wrap .i64 (tK + 1)))] pD))
 (K (iV CP) pD))) Kp)) Kp) :
 aa Tryz.prog 75 #[.slice B0 m0 c0, .int .i64 x1] M K Kp := vw [(2000000, .loop [(19, .c (.int .i64))]), (2000002, .loop [(8, .c (.int .i64)), (9, .c (.int .i64)), (31, .c (.int .i64))]), (15, .bQ [0, 0, 2, 0, 0, 16, 0, 71, 199, 511, 1023] (sy [0, 1, 3, 4, 6, 2, 7] (.dD 5 (sy [8, 9, 10] .done)))), (2000004, .loop [(9, .c (.int .i64)), (67, .c (.int .i64))])] Tryz.func75 h
variable {M : Mem} {K : Value → Mem → Prop} {Kp : List PanicEntry → Mem → Prop}
theorem AT {mL : Option Addr} {mN mO : Nat} {mP : Option Addr} {mQ mR : Nat} {gR : Int} {mS : Option Addr} {mT mU : Nat} {cU : Int} {cV : Int} {cW : Int} {eX : Int} {B2 : Option Addr} {m2 c2 : Nat} {x3 : Int} (h :
bh M (cl [(.slice mL mN mO), (.slice mP mQ mR), (iV gR), (.slice mS mT mU)] 39) fun k1 M2 =>
bh M2 (cl [(iV cU), (iV cV), (iV cW), (iV eX)] 29) fun k3 M4 =>
bh M4 (cl [(iV x3)] 3) fun k5 M6 =>
bh M6 BJ fun k7 M8 =>
aa Tryz.prog 16 #[(.slice B2 m2 c2)] M8 (fun v9 iU =>
cy (some v9) fun PC =>
yJ iU k1 0 fun An eK jH wS fH fx lq FJ lF fQ =>
bH iU k3 0 fun wT qS DG nG =>
aa Tryz.prog 15 #[(.agg #[(.slice An eK jH), (.slice wS fH fx), (iV lq), (.slice FJ lF fQ)]), (.agg #[(iV wT), (iV qS), (iV DG), (iV nG)]), (.pointer PC)] iU (fun XY xU =>
cy (some XY) fun TK =>
bh xU TF fun iq uj =>
sT uj iq 0 (.pointer TK) fun TS =>
bh TS (.map #[] 0) fun uo Ao =>
bA Tryz.prog (Go.Instr.mapUpdate 170 (.map (some uo)) (iV 0) (iV (-1))) Ao (fun sq =>
bh sq (cl [(.map (some uo)), (iV 0)] 172) fun BO Ak =>
bh Ak Qh fun jS lZ =>
sT lZ jS 0 (.pointer (some ⟨BO, 0, none⟩)) fun Nj =>
aa Tryz.prog 61 #[(.func (.func 71) #[] #[(.pointer (some ⟨k5, 0, none⟩)), (.pointer (some ⟨iq, 0, none⟩)), (.pointer (some ⟨jS, 0, none⟩))])] Nj (fun Kf Ap =>
∃ FL Ep CX Aq DI xq : Int, (Kf = (.tuple #[(iV FL), (.agg #[(iV Ep), (iV CX), (iV Aq), (iV DI), (.int .u64 xq)])])) ∧
rP Ap iq 0 fun Np =>
aa Tryz.prog 18 #[(.pointer Np)] Ap (fun J3 xS =>
cy (some J3) fun Qj =>
aa Tryz.prog 73 #[(.pointer Qj)] xS (fun v52 GD =>
aJ (some v52) .i64 fun TU =>
∃ I55 : IT, (∃ LA, I55 LA [(iV 0)] GD) ∧
∀ (Au : Nat) (_ : Nat → Value) (tK : Int) (pD : Mem), (I55 Au [(iV tK)] pD) → aO (decide (tK < TU))
 (rP pD iq 0 fun TV =>
 rP pD jS 0 fun A62 =>
 aa Tryz.prog 35 #[(.pointer TV)] pD (fun v63 IA =>
 aJ (some v63) .i64 fun xT =>
 ((Mem.ld IA ⟨jS, 0, none⟩) = (some (.pointer A62))) ∧
 aa Tryz.prog 74 #[(.pointer A62), (iV tK), (iV (IntKind.wrap .i64 (xT - 1)))] IA (fun v66 M67 =>
 (v66 = (.tuple #[])) ∧
 ((Mem.ld M67 ⟨jS, 0, none⟩) = (some (.pointer A62))) ∧
 ∃ xD : Nat, (xD < Au) ∧
 I55 xD [(iV (IntKind.wrap .i64 (tK + 1)))] M67) Kp) Kp)
 (rP pD iq 0 fun U8 =>
 rP pD iq 0 fun Qy =>
 rI pD k3 1 fun Lz =>
 rP pD jS 0 fun SD =>
 aF SD fun Kk ID =>
 rI pD Kk (ID + 1) fun CQ =>
 aa Tryz.prog 35 #[(.pointer U8)] pD (fun Yh Kj =>
 aJ (some Yh) .i64 fun C5 =>
 ((Mem.ld Kj ⟨Kk, (ID + 1), none⟩) = (some (iV CQ))) ∧
 ((Mem.ld Kj ⟨jS, 0, none⟩) = (some (.pointer SD))) ∧
 eI Kj k3 1 Lz ∧
 ((Mem.ld Kj ⟨iq, 0, none⟩) = (some (.pointer Qy))) ∧
 aa Tryz.prog 18 #[(.pointer Qy)] Kj (fun v79 xy =>
 cy (some v79) fun Qu =>
 ((Mem.ld xy ⟨Kk, (ID + 1), none⟩) = (some (iV CQ))) ∧
 ((Mem.ld xy ⟨jS, 0, none⟩) = (some (.pointer SD))) ∧
 eI xy k3 1 Lz ∧
 ((Mem.ld xy ⟨iq, 0, none⟩) = (some (.pointer Qy))) ∧
 aa Tryz.prog 73 #[(.pointer Qu)] xy (fun v82 Av =>
 aJ (some v82) .i64 fun Iu =>
 ((Mem.ld Av ⟨Kk, (ID + 1), none⟩) = (some (iV CQ))) ∧
 ((Mem.ld Av ⟨jS, 0, none⟩) = (some (.pointer SD))) ∧
 eI Av k3 1 Lz ∧
 ((Mem.ld Av ⟨iq, 0, none⟩) = (some (.pointer Qy))) ∧
 aa Tryz.prog 76 #[(.pointer PC)] Av (fun T7 GH =>
 aB (some T7) fun A87 LB k89 =>
 ((Mem.ld GH ⟨Kk, (ID + 1), none⟩) = (some (iV CQ))) ∧
 ((Mem.ld GH ⟨jS, 0, none⟩) = (some (.pointer SD))) ∧
 eI GH k3 1 Lz ∧
 ((Mem.ld GH ⟨iq, 0, none⟩) = (some (.pointer Qy))) ∧
 aa Tryz.prog 75 #[(.slice A87 LB k89), (iV Lz)] GH (fun Nm lj =>
 aJ (some Nm) .i64 fun XX =>
 ((Mem.ld lj ⟨Kk, (ID + 1), none⟩) = (some (iV CQ))) ∧
 ((Mem.ld lj ⟨jS, 0, none⟩) = (some (.pointer SD))) ∧
 eI lj k3 1 Lz ∧
 ((Mem.ld lj ⟨iq, 0, none⟩) = (some (.pointer Qy))) ∧
 kB lj k7 (iV C5) (iV Iu) (iV XX) (iV CQ) fun PI =>
 ((Mem.ld PI ⟨Kk, (ID + 1), none⟩) = (some (iV CQ))) ∧
 ((Mem.ld PI ⟨jS, 0, none⟩) = (some (.pointer SD))) ∧
 eI PI k3 1 Lz ∧
 ((Mem.ld PI ⟨iq, 0, none⟩) = (some (.pointer Qy))) ∧
 bH PI k7 0 fun n97 Sr LC qQ =>
 K (.agg #[(iV n97), (iV Sr), (iV LC), (iV qQ)]) PI) Kp) Kp) Kp) Kp) Kp)) Kp) Kp) Kp) Kp) Kp) Kp) :
 aa Tryz.prog 29 #[.agg #[.slice mL mN mO, .slice mP mQ mR, .int .i64 gR, .slice mS mT mU], .agg #[.int .i64 cU, .int .i64 cV, .int .i64 cW, .int .i64 eX], .slice B2 m2 c2, .int .i64 x3] M K Kp := vw [(2000000, .loop [(28, .c (.int .i64))]), (8, .bQ [0, 0, 0, 4, 12, 31] (sy [1, 2] (.dD 0 (sy [3, 4, 5] .done)))), (10, .bQ [0, 1, 0, 7, 15, 0, 63, 0, 128, 511, 0, 1024, 3072, 7168, 16383, 32767] (sy [5, 7, 0] (.dD 2 (.dD 8 (.dD 10 (sy [11, 12] (.dD 13 (sy [1, 3, 4, 6, 9, 14, 15] .done))))))))] Tryz.func29 h
theorem xE {b0 o0 : Nat} {b1 o1 : Nat} {b2 o2 : Nat} (h :
rI M b0 o0 fun n1 =>
∃ I2 : IT, (∃ k3, I2 k3 [(iV 0)] M) ∧
∀ (k4 : Nat) (_ : Nat → Value) (n6 : Int) (M7 : Mem), (I2 k4 [(iV n6)] M7) → aO (decide ((n6 : Int) < (if (0 : Int) > n1 then 0 else n1)))
 (rP M7 b1 o1 fun A8 =>
 aa Tryz.prog 22 #[(.pointer A8)] M7 (fun v9 iU =>
 aJ (some v9) .i64 fun iI =>
 aO (iI != 0)
 (K (.tuple #[]) iU)
 (rP iU b1 o1 fun An =>
 rP iU b2 o2 fun DE =>
 rP iU b1 o1 fun oT =>
 aa Tryz.prog 54 #[(.pointer An)] iU (fun CU fq =>
 ∃ iQ lq yQ : Int, ∃ Qs : Option Addr, ∃ fQ iw : Nat, (CU = (.agg #[(iV iQ), (iV lq), (iV yQ), (.slice Qs fQ iw)])) ∧
 ((Mem.ld fq ⟨b1, o1, none⟩) = (some (.pointer oT))) ∧
 ((Mem.ld fq ⟨b2, o2, none⟩) = (some (.pointer DE))) ∧
 aa Tryz.prog 72 #[(.pointer DE), (.agg #[(iV iQ), (iV lq), (iV yQ), (.slice Qs fQ iw)]), (.pointer oT)] fq (fun X0 j6 =>
 (X0 = (.tuple #[])) ∧
 ((Mem.ld j6 ⟨b1, o1, none⟩) = (some (.pointer oT))) ∧
 ((Mem.ld j6 ⟨b2, o2, none⟩) = (some (.pointer DE))) ∧
 ∃ qP : Nat, (qP < k4) ∧
 I2 qP [(iV (IntKind.wrap .i64 (n6 + 1)))] j6) Kp) Kp)) Kp)
 (K (.tuple #[]) M7)) :
 aa Tryz.prog 71 #[.pointer (some ⟨b0, o0, none⟩), .pointer (some ⟨b1, o1, none⟩), .pointer (some ⟨b2, o2, none⟩)] M K Kp := vw [(2000000, .loop [(5, .c (.int .i64))]), (3, .bQ [0, 0, 2, 0, 15] (sy [1] (.dD 0 (.dD 3 (sy [2, 4] .done)))))] Tryz.func71 h
theorem tp {b0 o0 : Nat} {cU : Int} {cV : Int} {cW : Int} {Yz : Option Addr} {YA YB : Nat} {b2 o2 : Nat} (h :
bh M (cl [(iV cU), (iV cV), (iV cW), (.slice Yz YA YB)] 43) fun k1 M2 =>
aa Tryz.prog 35 #[(.pointer (some ⟨b2, o2, none⟩))] M2 (fun v3 M4 =>
aJ (some v3) .i64 fun n5 =>
rI M4 k1 0 fun n6 =>
aO (n6 == 7)
 (rI M4 k1 2 fun n7 =>
 aa Tryz.prog 74 #[(.pointer (some ⟨b0, o0, none⟩)), (iV n7), (iV (IntKind.wrap .i64 (n5 - 1)))] M4 (fun v8 M9 =>
 (v8 = (.tuple #[])) ∧
 rI M9 k1 2 fun iZ =>
 aa Tryz.prog 18 #[(.pointer (some ⟨b2, o2, none⟩))] M9 (fun v11 sg =>
 cy (some v11) fun DE =>
 eI sg k1 2 iZ ∧
 aa Tryz.prog 119 #[(.pointer DE), (iV iZ)] sg (fun Ya sr =>
 aJ (some Ya) .i64 fun nh =>
 eI sr k1 2 iZ ∧
 aO (nh == 1)
 (dZ (Mem.ld sr ⟨b0, o0, none⟩) fun TT =>
 rI sr k1 2 fun lq =>
 bA Tryz.prog (Go.Instr.mapUpdate 170 TT (iV lq) (iV (IntKind.wrap .i64 (n5 - 1)))) sr (fun jB =>
 rS jB k1 3 fun Qs fQ iw =>
 ∃ I23 : IT, (∃ vg, I23 vg [(iV 0)] jB) ∧
 ∀ (qP : Nat) (_ : Nat → Value) (oB : Int) (vK : Mem), (I23 qP [(iV oB)] vK) → aO (decide (oB < fQ))
 ((0 ≤ oB) ∧
 (oB < fQ) ∧
 aF Qs fun iq mH =>
 rI vK iq (mH + (Int.toNat oB)) fun si =>
 dZ (Mem.ld vK ⟨b0, o0, none⟩) fun T3 =>
 bA Tryz.prog (Go.Instr.mapUpdate 170 T3 (iV si) (iV (IntKind.wrap .i64 (n5 - 1)))) vK (fun Ao =>
 ∃ qC : Nat, (qC < qP) ∧
 I23 qC [(iV (IntKind.wrap .i64 (oB + 1)))] Ao) Kp)
 (K (.tuple #[]) vK)) Kp)
 (rS sr k1 3 fun A35 MW jS =>
 ∃ Vl : IT, (∃ yY, Vl yY [(iV 0)] sr) ∧
 ∀ (FH : Nat) (_ : Nat → Value) (FL : Int) (tL : Mem), (Vl FH [(iV FL)] tL) → aO (decide (FL < MW))
 ((0 ≤ FL) ∧
 (FL < MW) ∧
 aF A35 fun Gq FG =>
 rI tL Gq (FG + (Int.toNat FL)) fun DI =>
 dZ (Mem.ld tL ⟨b0, o0, none⟩) fun v47 =>
 bA Tryz.prog (Go.Instr.mapUpdate 170 v47 (iV DI) (iV (IntKind.wrap .i64 (n5 - 1)))) tL (fun MM =>
 ∃ GB : Nat, (GB < FH) ∧
 Vl GB [(iV (IntKind.wrap .i64 (FL + 1)))] MM) Kp)
 (K (.tuple #[]) tL))) Kp) Kp) Kp)
 (rS M4 k1 3 fun A50 Nk sM =>
 ∃ I53 : IT, (∃ J5, I53 J5 [(iV 0)] M4) ∧
 ∀ (SB : Nat) (_ : Nat → Value) (Iz : Int) (IB : Mem), (I53 SB [(iV Iz)] IB) → aO (decide (Iz < Nk))
 ((0 ≤ Iz) ∧
 (Iz < Nk) ∧
 aF A50 fun XU k60 =>
 rI IB XU (k60 + (Int.toNat Iz)) fun J6 =>
 dZ (Mem.ld IB ⟨b0, o0, none⟩) fun Qq =>
 bA Tryz.prog (Go.Instr.mapUpdate 170 Qq (iV J6) (iV (IntKind.wrap .i64 (n5 - 1)))) IB (fun Al =>
 ∃ k64 : Nat, (k64 < SB) ∧
 I53 k64 [(iV (IntKind.wrap .i64 (Iz + 1)))] Al) Kp)
 (K (.tuple #[]) IB))) Kp) :
 aa Tryz.prog 72 #[.pointer (some ⟨b0, o0, none⟩), .agg #[.int .i64 cU, .int .i64 cV, .int .i64 cW, .slice Yz YA YB], .pointer (some ⟨b2, o2, none⟩)] M K Kp := vw [(4, .bQ [0, 1, 0, 4, 15, 31] (sy [0, 2] (.dD 3 (sy [1, 4, 5] .done)))), (5, .bQ [0, 1, 3, 7, 0, 16, 0, 127] (sy [0, 1, 2, 4, 6, 3, 5, 7] .done)), (2000000, .loop [(36, .c (.int .i64))])] Tryz.func72 h
theorem tq {b0 o0 : Nat} {x1 : Int} {x2 : Int} (h :
dZ (Mem.ld M ⟨b0, o0, none⟩) fun v1 =>
aY Tryz.prog (Go.Instr.lookup 170 v1 (iV x1) true) M (fun v2 M3 =>
∃ n4 : Int, ∃ t5 : Bool, (v2 = (.tuple #[(iV n4), (.bool t5)])) ∧
aO t5
 (rI M3 b0 (o0 + 1) fun n6 =>
 sT M3 b0 (o0 + 1) (iV (if ((IntKind.wrap .i64 (x2 - n4)) : Int) > n6 then (IntKind.wrap .i64 (x2 - n4)) else n6)) fun M7 =>
 dZ (Mem.ld M7 ⟨b0, o0, none⟩) fun v8 =>
 aY Tryz.prog (Go.Builtin.delete_ #[170, 3] 0 #[v8, (iV x1)]) M7 (fun v9 iU =>
 (v9 = (.tuple #[])) ∧
 K (.tuple #[]) iU) Kp)
 (K (.tuple #[]) M3)) Kp) :
 aa Tryz.prog 74 #[.pointer (some ⟨b0, o0, none⟩), .int .i64 x1, .int .i64 x2] M K Kp := vw [] Tryz.func74 h
theorem AU {yS : Int} {yT : Int} {gR : Int} {N2 : Int} {x1 : Int} {x2 : Int} (h :
bh M (cl [(iV yS), (iV yT), (iV gR), (iV N2)] 29) fun k1 M2 =>
rI M2 k1 3 fun n3 =>
rI M2 k1 2 fun n4 =>
K (iV (IntKind.wrap .i64 ((IntKind.wrap .i64 ((IntKind.wrap .i64 ((IntKind.wrap .i64 ((IntKind.wrap .i64 (2 * n3)) + 2)) * x1)) * (IntKind.wrap .i64 ((IntKind.wrap .i64 (7 * (IntKind.wrap .i64 (x2 + 2)))) + (IntKind.wrap .i64 (4 * (IntKind.wrap .i64 (n4 + 2)))))))) + (IntKind.wrap .i64 (8 * x1))))) M2) :
 aa Tryz.prog 30 #[.agg #[.int .i64 yS, .int .i64 yT, .int .i64 gR, .int .i64 N2], .int .i64 x1, .int .i64 x2] M K Kp := vw [] Tryz.func30 h
end Go.Proofs
