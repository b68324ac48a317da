/- A part of proofs about one program. -/
import Derived.Test.YtnnlgknlialpmaaGreatProg
import Derived.Test.YtnnlgknlialpmaaGreatZTraceSeenStC
import Derived.Test.YtnnlgknlialpmaaGreatZTraceSeenMod
import Derived.Test.YtnnlgknlialpmaaGreatZTraceSeenWin
set_option linter.unusedVariables false
namespace Go.Proofs
open Go.AF
noncomputable def Cx : Ctx := ⟨Tryz.prog, 255⟩
theorem good : Cx.Good := by
 refine ⟨?_, by kernel_rfl⟩
 have h : (List.range 253).all (fun g => pz Tryz.prog (g + 2)) = true := by kernel_rfl
 intro g hg
 have h1 : g < 255 := hg.2
 have := List.all_eq_true.1 h (g - 2) (List.mem_range.2 (by omega))
 have e : g - 2 + 2 = g := by omega
 simp only [e] at this
 exact this
def sy : List Nat → Ex → Ex
 | [], e => e
 | i :: l, e => .step i (sy l e)
abbrev aA (t : Nat) (A : Option Addr) (n c : Nat) (B : Option Addr) (m d : Nat) (M : Mem) (K : Value → Mem → Prop) (Kp : List PanicEntry → Mem → Prop) : Prop := bk Tryz.prog (Go.Builtin.append_ #[t, t] t #[.slice A n c, .slice B m d]) M K Kp
theorem vw {f : FuncId} {fn : Func} {args : List Value} {M : Mem} {K : Value → Mem → Prop} {Kp : List PanicEntry → Mem → Prop} (H : List (Nat × Hint)) (hf : Cx.P.funcs[f]? = some fn) {vc : Prop} (h : vc) (h1 : yG fn args.length = true := by kernel_rfl)
  (h2 : vc = dN Cx H Kp (fj fn) 0 (JS Cx.P fn K) (gj args) M := by kernel_rfl) : aa Cx.P f args.toArray M K Kp := cz (C := Cx) good H hf h1 h2 h
end Go.Proofs
namespace Go.Proofs
open Go.AF
set_option maxRecDepth 100000
variable {M : Mem} {K : Value → Mem → Prop} {Kp : List PanicEntry → Mem → Prop}
theorem CZ {x0 : Int} (h :
aX M (cl [(iV (if (16 : Int) < (if (0 : Int) > x0 then 0 else x0) then 16 else (if (0 : Int) > x0 then 0 else x0))), (.slice none 0 0), (.slice none 0 0), (.slice none 0 0), (.bool false)] 305) fun k1 M2 =>
K (.pointer (some ⟨k1, 0, none⟩)) M2) :
 aa Tryz.prog 113 #[.int .i64 x0] M K Kp := vw [] Tryz.func113 h
theorem nO {b0 o0 : Nat} {cL : Int} {cN : Int} {cR : Int} (h :
aX M (cl [(iV cL), (iV cN), (iV cR)] 280) fun k1 M2 =>
rS M2 b0 (o0 + 3) fun A3 k4 k5 =>
mC M2 k1 0 fun n6 n7 n8 =>
aX M2 (cl [(iV n6), (iV n7), (iV n8)] 280) fun k9 iE =>
aA 195 A3 k4 k5 (some ⟨k9, 0, none⟩) 1 1 iE (fun v11 oF =>
aB (some v11) fun F2 gT iF =>
sT oF b0 (o0 + 3) (.slice F2 gT iF) fun fL =>
K (.tuple #[]) fL) Kp) :
 aa Tryz.prog 235 #[.pointer (some ⟨b0, o0, none⟩), .agg #[.int .i64 cL, .int .i64 cN, .int .i64 cR]] M K Kp := vw [(1, .bS [0, 0, 2, 6, 14, 0, 32, 126, 255, 511, 1023] (sy [0, 1, 2, 3, 4, 5, 6, 7, 8, 9, 10] .done))] Tryz.func235 h
theorem nQ {b0 o0 : Nat} {cL : Int} {cN : Int} {cR : Int} (h :
aX M (cl [(iV cL), (iV cN), (iV cR)] 280) fun k1 M2 =>
rS M2 b0 (o0 + 2) fun A3 k4 k5 =>
mC M2 k1 0 fun n6 n7 n8 =>
aX M2 (cl [(iV n6), (iV n7), (iV n8)] 280) fun k9 iE =>
aA 195 A3 k4 k5 (some ⟨k9, 0, none⟩) 1 1 iE (fun v11 oF =>
aB (some v11) fun F2 gT iF =>
sT oF b0 (o0 + 2) (.slice F2 gT iF) fun fL =>
K (.tuple #[]) fL) Kp) :
 aa Tryz.prog 236 #[.pointer (some ⟨b0, o0, none⟩), .agg #[.int .i64 cL, .int .i64 cN, .int .i64 cR]] M K Kp := vw [(1, .bS [0, 0, 2, 6, 14, 0, 32, 126, 255, 511, 1023] (sy [0, 1, 2, 3, 4, 5, 6, 7, 8, 9, 10] .done))] Tryz.func236 h
theorem tq {b0 o0 : Nat} {x1 : Int} (h :
aX M kP fun k1 M2 =>
rB M2 b0 (o0 + 4) fun t3 =>
aP t3
 (sT M2 k1 0 (iV 0) fun M4 =>
 sT M4 k1 1 (iV 0) fun M5 =>
 sT M5 k1 2 (iV 0) fun M6 =>
 mC M6 k1 0 fun n7 n8 n9 =>
 K (.tuple #[(.agg #[(iV n7), (iV n8), (iV n9)]), (.bool false), (iV 10)]) M6)
 (rS M2 b0 (o0 + 3) fun BR eu gJ =>
 aP (decide ((eu : Int) > 0))
 (aX M2 kP fun cX kD =>
 rS kD b0 (o0 + 3) fun l8 eX dn =>
 aa Tryz.prog 250 #[(.slice l8 eX dn)] kD (fun C0 jq =>
 ∃ eR oG rq : Int, ∃ Po : Option Addr, ∃ mX tr : Nat, (C0 = (.tuple #[(.agg #[(iV eR), (iV oG), (iV rq)]), (.slice Po mX tr)])) ∧
 F0 jq cX (iV eR) (iV oG) (iV rq) fun DP =>
 sT DP b0 (o0 + 3) (.slice Po mX tr) fun mY =>
 sT mY cX 2 (iV x1) fun ru =>
 mC ru cX 0 fun yL n32 tu =>
 F0 ru k1 (iV yL) (iV n32) (iV tu) fun F3 =>
 mC F3 k1 0 fun J4 EE MI =>
 K (.tuple #[(.agg #[(iV J4), (iV EE), (iV MI)]), (.bool true), (iV 0)]) F3) Kp)
 (rS M2 b0 (o0 + 1) fun A40 zm F4 =>
 rI M2 b0 o0 fun BS =>
 aP (decide ((zm : Int) < BS))
 (rS M2 b0 (o0 + 1) fun A44 F5 AA =>
 aX M2 (cl [(iV x1)] 2) fun EF IC =>
 aA 53 A44 F5 AA (some ⟨EF, 0, none⟩) 1 1 IC (fun GI qP =>
 aB (some GI) fun Pp kS nR =>
 sT qP b0 (o0 + 1) (.slice Pp kS nR) fun J5 =>
 F0 J5 k1 (iV 0) (iV 0) (iV 0) fun J6 =>
 mC J6 k1 0 fun BT AB MJ =>
 K (.tuple #[(.agg #[(iV BT), (iV AB), (iV MJ)]), (.bool false), (iV 0)]) J6) Kp)
 (sT M2 k1 0 (iV 0) fun wz =>
 sT wz k1 1 (iV 0) fun vE =>
 sT vE k1 2 (iV 0) fun AD =>
 mC AD k1 0 fun n64 wA TP =>
 K (.tuple #[(.agg #[(iV n64), (iV wA), (iV TP)]), (.bool false), (iV 6)]) AD)))) :
 aa Tryz.prog 237 #[.pointer (some ⟨b0, o0, none⟩), .int .i64 x1] M K Kp := vw [(8, .bS [0, 1, 3, 7, 15, 0, 32, 96, 224, 511, 1023] (sy [0, 1, 2, 5, 6, 7, 3, 4, 8, 9, 10] .done))] Tryz.func237 h
theorem tv {b0 o0 : Nat} (h :
aX M nL fun k1 M2 =>
aX M2 nL fun k3 M4 =>
rS M4 b0 (o0 + 2) fun A5 k6 k7 =>
∃ J8 : List Value → Mem → Prop, (aP (decide ((k6 : Int) > 0))
 (rS M4 b0 (o0 + 2) fun A9 fR eu =>
 aa Tryz.prog 250 #[(.slice A9 fR eu)] M4 (fun Ls mZ =>
 ∃ nx lB oH : Int, ∃ ID : Option Addr, ∃ fM jW : Nat, (Ls = (.tuple #[(.agg #[(iV nx), (iV lB), (iV oH)]), (.slice ID fM jW)])) ∧
 sT mZ k3 2 (iV nx) fun uE =>
 sT uE k3 (2 + 1) (iV lB) fun kj =>
 sT kj k3 (2 + 2) (iV oH) fun dK =>
 sT dK b0 (o0 + 2) (.slice ID fM jW) fun mD =>
 sT mD k3 5 (.bool true) fun kF =>
 rS kF b0 (o0 + 1) fun TQ pM lP =>
 rI kF k3 (2 + 2) fun xC =>
 aX kF (cl [(iV xC)] 2) fun jX ru =>
 aA 53 TQ pM lP (some ⟨jX, 0, none⟩) 1 1 ru (fun P9 pN =>
 aB (some P9) fun GJ uF wB =>
 sT pN b0 (o0 + 1) (.slice GJ uF wB) fun F3 =>
 J8 [] F3) Kp) Kp)
 (J8 [] M4)) ∧
∀ junk37 : Nat → Value, ∀ mE : Mem, (J8 [] mE) → rS mE b0 (o0 + 1) fun Qa xD zm =>
aP (decide ((xD : Int) > 0))
 (rS mE b0 (o0 + 1) fun J7 ko IE =>
 ((0 : Int) ≤ 0) ∧
 ((0 : Int) < ko) ∧
 aE J7 fun F5 AA =>
 rI mE F5 (AA + 0) fun AT =>
 XS mE k3 (iV AT) (.bool true) fun vF =>
 aX vF (cl [] 2) fun ye WY =>
 rS WY b0 (o0 + 1) fun Qb nR DQ =>
 ((0 : Int) ≤ DQ) ∧
 ((DQ : Int) ≤ DQ) ∧
 ((0 : Int) ≤ nR) ∧
 ((nR : Int) ≤ DQ) ∧
 ((0 : Int) ≤ 1) ∧
 ((1 : Int) ≤ nR) ∧
 bk Tryz.prog (Go.Builtin.append_ #[53, 53] 53 #[(.slice (some ⟨ye, 0, none⟩) 0 0), (.slice (lO Qb 1 (Int.toNat (DQ : Int)) 1) ((Int.toNat (nR : Int)) - 1) ((Int.toNat (DQ : Int)) - 1))]) WY (fun TR Lt =>
 aB (some TR) fun Qc xE MK =>
 sT Lt b0 (o0 + 1) (.slice Qc xE MK) fun vG =>
 yI vG k3 0 fun Ka t62 yf n64 wA t66 =>
 sT6 vG k1 (iV Ka) (.bool t62) (iV yf) (iV n64) (iV wA) (.bool t66) fun Sz =>
 yI Sz k1 0 fun ML t74 Qd MM EG t78 =>
 K (.tuple #[(.agg #[(iV ML), (.bool t74), (iV Qd), (iV MM), (iV EG), (.bool t78)]), (iV 0)]) Sz) Kp)
 (rB mE b0 (o0 + 4) fun t79 =>
 aP t79
 (rI mE k3 0 fun n80 =>
 rB mE k3 1 fun t81 =>
 rI mE k3 2 fun IF =>
 rI mE k3 3 fun Kb =>
 rI mE k3 4 fun Kc =>
 rB mE k3 5 fun t85 =>
 sT6 mE k1 (iV n80) (.bool t81) (iV IF) (iV Kb) (iV Kc) (.bool t85) fun mK =>
 yI mK k1 0 fun n92 t93 Qe Kd Ke t97 =>
 K (.tuple #[(.agg #[(iV n92), (.bool t93), (iV Qe), (iV Kd), (iV Ke), (.bool t97)]), (iV 0)]) mK)
 (rI mE k3 0 fun WZ =>
 rB mE k3 1 fun t99 =>
 rI mE k3 2 fun uG =>
 rI mE k3 3 fun MN =>
 rI mE k3 4 fun MO =>
 rB mE k3 5 fun t103 =>
 sT6 mE k1 (iV WZ) (.bool t99) (iV uG) (iV MN) (iV MO) (.bool t103) fun pO =>
 yI pO k1 0 fun MP t111 zn MQ MR t115 =>
 K (.tuple #[(.agg #[(iV MP), (.bool t111), (iV zn), (iV MQ), (iV MR), (.bool t115)]), (iV 5)]) pO))) :
 aa Tryz.prog 239 #[.pointer (some ⟨b0, o0, none⟩)] M K Kp := vw [(3000010, .cut []), (5, .bS [0, 0, 2, 6, 14, 0, 32, 96, 224, 510, 1023, 2047, 4095] (sy [0, 1, 2, 3, 5, 6, 4, 7, 8, 9, 10, 11, 12] .done))] Tryz.func239 h
theorem ry {b0 o0 : Nat} (h :
rB M b0 (o0 + 4) fun t1 =>
aP t1
 (K (.tuple #[(.slice none 0 0), (.slice none 0 0), (iV 10)]) M)
 (rS M b0 (o0 + 3) fun A2 k3 k4 =>
 rS M b0 (o0 + 2) fun A5 k6 k7 =>
 sT M b0 (o0 + 4) (.bool true) fun M8 =>
 sT M8 b0 (o0 + 3) (.slice none 0 0) fun M9 =>
 sT M9 b0 (o0 + 2) (.slice none 0 0) fun iE =>
 K (.tuple #[(.slice A2 k3 k4), (.slice A5 k6 k7), (iV 0)]) iE)) :
 aa Tryz.prog 243 #[.pointer (some ⟨b0, o0, none⟩)] M K Kp := vw [(3, .bS [0, 1, 3, 7, 0, 16, 48, 112, 15, 511] (sy [0, 1, 2, 4, 5, 6, 3, 8, 7, 9] .done))] Tryz.func243 h
theorem oI {b0 o0 : Nat} (h :
rB M b0 (o0 + 4) fun t1 =>
aP t1
 (K (.bool true) M)
 (rS M b0 (o0 + 2) fun A2 k3 k4 =>
 aP (decide ((k3 : Int) > 0))
 (K (.bool true) M)
 (rS M b0 (o0 + 1) fun A5 k6 k7 =>
 K (.bool (decide ((k6 : Int) > 0))) M))) :
 aa Tryz.prog 248 #[.pointer (some ⟨b0, o0, none⟩)] M K Kp := vw [] Tryz.func248 h
theorem oJ {b0 o0 : Nat} (h :
rB M b0 (o0 + 4) fun t1 =>
aP t1
 (K (.bool true) M)
 (rS M b0 (o0 + 3) fun A2 k3 k4 =>
 aP (decide ((k3 : Int) > 0))
 (K (.bool true) M)
 (rS M b0 (o0 + 1) fun A5 k6 k7 =>
 rI M b0 o0 fun n8 =>
 K (.bool (decide ((k6 : Int) < n8))) M))) :
 aa Tryz.prog 249 #[.pointer (some ⟨b0, o0, none⟩)] M K Kp := vw [(1, .bS [0, 1, 3, 7, 15, 31, 63, 127, 255, 511, 1023, 2047, 4095, 8191, 16383, 32767, 65535, 131071, 8191, 270335, 794623, 1843199, 4194303, 8388607, 16777215] (sy [0, 1, 2, 3, 4, 5, 6, 7, 8, 9, 10, 11, 12, 13, 14, 15, 18, 19, 20, 16, 17, 21, 22, 23, 24] .done))] Tryz.func249 h
theorem zo {B0 : Option Addr} {m0 c0 : Nat} (h :
aX M kP fun k1 M2 =>
((0 : Int) ≤ 0) ∧
((0 : Int) < m0) ∧
aE B0 fun k3 k4 =>
((0 : Int) ≤ c0) ∧
((c0 : Int) ≤ c0) ∧
((0 : Int) ≤ m0) ∧
((m0 : Int) ≤ c0) ∧
((0 : Int) ≤ 1) ∧
((1 : Int) ≤ m0) ∧
mC M2 k3 (k4 + 0) fun n5 n6 n7 =>
aX M2 (cl [] 280) fun k8 M9 =>
bk Tryz.prog (Go.Builtin.append_ #[195, 195] 195 #[(.slice (some ⟨k8, 0, none⟩) 0 0), (.slice (lO B0 1 (Int.toNat (c0 : Int)) 3) ((Int.toNat (m0 : Int)) - 1) ((Int.toNat (c0 : Int)) - 1))]) M9 (fun v10 lC =>
aB (some v10) fun rz cX gT =>
((Mem.fK lC ⟨k3, (k4 + 0), none⟩ 0 3) = some [(iV n5), (iV n6), (iV n7)]) ∧
F0 lC k1 (iV n5) (iV n6) (iV n7) fun ox =>
((Mem.fK ox ⟨k3, (k4 + 0), none⟩ 0 3) = some [(iV n5), (iV n6), (iV n7)]) ∧
mC ox k1 0 fun lQ xF eR =>
K (.tuple #[(.agg #[(iV lQ), (iV xF), (iV eR)]), (.slice rz cX gT)]) ox) Kp) :
 aa Tryz.prog 250 #[.slice B0 m0 c0] M K Kp := vw [(1, .bS [0, 1, 3, 0, 0, 16, 56, 127, 255] (sy [0, 1, 4, 5] (.dD 2 (sy [3, 6, 7, 8] .done))))] Tryz.func250 h
theorem tw {b0 o0 : Nat} {x1 : Int} (h :
rS M b0 (o0 + 2) fun A1 k2 k3 =>
(aa Tryz.prog 254 #[(.slice A1 k2 k3), (iV x1)] M (fun v4 M5 =>
 aB (some v4) fun A6 k7 k8 =>
 rS M5 b0 (o0 + 3) fun A9 fR eu =>
 aa Tryz.prog 254 #[(.slice A9 fR eu), (iV x1)] M5 (fun Ls mZ =>
 aB (some Ls) fun qQ iF eX =>
 sT mZ b0 (o0 + 2) (.slice A6 k7 k8) fun ox =>
 sT ox b0 (o0 + 3) (.slice qQ iF eX) fun rD =>
 K (.tuple #[]) rD) Kp) Kp) ∧
(rS M b0 (o0 + 3) fun yM iU fV =>
 aa Tryz.prog 254 #[(.slice A1 k2 k3), (iV x1)] M (fun GK mD =>
 aB (some GK) fun Pq tr pM =>
 aa Tryz.prog 254 #[(.slice yM iU fV), (iV x1)] mD (fun Qf DP =>
 aB (some Qf) fun SB l9 qR =>
 sT DP b0 (o0 + 2) (.slice Pq tr pM) fun pN =>
 sT pN b0 (o0 + 3) (.slice SB l9 qR) fun sS =>
 K (.tuple #[]) sS) Kp) Kp) ∧
True) :
 aa Tryz.prog 253 #[.pointer (some ⟨b0, o0, none⟩), .int .i64 x1] M K Kp := vw [(0, .bS [0, 0, 0, 4, 12, 28, 0, 124, 0, 256, 768, 1792, 0, 8188, 16381, 32765, 65533, 131071, 262143, 524287] (sy [0, 1, 2, 3, 4, 6, 8, 9, 10, 12, 5] (.fork 7 (sy [11, 13, 14, 15, 16, 17, 18, 19] .done) (.fork 11 (sy [7, 13, 14, 15, 16, 17, 18, 19] .done) .dead))))] Tryz.func253 h
theorem wC {B0 : Option Addr} {m0 c0 : Nat} {x1 : Int} (h :
∃ I1 : IT, (∃ k2, I1 k2 [(.slice none 0 0), (iV 0)] M) ∧
∀ (k3 : Nat) (_ : Nat → Value) (A5 : Option Addr) (k6 : Nat) (k7 : Nat) (n8 : Int) (M9 : Mem), (I1 k3 [(.slice A5 k6 k7), (iV n8)] M9) → aP (decide (n8 < m0))
 ((0 ≤ n8) ∧
 (n8 < m0) ∧
 aE B0 fun fR eu =>
 mC M9 fR (eu + ((Int.toNat n8) * 3)) fun j5 j6 nx =>
 aX M9 kP fun iF fL =>
 F0 fL iF (iV j5) (iV j6) (iV nx) fun jq =>
 rI jq iF 0 fun eR =>
 aP (eR != x1)
 (rI jq iF 0 fun oG =>
 rI jq iF 1 fun rq =>
 rI jq iF 2 fun nS =>
 aX jq (cl [(iV oG), (iV rq), (iV nS)] 280) fun mX DR =>
 aA 195 A5 k6 k7 (some ⟨mX, 0, none⟩) 1 1 DR (fun v26 wD =>
 aB (some v26) fun TT jX l9 =>
 ∃ qR : Nat, (qR < k3) ∧
 I1 qR [(.slice TT jX l9), (iV (IntKind.wrap .i64 (n8 + 1)))] wD) Kp)
 (∃ yg : Nat, (yg < k3) ∧
 I1 yg [(.slice A5 k6 k7), (iV (IntKind.wrap .i64 (n8 + 1)))] jq))
 (K (.slice A5 k6 k7) M9)) :
 aa Tryz.prog 254 #[.slice B0 m0 c0, .int .i64 x1] M K Kp := vw [(2000000, .loop [(5, .c .sl), (10, .c (.int .i64))])] Tryz.func254 h
end Go.Proofs
namespace Go.Proofs
open Go.AF
set_option maxRecDepth 100000
set_option maxHeartbeats 1000000
attribute [local irreducible] aI c7 fm cy aB eN aE aM aX bk bJ aP
theorem C1 : bj Tryz.prog 53 2 1 8 [.int .i64 0] := bj.mk' (zv := .int .i64 0) (by kernel_rfl) (by kernel_rfl) rfl (by omega)
theorem yN : bj Tryz.prog 195 280 3 24 [.int .i64 0, .int .i64 0, .int .i64 0] := bj.mk' (zv := .agg #[.int .i64 0, .int .i64 0, .int .i64 0]) (by kernel_rfl) (by kernel_rfl) rfl (by omega)
abbrev zp (A : Option Addr) (c : Nat) (l : List Int) : HP := bE bl 2 A c l
abbrev uH (A : Option Addr) (c : Nat) (l : List Wt) : HP := bE gS 280 A c l
abbrev iG (c : aV) (Ab : Option Addr) (cb : Nat) (As : Option Addr) (cs : Nat) (Ar : Option Addr) (cr : Nat) : List Value :=
 [.int .i64 (c.room : Int), .slice Ab c.buf.length cb, .slice As c.snd.length cs, .slice Ar c.eH.length cr, .bool c.closed]
def bK : tj aV := ⟨fun b c => exs fun Ab : Option Addr => exs fun cb : Nat => exs fun As : Option Addr => exs fun cs : Nat => exs fun Ar : Option Addr => exs fun cr : Nat =>
 sep [pt b (iG c Ab cb As cs Ar cr) 305, zp Ab cb c.buf, uH As cs c.snd, uH Ar cr c.eH]⟩
section
variable {R : Mem} {L L' : List HP} {M : Mem} {K : Value → Mem → Prop} {Kp : List PanicEntry → Mem → Prop} {b : Nat} {c : aV}
theorem iH (h : Hp R L M) [o : cq bK b L c L'] : ∃ Ab cb As cs Ar cr, Hp R (pt b (iG c Ab cb As cs Ar cr) 305 :: zp Ab cb c.buf :: uH As cs c.snd :: uH Ar cr c.eH :: L') M := by
 have := h.obj bK b
 simpa only [bK, Hp.de, Hp.aS, List.cons_append, List.nil_append] using this
theorem IG {Ab As Ar : Option Addr} {cb cs cr : Nat} (h : Hp R (pt b (iG c Ab cb As cs Ar cr) 305 :: zp Ab cb c.buf :: uH As cs c.snd :: uH Ar cr c.eH :: L) M) : Hp R (ay bK b c :: L) M := by
 refine Hp.wg ?_
 simp only [bK, Hp.de, Hp.aS, List.cons_append, List.nil_append]
 exact ⟨_, _, _, _, _, _, h⟩
theorem dm {Ab As Ar : Option Addr} {nb cb ns cs nr cr room : Nat} {closed : Bool} {buf : List Int} {snd eH : List Wt} {L1 L2 L3 L4 : List HP} (h : Hp R L M) (b : Nat)
  [p : jY b L [.int .i64 (room : Int), .slice Ab nb cb, .slice As ns cs, .slice Ar nr cr, .bool closed] 305 L1] [p1 : cK Ab L1 Int bl 2 cb buf L2] [p2 : cK As L2 Wt gS 280 cs snd L3] [p3 : cK Ar L3 Wt gS 280 cr eH L4]
  (e1 : nb = buf.length := by first | rfl | simp) (e2 : ns = snd.length := by first | rfl | simp) (e3 : nr = eH.length := by first | rfl | simp) : Hp R (ay bK b ⟨room, buf, snd, eH, closed⟩ :: L4) M := by
 subst e1; subst e2; subst e3
 exact IG (h.sub (.cons p.pick (.cons p1.pick (.cons p2.pick (.cons p3.pick .refl)))))
theorem BU {room : Int} (h : Hp R L M) (k : ∀ b M', Hp R (ay bK b (.new room) :: L) M' → K (.pointer (some ⟨b, 0, none⟩)) M') :
  aa Tryz.prog 113 #[.int .i64 room] M K Kp := by
 refine CZ ?_
 rw [Mx]
 refine aj h fun b M' h => k b M' (IG ((((h.bY gS _).bY gS _).bY bl _).sub br))
theorem xG {B : Option Addr} {m c : Nat} {w : Wt} {r : List Wt} (h : Hp R L M) (hB : Src R L B (gS.cells (w :: r))) (hm : m = r.length + 1) (hc : m ≤ c) (hn : m ≤ 1000000000)
  (k : ∀ A' c' M', Hp R (uH A' c' r :: L) M' → K (.tuple #[.agg #[.int .i64 w.g, .int .i64 w.cs, .int .i64 w.v], .slice A' r.length c']) M') :
  aa Tryz.prog 250 #[.slice B m c] M K Kp := by
 refine zo ?_
 obtain ⟨b, o, rfl⟩ := hB.g8 h (by simp) (by decide)
 repeat (first|(refine aj h ?_;clear h;intro kb M h)|(refine au h ?_;clear h;intro M h)|refine St.to h ?_|(apply Exists.intro;(repeat apply Exists.intro);refine And.intro rfl ?_)|refine av ?_|refine ai ?_|refine ae ?_)
 refine be (hB.cons.at h (i := 0) (j := 0) rfl rfl (by omega)) ?_
 refine be (hB.cons.at h (i := 0) (j := 1) rfl rfl (by omega)) ?_
 refine be (hB.cons.at h (i := 0) (j := 2) rfl rfl (by omega)) ?_
 repeat (first|(refine aj h ?_;clear h;intro kb M h)|(refine au h ?_;clear h;intro M h)|refine St.to h ?_|(apply Exists.intro;(repeat apply Exists.intro);refine And.intro rfl ?_)|refine av ?_|refine ai ?_|refine ae ?_)
 have s2 := hB.drop (m := 1) (c := c) (by simp; omega)
 simp only [Int.toNat_natCast]
 refine h.lY gS yN r s2.cons.cons (by omega) (by omega) ?_
 clear h
 intro A' c' M h
 repeat (first|(refine aj h ?_;clear h;intro kb M h)|(refine au h ?_;clear h;intro M h)|refine St.to h ?_|(apply Exists.intro;(repeat apply Exists.intro);refine And.intro rfl ?_)|refine av ?_|refine ai ?_|refine ae ?_)
 refine ⟨hB.cons.cons.fK h (i := 0) rfl (by omega), ?_⟩
 repeat (first|(refine aj h ?_;clear h;intro kb M h)|(refine au h ?_;clear h;intro M h)|refine St.to h ?_|(apply Exists.intro;(repeat apply Exists.intro);refine And.intro rfl ?_)|refine av ?_|refine ai ?_|refine ae ?_)
 refine ⟨hB.cons.cons.fK h (i := 0) rfl (by omega), ?_⟩
 repeat (first|(refine aj h ?_;clear h;intro kb M h)|(refine au h ?_;clear h;intro M h)|refine St.to h ?_|(apply Exists.intro;(repeat apply Exists.intro);refine And.intro rfl ?_)|refine av ?_|refine ai ?_|refine ae ?_)
 exact k _ _ _ h.wh
theorem AU (h : Hp R L M) [o : cq bK b L c L'] (k : K (.bool c.uy) M) : aa Tryz.prog 249 #[.pointer (some ⟨b, 0, none⟩)] M K Kp := by
 refine oJ ?_
 have h' := iH h (b := b)
 clear h
 obtain ⟨Ab, cb, As, cs, Ar, cr, h⟩ := h'
 repeat (first|(refine aj h ?_;clear h;intro kb M h)|(refine au h ?_;clear h;intro M h)|refine St.to h ?_|(apply Exists.intro;(repeat apply Exists.intro);refine And.intro rfl ?_)|refine av ?_|refine ai ?_|refine ae ?_)
 refine gL.2 ⟨fun hc => ?_, fun hc => ?_⟩
 ·rwa [aV.uy, hc] at k
 ·repeat (first|(refine aj h ?_;clear h;intro kb M h)|(refine au h ?_;clear h;intro M h)|refine St.to h ?_|(apply Exists.intro;(repeat apply Exists.intro);refine And.intro rfl ?_)|refine av ?_|refine ai ?_|refine ae ?_)
  refine aN.2 ⟨fun hr => ?_, fun hr => ?_⟩
  ·have : c.eH.isEmpty = false := by cases hc : c.eH <;> simp_all
   rwa [aV.uy, hc, this] at k
  ·repeat (first|(refine aj h ?_;clear h;intro kb M h)|(refine au h ?_;clear h;intro M h)|refine St.to h ?_|(apply Exists.intro;(repeat apply Exists.intro);refine And.intro rfl ?_)|refine av ?_|refine ai ?_|refine ae ?_)
   have : c.eH.isEmpty = true := by cases hc : c.eH <;> simp_all
   rw [aV.uy, hc, this] at k
   simpa using k
theorem AV (h : Hp R L M) [o : cq bK b L c L'] (k : K (.bool c.uz) M) : aa Tryz.prog 248 #[.pointer (some ⟨b, 0, none⟩)] M K Kp := by
 refine oI ?_
 have h' := iH h (b := b)
 clear h
 obtain ⟨Ab, cb, As, cs, Ar, cr, h⟩ := h'
 repeat (first|(refine aj h ?_;clear h;intro kb M h)|(refine au h ?_;clear h;intro M h)|refine St.to h ?_|(apply Exists.intro;(repeat apply Exists.intro);refine And.intro rfl ?_)|refine av ?_|refine ai ?_|refine ae ?_)
 refine gL.2 ⟨fun hc => ?_, fun hc => ?_⟩
 ·rwa [aV.uz, hc] at k
 ·repeat (first|(refine aj h ?_;clear h;intro kb M h)|(refine au h ?_;clear h;intro M h)|refine St.to h ?_|(apply Exists.intro;(repeat apply Exists.intro);refine And.intro rfl ?_)|refine av ?_|refine ai ?_|refine ae ?_)
  refine aN.2 ⟨fun hr => ?_, fun hr => ?_⟩
  ·have : c.snd.isEmpty = false := by cases hc : c.snd <;> simp_all
   rwa [aV.uz, hc, this] at k
  ·repeat (first|(refine aj h ?_;clear h;intro kb M h)|(refine au h ?_;clear h;intro M h)|refine St.to h ?_|(apply Exists.intro;(repeat apply Exists.intro);refine And.intro rfl ?_)|refine av ?_|refine ai ?_|refine ae ?_)
   have : c.snd.isEmpty = true := by cases hc : c.snd <;> simp_all
   rw [aV.uz, hc, this] at k
   have e : (!c.buf.isEmpty) = decide ((c.buf.length : Int) > 0) := by cases c.buf <;> simp
   rw [← e]; simpa using k
theorem pP {w : Wt} (h : Hp R L M) [o : cq bK b L c L'] (hs : c.Small 1000000000) (k : ∀ M', Hp R (ay bK b { c with snd := c.snd ++ [w] } :: L') M' → K (.tuple #[]) M') :
  aa Tryz.prog 236 #[.pointer (some ⟨b, 0, none⟩), .agg #[.int .i64 w.g, .int .i64 w.cs, .int .i64 w.v]] M K Kp := by
 refine nQ ?_
 have h' := iH h (b := b)
 clear h
 obtain ⟨Ab, cb, As, cs, Ar, cr, h⟩ := h'
 obtain ⟨h1, h2, h3⟩ := hs
 repeat (first|(refine aj h ?_;clear h;intro kb M h)|(refine au h ?_;clear h;intro M h)|refine St.to h ?_|(apply Exists.intro;(repeat apply Exists.intro);refine And.intro rfl ?_)|refine av ?_|refine ai ?_|refine ae ?_)
 refine h.aT yN [w] rfl rfl (by simp; omega) ?_
 clear h
 intro A' c' M h
 repeat (first|(refine aj h ?_;clear h;intro kb M h)|(refine au h ?_;clear h;intro M h)|refine St.to h ?_|(apply Exists.intro;(repeat apply Exists.intro);refine And.intro rfl ?_)|refine av ?_|refine ai ?_|refine ae ?_)
 exact k _ (dm h b).b7
theorem pQ {w : Wt} (h : Hp R L M) [o : cq bK b L c L'] (hs : c.Small 1000000000) (k : ∀ M', Hp R (ay bK b { c with eH := c.eH ++ [w] } :: L') M' → K (.tuple #[]) M') :
  aa Tryz.prog 235 #[.pointer (some ⟨b, 0, none⟩), .agg #[.int .i64 w.g, .int .i64 w.cs, .int .i64 w.v]] M K Kp := by
 refine nO ?_
 have h' := iH h (b := b)
 clear h
 obtain ⟨Ab, cb, As, cs, Ar, cr, h⟩ := h'
 obtain ⟨h1, h2, h3⟩ := hs
 repeat (first|(refine aj h ?_;clear h;intro kb M h)|(refine au h ?_;clear h;intro M h)|refine St.to h ?_|(apply Exists.intro;(repeat apply Exists.intro);refine And.intro rfl ?_)|refine av ?_|refine ai ?_|refine ae ?_)
 refine h.aT yN [w] rfl rfl (by simp; omega) ?_
 clear h
 intro A' c' M h
 repeat (first|(refine aj h ?_;clear h;intro kb M h)|(refine au h ?_;clear h;intro M h)|refine St.to h ?_|(apply Exists.intro;(repeat apply Exists.intro);refine And.intro rfl ?_)|refine av ?_|refine ai ?_|refine ae ?_)
 exact k _ (dm h b).b7
def SC (x : Wt × Bool × Int) : Value := .tuple #[.agg #[.int .i64 x.1.g, .int .i64 x.1.cs, .int .i64 x.1.v], .bool x.2.1, .int .i64 x.2.2]
theorem GL {v : Int} (h : Hp R L M) [o : cq bK b L c L'] (hs : c.Small 1000000000) (k : ∀ M', Hp R (ay bK b (c.send v).1 :: L') M' → K (SC (c.send v).2) M') :
  aa Tryz.prog 237 #[.pointer (some ⟨b, 0, none⟩), .int .i64 v] M K Kp := by
 refine tq ?_
 obtain ⟨room, buf, snd, eH, closed⟩ := c
 obtain ⟨h1, h2, h3⟩ := hs
 have h' := iH h (b := b)
 clear h
 obtain ⟨Ab, cb, As, cs, Ar, cr, h⟩ := h'
 dsimp only [iG] at h1 h2 h3 h
 repeat (first|(refine aj h ?_;clear h;intro kb M h)|(refine au h ?_;clear h;intro M h)|refine St.to h ?_|(apply Exists.intro;(repeat apply Exists.intro);refine And.intro rfl ?_)|refine av ?_|refine ai ?_|refine ae ?_)
 refine gL.2 ⟨fun hc => ?_, fun hc => ?_⟩
 ·subst hc
  repeat (first|(refine aj h ?_;clear h;intro kb M h)|(refine au h ?_;clear h;intro M h)|refine St.to h ?_|(apply Exists.intro;(repeat apply Exists.intro);refine And.intro rfl ?_)|refine av ?_|refine ai ?_|refine ae ?_)
  exact k _ (dm h b).b7
 subst hc
 repeat (first|(refine aj h ?_;clear h;intro kb M h)|(refine au h ?_;clear h;intro M h)|refine St.to h ?_|(apply Exists.intro;(repeat apply Exists.intro);refine And.intro rfl ?_)|refine av ?_|refine ai ?_|refine ae ?_)
 refine aN.2 ⟨fun hr => ?_, fun hr => ?_⟩
 ·cases eH with
  | nil => simp at hr
  | cons w r =>
   repeat (first|(refine aj h ?_;clear h;intro kb M h)|(refine au h ?_;clear h;intro M h)|refine St.to h ?_|(apply Exists.intro;(repeat apply Exists.intro);refine And.intro rfl ?_)|refine av ?_|refine ai ?_|refine ae ?_)
   refine xG h (h.src (A := Ar)) rfl (h.jZ Ar) (by simpa using h3) ?_
   clear h
   intro A' c' M h
   repeat (first|(refine aj h ?_;clear h;intro kb M h)|(refine au h ?_;clear h;intro M h)|refine St.to h ?_|(apply Exists.intro;(repeat apply Exists.intro);refine And.intro rfl ?_)|refine av ?_|refine ai ?_|refine ae ?_)
   exact k _ (dm h b).b7
 cases eH with
 | cons w r => simp at hr
 | nil =>
 simp only [aV.send, Bool.false_eq_true, if_false] at k
 repeat (first|(refine aj h ?_;clear h;intro kb M h)|(refine au h ?_;clear h;intro M h)|refine St.to h ?_|(apply Exists.intro;(repeat apply Exists.intro);refine And.intro rfl ?_)|refine av ?_|refine ai ?_|refine ae ?_)
 refine aN.2 ⟨fun hl => ?_, fun hl => ?_⟩
 ·rw [if_pos (by omega)] at k
  repeat (first|(refine aj h ?_;clear h;intro kb M h)|(refine au h ?_;clear h;intro M h)|refine St.to h ?_|(apply Exists.intro;(repeat apply Exists.intro);refine And.intro rfl ?_)|refine av ?_|refine ai ?_|refine ae ?_)
  refine h.aT C1 [v] rfl rfl (by simp; omega) ?_
  clear h
  intro A' c' M h
  repeat (first|(refine aj h ?_;clear h;intro kb M h)|(refine au h ?_;clear h;intro M h)|refine St.to h ?_|(apply Exists.intro;(repeat apply Exists.intro);refine And.intro rfl ?_)|refine av ?_|refine ai ?_|refine ae ?_)
  exact k _ (dm h b).b7
 ·rw [if_neg (by omega)] at k
  repeat (first|(refine aj h ?_;clear h;intro kb M h)|(refine au h ?_;clear h;intro M h)|refine St.to h ?_|(apply Exists.intro;(repeat apply Exists.intro);refine And.intro rfl ?_)|refine av ?_|refine ai ?_|refine ae ?_)
  exact k _ (dm h b).b7
def SD (x : Int × Bool × Wt × Bool × Int) : Value := .tuple #[.agg #[.int .i64 x.1, .bool x.2.1, .int .i64 x.2.2.1.g, .int .i64 x.2.2.1.cs, .int .i64 x.2.2.1.v, .bool x.2.2.2.1], .int .i64 x.2.2.2.2]
theorem GM (h : Hp R L M) [o : cq bK b L c L'] (hs : c.Small 1000000000) (k : ∀ M', Hp R (ay bK b c.recv.1 :: L') M' → K (SD c.recv.2) M') :
  aa Tryz.prog 239 #[.pointer (some ⟨b, 0, none⟩)] M K Kp := by
 refine tv ?_
 obtain ⟨room, buf, snd, eH, closed⟩ := c
 obtain ⟨h1, h2, h3⟩ := hs
 have h' := iH h (b := b)
 clear h
 obtain ⟨Ab, cb, As, cs, Ar, cr, h⟩ := h'
 dsimp only [iG] at h1 h2 h3 h
 refine aj h ?_
 clear h
 intro kr M h
 refine aj h ?_
 clear h
 intro kg M h
 repeat (first|(refine aj h ?_;clear h;intro kb M h)|(refine au h ?_;clear h;intro M h)|refine St.to h ?_|(apply Exists.intro;(repeat apply Exists.intro);refine And.intro rfl ?_)|refine av ?_|refine ai ?_|refine ae ?_)
 refine ⟨fun vs M => vs = [] ∧ ∃ Ab cb As cs, Hp R (pt kr [.int .i64 0, .bool false, .int .i64 0, .int .i64 0, .int .i64 0, .bool false] 381 ::
  pt kg [.int .i64 0, .bool false, .int .i64 (snd.headD .zero).g, .int .i64 (snd.headD .zero).cs, .int .i64 (snd.headD .zero).v, .bool (!snd.isEmpty)] 381 ::
  pt b (iG ⟨room, aV.all ⟨room, buf, snd, eH, closed⟩, snd.tail, eH, closed⟩ Ab cb As cs Ar cr) 305 :: zp Ab cb (aV.all ⟨room, buf, snd, eH, closed⟩) :: uH As cs snd.tail :: uH Ar cr eH :: L') M, ?_, ?_⟩
 ·refine aN.2 ⟨fun hr => ?_, fun hr => ?_⟩
  ·cases snd with
   | nil => simp at hr
   | cons w r =>
    repeat (first|(refine aj h ?_;clear h;intro kb M h)|(refine au h ?_;clear h;intro M h)|refine St.to h ?_|(apply Exists.intro;(repeat apply Exists.intro);refine And.intro rfl ?_)|refine av ?_|refine ai ?_|refine ae ?_)
    refine xG h (h.src (A := As)) rfl (h.jZ As) (by simpa using h2) ?_
    clear h
    intro A' c' M h
    repeat (first|(refine aj h ?_;clear h;intro kb M h)|(refine au h ?_;clear h;intro M h)|refine St.to h ?_|(apply Exists.intro;(repeat apply Exists.intro);refine And.intro rfl ?_)|refine av ?_|refine ai ?_|refine ae ?_)
    refine h.aT C1 [w.v] rfl rfl (by simp; omega) ?_
    clear h
    intro A2 c2 M h
    repeat (first|(refine aj h ?_;clear h;intro kb M h)|(refine au h ?_;clear h;intro M h)|refine St.to h ?_|(apply Exists.intro;(repeat apply Exists.intro);refine And.intro rfl ?_)|refine av ?_|refine ai ?_|refine ae ?_)
    exact ⟨A2, c2, A', c', h.sub br⟩
  ·cases snd with
   | cons w r => simp at hr
   | nil => exact ⟨rfl, Ab, cb, As, cs, h.sub br⟩
 clear h
 rintro _ M ⟨_, Ab, cb, As, cs, h⟩
 unfold aV.recv at k
 dsimp only at k
 have iJ : (aV.all ⟨room, buf, snd, eH, closed⟩).length ≤ 1000000001 := by unfold aV.all; split <;> simp <;> omega
 have PU : aV.all ⟨room, buf, snd, eH, closed⟩ = [] → snd = [] ∧ buf = [] := by unfold aV.all; dsimp only; cases snd <;> simp
 generalize aV.all ⟨room, buf, snd, eH, closed⟩ = all at h k iJ PU
 dsimp only [iG] at h
 repeat (first|(refine aj h ?_;clear h;intro kb M h)|(refine au h ?_;clear h;intro M h)|refine St.to h ?_|(apply Exists.intro;(repeat apply Exists.intro);refine And.intro rfl ?_)|refine av ?_|refine ai ?_|refine ae ?_)
 refine aN.2 ⟨fun hr => ?_, fun hr => ?_⟩
 ·cases all with
  | nil => simp at hr
  | cons v l =>
   dsimp only at k
   repeat (first|(refine aj h ?_;clear h;intro kb M h)|(refine au h ?_;clear h;intro M h)|refine St.to h ?_|(apply Exists.intro;(repeat apply Exists.intro);refine And.intro rfl ?_)|refine av ?_|refine ai ?_|refine ae ?_)
   obtain ⟨x, rfl⟩ := h.bM (A := Ab) (by simp) (by decide)
   repeat (first|(refine aj h ?_;clear h;intro kb M h)|(refine au h ?_;clear h;intro M h)|refine St.to h ?_|(apply Exists.intro;(repeat apply Exists.intro);refine And.intro rfl ?_)|refine av ?_|refine ai ?_|refine ae ?_)
   refine be ((h.src (A := some ⟨x, 0, none⟩)).at h (i := 0) (j := 0) rfl rfl (by omega)) ?_
   have hcap := h.jZ (some ⟨x, 0, none⟩)
   have hlen : l.length + 1 ≤ 1000000001 := by simpa using iJ
   repeat (first|(refine aj h ?_;clear h;intro kb M h)|(refine au h ?_;clear h;intro M h)|refine St.to h ?_|(apply Exists.intro;(repeat apply Exists.intro);refine And.intro rfl ?_)|refine av ?_|refine ai ?_|refine ae ?_)
   simp only [Int.toNat_natCast]
   refine h.lY bl C1 l ((h.src (A := some ⟨x, 0, none⟩)).drop (m := 1) hcap) (by simp) (by omega) ?_
   clear h
   intro A' c' M h
   repeat (first|(refine aj h ?_;clear h;intro kb M h)|(refine au h ?_;clear h;intro M h)|refine St.to h ?_|(apply Exists.intro;(repeat apply Exists.intro);refine And.intro rfl ?_)|refine av ?_|refine ai ?_|refine ae ?_)
   exact k _ (dm h b).b7
 ·cases all with
  | cons v l => simp at hr
  | nil =>
  obtain ⟨rfl, rfl⟩ := PU rfl
  repeat (first|(refine aj h ?_;clear h;intro kb M h)|(refine au h ?_;clear h;intro M h)|refine St.to h ?_|(apply Exists.intro;(repeat apply Exists.intro);refine And.intro rfl ?_)|refine av ?_|refine ai ?_|refine ae ?_)
  refine gL.2 ⟨fun hc => ?_, fun hc => ?_⟩
  ·subst hc
   repeat (first|(refine aj h ?_;clear h;intro kb M h)|(refine au h ?_;clear h;intro M h)|refine St.to h ?_|(apply Exists.intro;(repeat apply Exists.intro);refine And.intro rfl ?_)|refine av ?_|refine ai ?_|refine ae ?_)
   exact k _ (dm h b).b7
  ·subst hc
   repeat (first|(refine aj h ?_;clear h;intro kb M h)|(refine au h ?_;clear h;intro M h)|refine St.to h ?_|(apply Exists.intro;(repeat apply Exists.intro);refine And.intro rfl ?_)|refine av ?_|refine ai ?_|refine ae ?_)
   exact k _ (dm h b).b7
theorem EH (h : Hp R L M) [o : cq bK b L c L']
  (k : ∀ A ca B cb M', Hp R (ay bK b c.close.1 :: uH B cb c.close.2.2.1 :: uH A ca c.close.2.1 :: L') M' → K (.tuple #[.slice A c.close.2.1.length ca, .slice B c.close.2.2.1.length cb, .int .i64 c.close.2.2.2]) M') :
  aa Tryz.prog 243 #[.pointer (some ⟨b, 0, none⟩)] M K Kp := by
 refine ry ?_
 obtain ⟨room, buf, snd, eH, closed⟩ := c
 have h' := iH h (b := b)
 clear h
 obtain ⟨Ab, cb, As, cs, Ar, cr, h⟩ := h'
 dsimp only [iG] at h
 repeat (first|(refine aj h ?_;clear h;intro kb M h)|(refine au h ?_;clear h;intro M h)|refine St.to h ?_|(apply Exists.intro;(repeat apply Exists.intro);refine And.intro rfl ?_)|refine av ?_|refine ai ?_|refine ae ?_)
 refine gL.2 ⟨fun hc => ?_, fun hc => ?_⟩
 ·subst hc
  have h := dm ((h.bY gS 280).bY gS 280) b
  exact k none 0 none 0 _ h
 ·subst hc
  repeat (first|(refine aj h ?_;clear h;intro kb M h)|(refine au h ?_;clear h;intro M h)|refine St.to h ?_|(apply Exists.intro;(repeat apply Exists.intro);refine And.intro rfl ?_)|refine av ?_|refine ai ?_|refine ae ?_)
  have h := (h.bY gS 280).bY gS 280
  exact k _ _ _ _ _ ((dm h b).sub br)
theorem jG {B : Option Addr} {n cc : Nat} {g : Int} {l : List Wt} (h : Hp R L M) (hB : Src R L B (gS.cells l)) (hn : n = l.length) (hs : l.length ≤ 1000000000)
  (k : ∀ A' c' M', Hp R (uH A' c' (wo g l) :: L) M' → K (.slice A' (wo g l).length c') M') :
  aa Tryz.prog 254 #[.slice B n cc, .int .i64 g] M K Kp := by
 subst hn
 refine wC ⟨fun d vs M => ∃ i A c, vs = [.slice A (wo g (l.take i)).length c, .int .i64 (i : Int)] ∧ d = l.length - i ∧ i ≤ l.length ∧ Hp R (uH A c (wo g (l.take i)) :: L) M,
  ⟨_, 0, none, 0, rfl, rfl, by omega, h.bY _ _⟩, ?_⟩
 clear h
 rintro d _ A n c' ii M ⟨i, _, _, he, hd, hi, h⟩
 simp only [List.cons.injEq, Value.slice.injEq, Value.int.injEq, and_true, true_and] at he
 obtain ⟨⟨rfl, rfl, rfl⟩, rfl⟩ := he
 refine aN.2 ⟨fun hlt => ?_, fun hge => ?_⟩
 ·obtain ⟨w, hw⟩ := aU (l := l) (i := i) (by omega)
  obtain ⟨b, o, rfl⟩ := hB.cons.g8 h (by omega) (by decide)
  have e1 : IntKind.wrap .i64 ((i : Int) + 1) = ((i + 1 : Nat) : Int) := aW (by omega)
  have hl := GC g (l.take i)
  have lD := List.length_take_le i l
  rw [e1]
  repeat (first|(refine aj h ?_;clear h;intro kb M h)|(refine au h ?_;clear h;intro M h)|refine St.to h ?_|(apply Exists.intro;(repeat apply Exists.intro);refine And.intro rfl ?_)|refine av ?_|refine ai ?_|refine ae ?_)
  refine be (hB.cons.at h (j := 0) hw rfl (by simp [gS])) ?_
  refine be (hB.cons.at h (j := 1) hw rfl (by simp [gS]; omega)) ?_
  refine be (hB.cons.at h (j := 2) hw rfl (by simp [gS]; omega)) ?_
  repeat (first|(refine aj h ?_;clear h;intro kb M h)|(refine au h ?_;clear h;intro M h)|refine St.to h ?_|(apply Exists.intro;(repeat apply Exists.intro);refine And.intro rfl ?_)|refine av ?_|refine ai ?_|refine ae ?_)
  refine dJ.2 ⟨fun hne => ?_, fun heq => ?_⟩
  ·have e2 : wo g (l.take (i + 1)) = wo g (l.take i) ++ [w] := by rw [eo hw, Mz]; simp [wo, hne]
   repeat (first|(refine aj h ?_;clear h;intro kb M h)|(refine au h ?_;clear h;intro M h)|refine St.to h ?_|(apply Exists.intro;(repeat apply Exists.intro);refine And.intro rfl ?_)|refine av ?_|refine ai ?_|refine ae ?_)
   refine h.aT yN [w] rfl rfl (by simp; omega) ?_
   clear h
   intro A' c' M h
   repeat (first|(refine aj h ?_;clear h;intro kb M h)|(refine au h ?_;clear h;intro M h)|refine St.to h ?_|(apply Exists.intro;(repeat apply Exists.intro);refine And.intro rfl ?_)|refine av ?_|refine ai ?_|refine ae ?_)
   exact ⟨l.length - (i + 1), by omega, i + 1, A', c', by rw [e2], rfl, by omega, by rw [e2]; exact h.b7⟩
  ·have e2 : wo g (l.take (i + 1)) = wo g (l.take i) := by rw [eo hw, Mz]; simp [wo, heq]
   exact ⟨l.length - (i + 1), by omega, i + 1, A, c', by rw [e2], rfl, by omega, by rw [e2]; exact h.wh⟩
 ·have : i = l.length := by omega
  subst this
  rw [List.take_length] at h ⊢
  exact k _ _ _ h
theorem GN {g : Int} (h : Hp R L M) [o : cq bK b L c L'] (hs : c.Small 1000000000) (k : ∀ M', Hp R (ay bK b (c.drop g) :: L') M' → K (.tuple #[]) M') :
  aa Tryz.prog 253 #[.pointer (some ⟨b, 0, none⟩), .int .i64 g] M K Kp := by
 refine tw ?_
 have h' := iH h (b := b)
 clear h
 obtain ⟨Ab, cb, As, cs, Ar, cr, h⟩ := h'
 obtain ⟨h1, h2, h3⟩ := hs
 repeat (first|(refine aj h ?_;clear h;intro kb M h)|(refine au h ?_;clear h;intro M h)|refine St.to h ?_|(apply Exists.intro;(repeat apply Exists.intro);refine And.intro rfl ?_)|refine av ?_|refine ai ?_|refine ae ?_)
 refine ⟨?_, ?_, trivial⟩
 ·refine jG h (h.src (A := As)) rfl h2 ?_
  clear h
  intro A' c' M h
  repeat (first|(refine aj h ?_;clear h;intro kb M h)|(refine au h ?_;clear h;intro M h)|refine St.to h ?_|(apply Exists.intro;(repeat apply Exists.intro);refine And.intro rfl ?_)|refine av ?_|refine ai ?_|refine ae ?_)
  refine jG h (h.src (A := Ar)) rfl h3 ?_
  clear h
  intro B' d' M h
  repeat (first|(refine aj h ?_;clear h;intro kb M h)|(refine au h ?_;clear h;intro M h)|refine St.to h ?_|(apply Exists.intro;(repeat apply Exists.intro);refine And.intro rfl ?_)|refine av ?_|refine ai ?_|refine ae ?_)
  exact k _ (dm h b).b7
 ·repeat (first|(refine aj h ?_;clear h;intro kb M h)|(refine au h ?_;clear h;intro M h)|refine St.to h ?_|(apply Exists.intro;(repeat apply Exists.intro);refine And.intro rfl ?_)|refine av ?_|refine ai ?_|refine ae ?_)
  refine jG h (h.src (A := As)) rfl h2 ?_
  clear h
  intro A' c' M h
  repeat (first|(refine aj h ?_;clear h;intro kb M h)|(refine au h ?_;clear h;intro M h)|refine St.to h ?_|(apply Exists.intro;(repeat apply Exists.intro);refine And.intro rfl ?_)|refine av ?_|refine ai ?_|refine ae ?_)
  refine jG h (h.src (A := Ar)) rfl h3 ?_
  clear h
  intro B' d' M h
  repeat (first|(refine aj h ?_;clear h;intro kb M h)|(refine au h ?_;clear h;intro M h)|refine St.to h ?_|(apply Exists.intro;(repeat apply Exists.intro);refine And.intro rfl ?_)|refine av ?_|refine ai ?_|refine ae ?_)
  exact k _ (dm h b).b7
end
end Go.Proofs
namespace Go.AF
theorem nT {α β γ : Type} {f : α → β → γ} : ∀ {l : List α} {m : List β} {i : Nat} {a : α} {b : β}, l[i]? = some a → (List.zipWith f l m).set i (f a b) = List.zipWith f l (m.set i b)
 | [], _, _, _, _, h => by simp at h
 | x :: l, [], i, a, b, h => by simp
 | x :: l, y :: m, 0, a, b, h => by simp at h; subst h; rfl
 | x :: l, y :: m, i + 1, a, b, h => by
  have := nT (f := f) (m := m) (b := b) (show l[i]? = some a from by simpa using h)
  simp [this]
theorem GO {α β γ : Type} {f : α → β → γ} : ∀ {l : List α} {m : List β} {i : Nat} {a : α} {b : β}, l[i]? = some a → m[i]? = some b → (List.zipWith f l m)[i]? = some (f a b)
 | [], _, _, _, _, h, _ => by simp at h
 | x :: l, [], i, a, b, h, g => by simp at g
 | x :: l, y :: m, 0, a, b, h, g => by simp at h g; subst h; subst g; rfl
 | x :: l, y :: m, i + 1, a, b, h, g => by simpa using GO (f := f) (show l[i]? = some a from by simpa using h) (show m[i]? = some b from by simpa using g)
theorem dc.XZ {P : HP} {L : List HP} : ∀ (l : List HP), dc (l ++ P :: L) P (l ++ L)
 | [] => .here
 | Q :: l => .there (dc.XZ l)
section
variable {α : Type} {r : tj α} {R : Mem} {L L' nJ : List HP} {M : Mem} {bs : List Nat} {cs : List α} {b i : Nat} {c : α}
def bn (r : tj α) (bs : List Nat) (cs : List α) : HP := sep (List.zipWith (ay r) bs cs)
def mb (r : tj α) (bs : List Nat) (cs : List α) (i : Nat) : HP := sep ((List.zipWith (ay r) bs cs).eraseIdx i)
class fS (r : tj α) (L : List HP) (bs : outParam (List Nat)) (cs : outParam (List α)) (L' : outParam (List HP)) : Prop where
 pick : dc L (bn r bs cs) L'
instance fS.here : fS r (bn r bs cs :: L) bs cs L := ⟨.here⟩
instance (priority := low) fS.there {P : HP} [h : fS r L bs cs L'] : fS r (P :: L) bs cs (P :: L') := ⟨.there h.pick⟩
class xH (r : tj α) (L : List HP) (bs : outParam (List Nat)) (cs : outParam (List α)) (i : outParam Nat) (L' : outParam (List HP)) : Prop where
 pick : dc L (mb r bs cs i) L'
instance xH.here : xH r (mb r bs cs i :: L) bs cs i L := ⟨.here⟩
instance (priority := low) xH.there {P : HP} [h : xH r L bs cs i L'] : xH r (P :: L) bs cs i (P :: L') := ⟨.there h.pick⟩
theorem Hp.nU (h : Hp R L M) (r : tj α) {bs : List Nat} {cs : List α} [o : fS r L bs cs L'] : Hp R (bn r bs cs :: L') M := h.pick o.pick
theorem Hp.uI (h : Hp R L M) (r : tj α) : Hp R (bn r [] [] :: L) M := Hp.aS.2 h
theorem Hp.dg (h : Hp R L M) (r : tj α) {bs : List Nat} {cs : List α} [o : fS r L bs cs L'] (hb : bs[i]? = some b) (hc : cs[i]? = some c) : Hp R (ay r b c :: mb r bs cs i :: L') M :=
 (h.pick o.pick).focus (GO hb hc)
theorem Hp.dW (h : Hp R L M) (r : tj α) (b : Nat) {bs : List Nat} {cs : List α} {i : Nat} {c : α} [o : cq r b L c L'] [x : xH r L' bs cs i nJ] (hb : bs[i]? = some b) (hc : i < cs.length) : Hp R (bn r bs (cs.set i c) :: nJ) M := by
 have h1 : Hp R (ay r b c :: mb r bs cs i :: nJ) M := (h.pick o.pick).map fun _ hs => hs.tail (fun _ => b6.pick x.pick)
 have h2 := Hp.P2 (ls := List.zipWith (ay r) bs cs) h1 (by rw [List.length_zipWith]; have := (List.getElem?_eq_some_iff.1 hb).1; omega)
 rw [nT hb] at h2
 exact h2
theorem Hp.wE (h : Hp R L M) (r : tj α) (b : Nat) {bs : List Nat} {cs : List α} {i : Nat} {c : α} [o : cq r b L c L'] [x : xH r L' bs cs i nJ] (hb : bs[i]? = some b) (hc : cs[i]? = some c) : Hp R (bn r bs cs :: nJ) M := by
 have := h.dW r b hb (List.getElem?_eq_some_iff.1 hc).1
 obtain ⟨hi, rfl⟩ := List.getElem?_eq_some_iff.1 hc
 rwa [List.set_getElem_self] at this
theorem Hp.kT (h : Hp R L M) (r : tj α) (b : Nat) {bs : List Nat} {cs : List α} {c : α} [o : cq r b L c L'] [x : fS r L' bs cs nJ] (hl : bs.length = cs.length) : Hp R (bn r (bs ++ [b]) (cs ++ [c]) :: nJ) M := by
 have h1 : Hp R (ay r b c :: bn r bs cs :: nJ) M := (h.pick o.pick).map fun _ hs => hs.tail (fun _ => b6.pick x.pick)
 refine Hp.aS.2 ?_
 rw [List.zipWith_append hl, List.append_assoc]
 refine Hp.nH (P := ay r b c) ?_ (dc.XZ _)
 exact h1.map fun _ hs => hs.tail fun _ hb => b6.aS.1 hb
end
end Go.AF
namespace Go.Proofs
open Go.AF
set_option maxRecDepth 100000
variable {M : Mem} {K : Value → Mem → Prop} {Kp : List PanicEntry → Mem → Prop}
theorem wF {B0 : Option Addr} {m0 c0 : Nat} {B1 : Option Addr} {m1 c1 : Nat} (h :
∃ I1 : IT, (∃ k2, I1 k2 [(.slice none 0 0), (iV 0)] M) ∧
∀ (k3 : Nat) (_ : Nat → Value) (A5 : Option Addr) (k6 : Nat) (k7 : Nat) (n8 : Int) (M9 : Mem), (I1 k3 [(.slice A5 k6 k7), (iV n8)] M9) → aP (decide (n8 < m0))
 ((0 ≤ n8) ∧
 (n8 < m0) ∧
 aE B0 fun fR eu =>
 mC M9 fR (eu + ((Int.toNat n8) * 3)) fun j5 j6 nx =>
 aX M9 qO fun iF fL =>
 F0 fL iF (iV j5) (iV j6) (iV nx) fun jq =>
 mC jq iF 0 fun eR oG rq =>
 aa Tryz.prog 234 #[(.agg #[(iV eR), (iV oG), (iV rq)]), (.slice B1 m1 c1)] jq (fun v23 kF =>
 c7 (some v23) fun t25 =>
 aP t25
 (aX kF (cl [(iV n8)] 3) fun pM wD =>
 aA 36 A5 k6 k7 (some ⟨pM, 0, none⟩) 1 1 wD (fun Qg mY =>
 aB (some Qg) fun Pr qR yg =>
 ∃ vH : Nat, (vH < k3) ∧
 I1 vH [(.slice Pr qR yg), (iV (IntKind.wrap .i64 (n8 + 1)))] mY) Kp)
 (∃ uF : Nat, (uF < k3) ∧
 I1 uF [(.slice A5 k6 k7), (iV (IntKind.wrap .i64 (n8 + 1)))] kF)) Kp)
 (K (.slice A5 k6 k7) M9)) :
 aa Tryz.prog 205 #[.slice B0 m0 c0, .slice B1 m1 c1] M K Kp := vw [(2000000, .loop [(5, .c .sl), (10, .c (.int .i64))])] Tryz.func205 h
theorem AW {B0 : Option Addr} {m0 c0 : Nat} (h :
∃ I1 : IT, (∃ k2, I1 k2 [(iV 0)] M) ∧
∀ (k3 : Nat) (_ : Nat → Value) (n5 : Int) (M6 : Mem), (I1 k3 [(iV n5)] M6) → aP (decide (n5 < m0))
 ((0 ≤ n5) ∧
 (n5 < m0) ∧
 aE B0 fun k7 k8 =>
 mC M6 k7 (k8 + ((Int.toNat n5) * 3)) fun n9 lE ig =>
 aX M6 qO fun gJ mZ =>
 F0 mZ gJ (iV n9) (iV lE) (iV ig) fun fL =>
 rI fL gJ 0 fun jH =>
 aP (jH == 2)
 (K (.tuple #[(iV n5), (.bool true)]) fL)
 (∃ fM : Nat, (fM < k3) ∧
 I1 fM [(iV (IntKind.wrap .i64 (n5 + 1)))] fL))
 (K (.tuple #[(iV 0), (.bool false)]) M6)) :
 aa Tryz.prog 206 #[.slice B0 m0 c0] M K Kp := vw [(2000000, .loop [(8, .c (.int .i64))])] Tryz.func206 h
theorem AX {x0 : Int} {B1 : Option Addr} {m1 c1 : Nat} {B2 : Option Addr} {m2 c2 : Nat} {B3 : Option Addr} {m3 c3 : Nat} (h :
∃ I1 : IT, (∃ k2, I1 k2 [(iV 0)] M) ∧
∀ (k3 : Nat) (_ : Nat → Value) (n5 : Int) (M6 : Mem), (I1 k3 [(iV n5)] M6) → aP (decide (n5 < m1))
 ((0 ≤ n5) ∧
 (n5 < m1) ∧
 aE B1 fun k7 k8 =>
 mC M6 k7 (k8 + ((Int.toNat n5) * 3)) fun n9 lE ig =>
 aX M6 qO fun gJ mZ =>
 F0 mZ gJ (iV n9) (iV lE) (iV ig) fun fL =>
 rI fL gJ 0 fun jH =>
 aP (jH == 0)
 (rI fL gJ 1 fun lQ =>
 (0 ≤ lQ) ∧
 (lQ < m3) ∧
 aE B3 fun jW iU =>
 rP fL jW (iU + (Int.toNat lQ)) fun C2 =>
 aa Tryz.prog 235 #[(.pointer C2), (.agg #[(iV x0), (iV n5), (iV 0)])] fL (fun GK mD =>
 (GK = (.tuple #[])) ∧
 ∃ mX : Nat, (mX < k3) ∧
 I1 mX [(iV (IntKind.wrap .i64 (n5 + 1)))] mD) Kp)
 (aP (jH == 1)
 (rI fL gJ 1 fun lR =>
 (0 ≤ lR) ∧
 (lR < m3) ∧
 aE B3 fun pM lP =>
 rP fL pM (lP + (Int.toNat lR)) fun TT =>
 rI fL gJ 2 fun xI =>
 (0 ≤ xI) ∧
 (xI < m2) ∧
 aE B2 fun l9 qR =>
 rI fL l9 (qR + (Int.toNat xI)) fun n32 =>
 aa Tryz.prog 236 #[(.pointer TT), (.agg #[(iV x0), (iV n5), (iV n32)])] fL (fun v33 m5 =>
 (v33 = (.tuple #[])) ∧
 ∃ wB : Nat, (wB < k3) ∧
 I1 wB [(iV (IntKind.wrap .i64 (n5 + 1)))] m5) Kp)
 (∃ BV : Nat, (BV < k3) ∧
 I1 BV [(iV (IntKind.wrap .i64 (n5 + 1)))] fL)))
 (K (.tuple #[]) M6)) :
 aa Tryz.prog 207 #[.int .i64 x0, .slice B1 m1 c1, .slice B2 m2 c2, .slice B3 m3 c3] M K Kp := vw [(2000000, .loop [(12, .c (.int .i64))]), (7, .bS [0, 0, 2, 7, 15, 0, 0, 0, 0, 256, 896, 1920, 4064, 8191] (sy [0, 1, 5, 6, 7, 8, 2, 3, 4, 9, 10, 11, 12, 13] .done))] Tryz.func207 h
theorem uJ {zq : Int} {zu : Int} {fD : Int} {B1 : Option Addr} {m1 c1 : Nat} (h :
aX M (cl [(iV zq), (iV zu), (iV fD)] 165) fun k1 M2 =>
rI M2 k1 0 fun n3 =>
aP (n3 == 0)
 (rI M2 k1 1 fun n4 =>
 (0 ≤ n4) ∧
 (n4 < m1) ∧
 aE B1 fun k5 k6 =>
 rP M2 k5 (k6 + (Int.toNat n4)) fun A7 =>
 aa Tryz.prog 248 #[(.pointer A7)] M2 (fun v8 M9 =>
 c7 (some v8) fun t10 =>
 K (.bool t10) M9) Kp)
 (aP (n3 == 1)
 (rI M2 k1 1 fun ig =>
 (0 ≤ ig) ∧
 (ig < m1) ∧
 aE B1 fun gJ cX =>
 rP M2 gJ (cX + (Int.toNat ig)) fun qQ =>
 aa Tryz.prog 249 #[(.pointer qQ)] M2 (fun C3 fL =>
 c7 (some C3) fun t17 =>
 K (.bool t17) fL) Kp)
 (K (.bool false) M2))) :
 aa Tryz.prog 234 #[.agg #[.int .i64 zq, .int .i64 zu, .int .i64 fD], .slice B1 m1 c1] M K Kp := vw [] Tryz.func234 h
theorem zw {x0 : Int} {B1 : Option Addr} {m1 c1 : Nat} (h :
∃ I1 : IT, (∃ k2, I1 k2 [(iV 0)] M) ∧
∀ (k3 : Nat) (_ : Nat → Value) (n5 : Int) (M6 : Mem), (I1 k3 [(iV n5)] M6) → aP (decide (n5 < m1))
 ((0 ≤ n5) ∧
 (n5 < m1) ∧
 aE B1 fun k7 k8 =>
 rP M6 k7 (k8 + (Int.toNat n5)) fun A9 =>
 aa Tryz.prog 253 #[(.pointer A9), (iV x0)] M6 (fun v10 lC =>
 (v10 = (.tuple #[])) ∧
 ∃ gJ : Nat, (gJ < k3) ∧
 I1 gJ [(iV (IntKind.wrap .i64 (n5 + 1)))] lC) Kp)
 (K (.tuple #[]) M6)) :
 aa Tryz.prog 252 #[.int .i64 x0, .slice B1 m1 c1] M K Kp := vw [(2000000, .loop [(8, .c (.int .i64))])] Tryz.func252 h
end Go.Proofs
namespace Go.Proofs
open Go.AF
set_option maxRecDepth 100000
set_option maxHeartbeats 1000000
attribute [local irreducible] aI c7 fm cy aB eN aE aM aX bk bJ aP
structure oy where
 way : Int
 ch : Int
 bS : Int
 deriving DecidableEq
def ij : hU oy := ⟨3, fun w => [.int .i64 w.way, .int .i64 w.ch, .int .i64 w.bS], fun _ => rfl, fun w v hv => by
 simp only [List.mem_cons, List.not_mem_nil, or_false] at hv; obtain rfl | rfl | rfl := hv <;> rfl⟩
def oy.Ok (n : Nat) (c : oy) : Prop := 0 ≤ c.way ∧ c.way ≤ 2 ∧ (c.way ≠ 2 → 0 ≤ c.ch ∧ c.ch < n ∧ 0 ≤ c.bS ∧ c.bS < 8)
instance (n : Nat) (c : oy) : Decidable (c.Ok n) := by unfold oy.Ok; infer_instance
def dO (cs : List aV) (k : Int) : aV := cs.getD k.toNat ⟨0, [], [], [], false⟩
def can (cs : List aV) (c : oy) : Bool := if c.way = 0 then (dO cs c.ch).uz else if c.way = 1 then (dO cs c.ch).uy else false
def MS (cases : List oy) (cs : List aV) (j : Nat) : Bool := match cases[j]? with
 | some c => can cs c
 | none => false
def C4 (cases : List oy) (cs : List aV) (i : Nat) : List Int := ((List.range i).filter (MS cases cs)).map Int.ofNat
def enabled (cases : List oy) (cs : List aV) : List Int := C4 cases cs cases.length
theorem EI (cases : List oy) (cs : List aV) (i : Nat) : (C4 cases cs i).length ≤ i := by
 unfold C4; rw [List.length_map]; exact Nat.le_trans (List.length_filter_le ..) (by simp)
theorem BW {cases : List oy} {cs : List aV} {i : Nat} {c : oy} (h : cases[i]? = some c) : C4 cases cs (i + 1) = C4 cases cs i ++ (if can cs c then [(i : Int)] else []) := by
 unfold C4
 rw [List.range_succ, List.filter_append, List.map_append]
 simp only [List.filter_cons, MS, h, List.filter_nil]
 split <;> simp_all
def els (cases : List oy) : Option Nat := cases.findIdx? (fun c => c.way == 2)
def kG (g : Int) (fT : List Int) (i : Nat) (c : oy) (cs : List aV) : List aV :=
 if c.way = 0 then cs.set c.ch.toNat { dO cs c.ch with eH := (dO cs c.ch).eH ++ [⟨g, i, 0⟩] }
 else if c.way = 1 then cs.set c.ch.toNat { dO cs c.ch with snd := (dO cs c.ch).snd ++ [⟨g, i, fT.getD c.bS.toNat 0⟩] } else cs
def eE (g : Int) (fT : List Int) (cases : List oy) (cs : List aV) : Nat → List aV
 | 0 => cs
 | i + 1 => match cases[i]? with
  | some c => kG g fT i c (eE g fT cases cs i)
  | none => eE g fT cases cs i
theorem EJ (g : Int) (fT : List Int) (i : Nat) (c : oy) (cs : List aV) : (kG g fT i c cs).length = cs.length := by
 unfold kG; split
 ·simp
 ·split <;> simp
theorem lF (g : Int) (fT : List Int) (cases : List oy) (cs : List aV) : ∀ i, (eE g fT cases cs i).length = cs.length
 | 0 => rfl
 | i + 1 => by
  unfold eE; split
  ·rw [EJ, lF _ _ _ _ i]
  ·exact lF _ _ _ _ i
theorem mem_set {α : Type} {l : List α} {i : Nat} {x y : α} (h : y ∈ l.set i x) : y ∈ l ∨ y = x := by
 rcases List.mem_or_eq_of_mem_set h with h | h
 ·exact .inl h
 ·exact .inr h
theorem uK {cs : List aV} {k : Int} (h0 : 0 ≤ k) (h : k < cs.length) : dO cs k ∈ cs := by
 unfold dO; rw [List.getD_eq_getElem?_getD, List.getElem?_eq_getElem (by omega)]; exact List.getElem_mem _
theorem AY {g : Int} {fT : List Int} {i : Nat} {c : oy} {cs : List aV} {N : Nat} (hs : ∀ x ∈ cs, x.Small N) (hc : c.Ok cs.length) : ∀ x ∈ kG g fT i c cs, x.Small (N + 1) := by
 obtain ⟨_, _, kk⟩ := hc
 intro x hm
 unfold kG at hm
 split at hm
 ·rename_i hw
  have hx := hs _ (uK (kk (by omega)).1 (kk (by omega)).2.1)
  rcases mem_set hm with h | rfl
  ·exact (hs x h).mono (by omega)
  ·exact hx.wr _
 split at hm
 ·rename_i hw
  have hx := hs _ (uK (kk (by omega)).1 (kk (by omega)).2.1)
  rcases mem_set hm with h | rfl
  ·exact (hs x h).mono (by omega)
  ·exact hx.ws _
 ·exact (hs x hm).mono (by omega)
theorem nV {g : Int} {fT : List Int} {cases : List oy} {cs : List aV} {N : Nat} (hs : ∀ x ∈ cs, x.Small N) (hok : ∀ c ∈ cases, c.Ok cs.length) : ∀ i, ∀ x ∈ eE g fT cases cs i, x.Small (N + i)
 | 0 => hs
 | i + 1 => by
  unfold eE; split
  ·rename_i c hc
   exact AY (nV hs hok i) (by rw [lF]; exact hok c (List.mem_of_getElem? hc))
  ·exact fun x hx => (nV hs hok i x hx).mono (by omega)
section
variable {R : Mem} {L L' : List HP} {M : Mem} {K : Value → Mem → Prop} {Kp : List PanicEntry → Mem → Prop} {bs : List Nat} {cs : List aV}
theorem dX : bj Tryz.prog 36 3 1 8 [.int .i64 0] := bj.mk' (zv := .int .i64 0) (by kernel_rfl) (by kernel_rfl) rfl (by omega)
theorem MT {cases : List oy} {i : Nat} {c : oy} (hc : cases[i]? = some c) (hw : c.way = 2) (hp : ∀ j c, j < i → cases[j]? = some c → c.way ≠ 2) : els cases = some i := by
 obtain ⟨hi, e⟩ := List.getElem?_eq_some_iff.1 hc
 refine List.findIdx?_eq_some_iff_getElem.2 ⟨hi, by rw [e]; simpa using hw, fun j hj => ?_⟩
 have := hp j _ hj (List.getElem?_eq_getElem (by omega))
 simpa using this
theorem MU {cases : List oy} (hp : ∀ j c, j < cases.length → cases[j]? = some c → c.way ≠ 2) : els cases = none := by
 refine List.findIdx?_eq_none_iff.2 fun c hc => ?_
 obtain ⟨j, hj, e⟩ := List.getElem_of_mem hc
 have := hp j c hj (by rw [← e]; exact List.getElem?_eq_getElem hj)
 simpa using this
theorem GP {B : Option Addr} {m cc : Nat} {cases : List oy} (h : Hp R L M) (hB : Src R L B (ij.cells cases)) (hm : m = cases.length) (hb : cases.length ≤ 1000000000)
  (k : ∀ M', Hp R L M' → K (.tuple #[.int .i64 (match els cases with | some i => (i : Int) | none => 0), .bool (els cases).isSome]) M') :
  aa Tryz.prog 206 #[.slice B m cc] M K Kp := by
 subst hm
 refine AW ⟨fun d ws M => ∃ i : Nat, ws = [.int .i64 (i : Int)] ∧ d = cases.length - i ∧ i ≤ cases.length ∧ (∀ j c, j < i → cases[j]? = some c → c.way ≠ 2) ∧ Hp R L M, ⟨_, 0, rfl, rfl, by omega, fun j c hj => by omega, h⟩, ?_⟩
 clear h
 rintro d _ ii M ⟨i, he, hd, hi, hp, h⟩
 simp only [List.cons.injEq, Value.int.injEq, and_true, true_and] at he
 subst he
 refine aN.2 ⟨fun hlt => ?_, fun hge => ?_⟩
 ·obtain ⟨c, hc⟩ := aU (l := cases) (i := i) (by omega)
  obtain ⟨b, o, rfl⟩ := hB.g8 h (by omega) (by decide)
  repeat (first|(refine aj h ?_;clear h;intro kb M h)|(refine au h ?_;clear h;intro M h)|refine St.to h ?_|(apply Exists.intro;(repeat apply Exists.intro);refine And.intro rfl ?_)|refine av ?_|refine ai ?_|refine ae ?_)
  simp only [Int.toNat_natCast]
  refine be (hB.at h (i := i) (j := 0) hc rfl rfl) ?_
  refine be (hB.at h (i := i) (j := 1) hc rfl rfl) ?_
  refine be (hB.at h (i := i) (j := 2) hc rfl rfl) ?_
  repeat (first|(refine aj h ?_;clear h;intro kb M h)|(refine au h ?_;clear h;intro M h)|refine St.to h ?_|(apply Exists.intro;(repeat apply Exists.intro);refine And.intro rfl ?_)|refine av ?_|refine ai ?_|refine ae ?_)
  refine aY.2 ⟨fun e => ?_, fun e => ?_⟩
  ·have := MT hc e hp
   rw [this] at k
   exact k _ h.wh
  ·rw [aW (by omega)]
   refine ⟨cases.length - (i + 1), by omega, i + 1, rfl, rfl, by omega, fun j c' hj F6 => ?_, h.wh⟩
   rcases Nat.lt_or_ge j i with jV | jV
   ·exact hp j c' jV F6
   ·obtain rfl : j = i := by omega
    rw [hc] at F6; cases F6; exact e
 ·obtain rfl : i = cases.length := by omega
  rw [MU hp] at k
  exact k _ h
theorem Kf {c : oy} {B : Option Addr} {m cc : Nat} (h : Hp R L M) [o : fS bK L bs cs L'] (hB : Src R L' B (mB.cells bs)) (hm : m = bs.length) (hl : bs.length = cs.length) (hc : c.way ≠ 2 → 0 ≤ c.ch ∧ c.ch < cs.length) (GQ : 0 ≤ c.way ∧ c.way ≤ 2)
  (k : ∀ M', Hp R (bn bK bs cs :: L') M' → K (.bool (can cs c)) M') : aa Tryz.prog 234 #[.agg #[.int .i64 c.way, .int .i64 c.ch, .int .i64 c.bS], .slice B m cc] M K Kp := by
 subst hm
 replace h := h.nU bK
 obtain ⟨way, ch, bS⟩ := c
 dsimp only at *
 by_cases hwe : way = 2
 ·subst hwe
  refine uJ ?_
  repeat (first|(refine aj h ?_;clear h;intro kb M h)|(refine au h ?_;clear h;intro M h)|refine St.to h ?_|(apply Exists.intro;(repeat apply Exists.intro);refine And.intro rfl ?_)|refine av ?_|refine ai ?_|refine ae ?_)
  exact k _ h.wh
 replace hc := hc hwe
 obtain ⟨q, rfl⟩ := Int.eq_ofNat_of_zero_le hc.1
 obtain ⟨x, hx⟩ := aU (l := cs) (i := q) (by omega)
 obtain ⟨b, hb⟩ := aU (l := bs) (i := q) (by omega)
 have hxx : dO cs (q : Int) = x := by simp [dO, hx]
 obtain ⟨b0, o0, rfl⟩ := hB.cons.g8 h (by omega) (by decide)
 simp only [can, hxx] at k
 refine uJ ?_
 repeat (first|(refine aj h ?_;clear h;intro kb M h)|(refine au h ?_;clear h;intro M h)|refine St.to h ?_|(apply Exists.intro;(repeat apply Exists.intro);refine And.intro rfl ?_)|refine av ?_|refine ai ?_|refine ae ?_)
 refine aY.2 ⟨fun e => ?_, fun e => ?_⟩
 ·rw [if_pos e] at k
  repeat (first|(refine aj h ?_;clear h;intro kb M h)|(refine au h ?_;clear h;intro M h)|refine St.to h ?_|(apply Exists.intro;(repeat apply Exists.intro);refine And.intro rfl ?_)|refine av ?_|refine ai ?_|refine ae ?_)
  refine mU (hB.cons.cons.at h (i := q) (j := 0) hb rfl (by simp [mB])) ?_
  replace h := h.dg bK hb hx
  refine AV h ?_
  repeat (first|(refine aj h ?_;clear h;intro kb M h)|(refine au h ?_;clear h;intro M h)|refine St.to h ?_|(apply Exists.intro;(repeat apply Exists.intro);refine And.intro rfl ?_)|refine av ?_|refine ai ?_|refine ae ?_)
  exact k _ (h.wE bK b hb hx).b7
 rw [if_neg e] at k
 refine aY.2 ⟨fun e => ?_, fun e => ?_⟩
 ·rw [if_pos e] at k
  repeat (first|(refine aj h ?_;clear h;intro kb M h)|(refine au h ?_;clear h;intro M h)|refine St.to h ?_|(apply Exists.intro;(repeat apply Exists.intro);refine And.intro rfl ?_)|refine av ?_|refine ai ?_|refine ae ?_)
  refine mU (hB.cons.cons.at h (i := q) (j := 0) hb rfl (by simp [mB])) ?_
  replace h := h.dg bK hb hx
  refine AU h ?_
  repeat (first|(refine aj h ?_;clear h;intro kb M h)|(refine au h ?_;clear h;intro M h)|refine St.to h ?_|(apply Exists.intro;(repeat apply Exists.intro);refine And.intro rfl ?_)|refine av ?_|refine ai ?_|refine ae ?_)
  exact k _ (h.wE bK b hb hx).b7
 ·rw [if_neg e] at k
  exact k _ h.wh
theorem AZ {B A : Option Addr} {m cc n ca : Nat} {cases : List oy} (h : Hp R L M) [o : fS bK L bs cs L'] (hB : Src R L' B (ij.cells cases)) (hA : Src R L' A (mB.cells bs)) (hm : m = cases.length) (hn : n = bs.length)
  (hb : cases.length ≤ 1000000000) (hl : bs.length = cs.length) (hok : ∀ c ∈ cases, c.Ok cs.length)
  (k : ∀ A' c' M', Hp R (bE bl 3 A' c' (enabled cases cs) :: bn bK bs cs :: L') M' → K (.slice A' (enabled cases cs).length c') M') :
  aa Tryz.prog 205 #[.slice B m cc, .slice A n ca] M K Kp := by
 subst hm
 replace h := h.nU bK
 refine wF ⟨fun d ws M => ∃ (i : Nat) (X : Option Addr) (cx : Nat), ws = [.slice X (C4 cases cs i).length cx, .int .i64 (i : Int)] ∧ d = cases.length - i ∧ i ≤ cases.length ∧ Hp R (bE bl 3 X cx (C4 cases cs i) :: bn bK bs cs :: L') M, ⟨_, 0, none, 0, rfl, rfl, by omega, h.bY bl _⟩, ?_⟩
 clear h
 rintro d _ X n1 cx ii M ⟨i, _, _, he, hd, hi, h⟩
 simp only [List.cons.injEq, Value.int.injEq, Value.slice.injEq, and_true, true_and] at he
 obtain ⟨⟨rfl, rfl, rfl⟩, rfl⟩ := he
 refine aN.2 ⟨fun hlt => ?_, fun hge => ?_⟩
 ·obtain ⟨c, hc⟩ := aU (l := cases) (i := i) (by omega)
  obtain ⟨b, o, rfl⟩ := hB.cons.cons.g8 h (by omega) (by decide)
  repeat (first|(refine aj h ?_;clear h;intro kb M h)|(refine au h ?_;clear h;intro M h)|refine St.to h ?_|(apply Exists.intro;(repeat apply Exists.intro);refine And.intro rfl ?_)|refine av ?_|refine ai ?_|refine ae ?_)
  simp only [Int.toNat_natCast]
  refine be (hB.cons.cons.at h (i := i) (j := 0) hc rfl rfl) ?_
  refine be (hB.cons.cons.at h (i := i) (j := 1) hc rfl rfl) ?_
  refine be (hB.cons.cons.at h (i := i) (j := 2) hc rfl rfl) ?_
  repeat (first|(refine aj h ?_;clear h;intro kb M h)|(refine au h ?_;clear h;intro M h)|refine St.to h ?_|(apply Exists.intro;(repeat apply Exists.intro);refine And.intro rfl ?_)|refine av ?_|refine ai ?_|refine ae ?_)
  have hco := hok c (List.mem_of_getElem? hc)
  obtain ⟨w1, w2, k1⟩ := hco
  refine Kf (c := c) h hA.cons.cons hn hl (fun e => ⟨(k1 e).1, (k1 e).2.1⟩) ⟨w1, w2⟩ ?_
  clear h
  intro M h
  repeat (first|(refine aj h ?_;clear h;intro kb M h)|(refine au h ?_;clear h;intro M h)|refine St.to h ?_|(apply Exists.intro;(repeat apply Exists.intro);refine And.intro rfl ?_)|refine av ?_|refine ai ?_|refine ae ?_)
  have hlen := EI cases cs i
  refine gL.2 ⟨fun hb => ?_, fun hb => ?_⟩
  ·have e := BW (cs := cs) hc
   rw [if_pos hb] at e
   repeat (first|(refine aj h ?_;clear h;intro kb M h)|(refine au h ?_;clear h;intro M h)|refine St.to h ?_|(apply Exists.intro;(repeat apply Exists.intro);refine And.intro rfl ?_)|refine av ?_|refine ai ?_|refine ae ?_)
   refine h.aT dX [(i : Int)] rfl rfl (by simp; omega) ?_
   clear h
   intro A' c' M h
   repeat (first|(refine aj h ?_;clear h;intro kb M h)|(refine au h ?_;clear h;intro M h)|refine St.to h ?_|(apply Exists.intro;(repeat apply Exists.intro);refine And.intro rfl ?_)|refine av ?_|refine ai ?_|refine ae ?_)
   rw [aW (by omega)]
   rw [← e] at h
   refine ⟨cases.length - (i + 1), by omega, i + 1, A', c', ?_, rfl, by omega, h.b7⟩
   rw [e]
  ·have e := BW (cs := cs) hc
   rw [if_neg (by simp [hb]), List.append_nil] at e
   rw [aW (by omega)]
   refine ⟨cases.length - (i + 1), by omega, i + 1, X, cx, by rw [e], rfl, by omega, ?_⟩
   rw [e]; exact h.sub br
 ·obtain rfl : i = cases.length := by omega
  exact k _ _ _ h
theorem EK {g : Int} {A : Option Addr} {n ca : Nat} (h : Hp R L M) [o : fS bK L bs cs L'] (hA : Src R L' A (mB.cells bs)) (hn : n = bs.length) (hb : bs.length ≤ 1000000000) (hl : bs.length = cs.length) (hs : ∀ c ∈ cs, c.Small 1000000000)
  (k : ∀ M', Hp R (bn bK bs (cs.map (·.drop g)) :: L') M' → K (.tuple #[]) M') :
  aa Tryz.prog 252 #[.int .i64 g, .slice A n ca] M K Kp := by
 subst hn
 replace h := h.nU bK
 refine zw ⟨fun d ws M => ∃ (i : Nat), ws = [.int .i64 (i : Int)] ∧ d = bs.length - i ∧ i ≤ bs.length ∧ Hp R (bn bK bs ((cs.take i).map (·.drop g) ++ cs.drop i) :: L') M, ⟨_, 0, rfl, rfl, by omega, h⟩, ?_⟩
 clear h
 rintro d _ ii M ⟨i, he, hd, hi, h⟩
 simp only [List.cons.injEq, Value.int.injEq, and_true, true_and] at he
 subst he
 refine aN.2 ⟨fun hlt => ?_, fun hge => ?_⟩
 ·obtain ⟨c, hc⟩ := aU (l := cs) (i := i) (by omega)
  obtain ⟨b, za⟩ := aU (l := bs) (i := i) (by omega)
  obtain ⟨b0, o0, rfl⟩ := hA.cons.g8 h (by omega) (by decide)
  have II : ((cs.take i).map (·.drop g) ++ cs.drop i)[i]? = some c := by
   rw [List.getElem?_append_right (by simp; omega)]; simp [List.length_take, Nat.min_eq_left (show i ≤ cs.length by omega), hc]
  repeat (first|(refine aj h ?_;clear h;intro kb M h)|(refine au h ?_;clear h;intro M h)|refine St.to h ?_|(apply Exists.intro;(repeat apply Exists.intro);refine And.intro rfl ?_)|refine av ?_|refine ai ?_|refine ae ?_)
  refine mU (hA.cons.at h (i := i) (j := 0) za rfl (by simp [mB])) ?_
  replace h := h.dg bK za II
  refine GN h (hs c (List.mem_of_getElem? hc)) ?_
  clear h
  intro M h
  repeat (first|(refine aj h ?_;clear h;intro kb M h)|(refine au h ?_;clear h;intro M h)|refine St.to h ?_|(apply Exists.intro;(repeat apply Exists.intro);refine And.intro rfl ?_)|refine av ?_|refine ai ?_|refine ae ?_)
  rw [aW (by omega)]
  refine ⟨bs.length - (i + 1), by omega, i + 1, rfl, rfl, by omega, ?_⟩
  have := (h.dW bK b za (by simp; omega)).b7 (T := L')
  rw [List.set_append_right _ _ (by simp; omega)] at this
  rw [eo hc, List.map_append, List.append_assoc]
  have e : (cs.drop i).set (i - ((cs.take i).map (·.drop g)).length) (c.drop g) = [c.drop g] ++ cs.drop (i + 1) := by
   rw [show i - ((cs.take i).map (·.drop g)).length = 0 from by simp; omega]
   obtain ⟨hi', e'⟩ := List.getElem?_eq_some_iff.1 hc
   rw [List.drop_eq_getElem_cons hi']; rfl
  rw [e] at this
  exact this
 ·obtain rfl : i = bs.length := by omega
  rw [hl, List.take_length, List.drop_length, List.append_nil] at h
  exact k _ h
theorem GR {g : Int} {B A D : Option Addr} {m cc n ca r cr : Nat} {cases : List oy} {fT : List Int} (h : Hp R L M) [o : fS bK L bs cs L'] (hB : Src R L' B (ij.cells cases)) (hA : Src R L' A (mB.cells bs)) (hD : Src R L' D (bl.cells fT))
  (hm : m = cases.length) (hn : n = bs.length) (hr : r = 8) (hr8 : fT.length = 8) (hb : cases.length ≤ 1000000) (hl : bs.length = cs.length) (hok : ∀ c ∈ cases, c.Ok cs.length) (hs : ∀ c ∈ cs, c.Small 1000000)
  (k : ∀ M', Hp R (bn bK bs (eE g fT cases cs cases.length) :: L') M' → K (.tuple #[]) M') :
  aa Tryz.prog 207 #[.int .i64 g, .slice B m cc, .slice D r cr, .slice A n ca] M K Kp := by
 subst hm
 subst hn
 subst hr
 replace h := h.nU bK
 refine AX ⟨fun d ws M => ∃ (i : Nat), ws = [.int .i64 (i : Int)] ∧ d = cases.length - i ∧ i ≤ cases.length ∧ Hp R (bn bK bs (eE g fT cases cs i) :: L') M, ⟨_, 0, rfl, rfl, by omega, h⟩, ?_⟩
 clear h
 rintro d _ ii M ⟨i, he, hd, hi, h⟩
 simp only [List.cons.injEq, Value.int.injEq, and_true, true_and] at he
 subst he
 refine aN.2 ⟨fun hlt => ?_, fun hge => ?_⟩
 ·obtain ⟨c, hc⟩ := aU (l := cases) (i := i) (by omega)
  obtain ⟨w1, w2, kk⟩ := hok c (List.mem_of_getElem? hc)
  obtain ⟨b, o, rfl⟩ := hB.cons.g8 h (by omega) (by decide)
  by_cases hwe : c.way = 2
  ·have e : eE g fT cases cs (i + 1) = eE g fT cases cs i := by
    rw [eE, hc]; dsimp only; unfold kG; rw [if_neg (by omega), if_neg (by omega)]
   repeat (first|(refine aj h ?_;clear h;intro kb M h)|(refine au h ?_;clear h;intro M h)|refine St.to h ?_|(apply Exists.intro;(repeat apply Exists.intro);refine And.intro rfl ?_)|refine av ?_|refine ai ?_|refine ae ?_)
   simp only [Int.toNat_natCast]
   refine be (hB.cons.at h (i := i) (j := 0) hc rfl rfl) ?_
   refine be (hB.cons.at h (i := i) (j := 1) hc rfl rfl) ?_
   refine be (hB.cons.at h (i := i) (j := 2) hc rfl rfl) ?_
   repeat (first|(refine aj h ?_;clear h;intro kb M h)|(refine au h ?_;clear h;intro M h)|refine St.to h ?_|(apply Exists.intro;(repeat apply Exists.intro);refine And.intro rfl ?_)|refine av ?_|refine ai ?_|refine ae ?_)
   refine aY.2 ⟨fun e => by omega, fun _ => ?_⟩
   refine aY.2 ⟨fun e => by omega, fun _ => ?_⟩
   rw [aW (by omega)]
   refine ⟨cases.length - (i + 1), by omega, i + 1, rfl, rfl, by omega, ?_⟩
   rw [e]
   exact h.wh
  obtain ⟨k1, k2, k3, k4⟩ := kk hwe
  obtain ⟨b2, o2, rfl⟩ := hA.cons.g8 h (by omega) (by decide)
  obtain ⟨b3, o3, rfl⟩ := hD.cons.g8 h (by omega) (by decide)
  have hlen := lF g fT cases cs i
  have IJ := nV (g := g) (fT := fT) hs hok i
  have e : eE g fT cases cs (i + 1) = kG g fT i c (eE g fT cases cs i) := by rw [eE, hc]
  generalize hw : eE g fT cases cs i = ws at h hlen IJ e
  obtain ⟨way, ch, bS⟩ := c
  dsimp only at k1 k2 k3 k4
  obtain ⟨q, rfl⟩ := Int.eq_ofNat_of_zero_le k1
  obtain ⟨q2, rfl⟩ := Int.eq_ofNat_of_zero_le k3
  obtain ⟨b1, za⟩ := aU (l := bs) (i := q) (by omega)
  obtain ⟨x, hx⟩ := aU (l := ws) (i := q) (by omega)
  obtain ⟨v, hv⟩ := aU (l := fT) (i := q2) (by omega)
  have hxx : dO ws (q : Int) = x := by simp [dO, hx]
  have hvv : fT.getD q2 0 = v := by simp [hv]
  have hxs := IJ x (List.mem_of_getElem? hx)
  simp only [kG, hxx, Int.toNat_natCast, hvv] at e
  repeat (first|(refine aj h ?_;clear h;intro kb M h)|(refine au h ?_;clear h;intro M h)|refine St.to h ?_|(apply Exists.intro;(repeat apply Exists.intro);refine And.intro rfl ?_)|refine av ?_|refine ai ?_|refine ae ?_)
  simp only [Int.toNat_natCast]
  refine be (hB.cons.at h (i := i) (j := 0) hc rfl rfl) ?_
  refine be (hB.cons.at h (i := i) (j := 1) hc rfl rfl) ?_
  refine be (hB.cons.at h (i := i) (j := 2) hc rfl rfl) ?_
  dsimp only
  repeat (first|(refine aj h ?_;clear h;intro kb M h)|(refine au h ?_;clear h;intro M h)|refine St.to h ?_|(apply Exists.intro;(repeat apply Exists.intro);refine And.intro rfl ?_)|refine av ?_|refine ai ?_|refine ae ?_)
  refine aY.2 ⟨fun hw => ?_, fun hw => ?_⟩
  ·rw [if_pos hw] at e
   repeat (first|(refine aj h ?_;clear h;intro kb M h)|(refine au h ?_;clear h;intro M h)|refine St.to h ?_|(apply Exists.intro;(repeat apply Exists.intro);refine And.intro rfl ?_)|refine av ?_|refine ai ?_|refine ae ?_)
   refine mU (hA.cons.cons.at h (i := q) (j := 0) za rfl (by simp [mB])) ?_
   have PM := za
   replace h := h.pick (.there .here)
   replace h := h.dg bK za hx
   refine pQ (w := ⟨g, i, 0⟩) h (hxs.mono (by omega)) ?_
   clear h
   intro M h
   repeat (first|(refine aj h ?_;clear h;intro kb M h)|(refine au h ?_;clear h;intro M h)|refine St.to h ?_|(apply Exists.intro;(repeat apply Exists.intro);refine And.intro rfl ?_)|refine av ?_|refine ai ?_|refine ae ?_)
   rw [aW (by omega)]
   refine ⟨cases.length - (i + 1), by omega, i + 1, rfl, rfl, by omega, ?_⟩
   rw [e]
   exact (h.dW bK b1 za (by omega)).b7
  rw [if_neg hw] at e
  refine aY.2 ⟨fun hw => ?_, fun hw => ?_⟩
  ·rw [if_pos hw] at e
   repeat (first|(refine aj h ?_;clear h;intro kb M h)|(refine au h ?_;clear h;intro M h)|refine St.to h ?_|(apply Exists.intro;(repeat apply Exists.intro);refine And.intro rfl ?_)|refine av ?_|refine ai ?_|refine ae ?_)
   refine mU (hA.cons.cons.at h (i := q) (j := 0) za rfl (by simp [mB])) ?_
   repeat (first|(refine aj h ?_;clear h;intro kb M h)|(refine au h ?_;clear h;intro M h)|refine St.to h ?_|(apply Exists.intro;(repeat apply Exists.intro);refine And.intro rfl ?_)|refine av ?_|refine ai ?_|refine ae ?_)
   refine be (hD.cons.cons.at h (i := q2) (j := 0) hv rfl (by simp [bl])) ?_
   replace h := h.pick (.there .here)
   replace h := h.dg bK za hx
   refine pP (w := ⟨g, i, v⟩) h (hxs.mono (by omega)) ?_
   clear h
   intro M h
   repeat (first|(refine aj h ?_;clear h;intro kb M h)|(refine au h ?_;clear h;intro M h)|refine St.to h ?_|(apply Exists.intro;(repeat apply Exists.intro);refine And.intro rfl ?_)|refine av ?_|refine ai ?_|refine ae ?_)
   rw [aW (by omega)]
   refine ⟨cases.length - (i + 1), by omega, i + 1, rfl, rfl, by omega, ?_⟩
   rw [e]
   exact (h.dW bK b1 za (by omega)).b7
  ·rw [if_neg hw] at e
   rw [aW (by omega)]
   refine ⟨cases.length - (i + 1), by omega, i + 1, rfl, rfl, by omega, ?_⟩
   rw [e]
   exact h.wh
 ·obtain rfl : i = cases.length := by omega
  exact k _ h
end
end Go.Proofs
namespace Go.Proofs
open Go.AF
structure cI where
 op : Int
 a : Int
 b : Int
 c : Int
 deriving DecidableEq
def cI.zero : cI := ⟨0, 0, 0, 0⟩
def jm : hU cI := ⟨4, fun x => [.int .i64 x.op, .int .i64 x.a, .int .i64 x.b, .int .i64 x.c], fun _ => rfl, fun w v hv => by
 simp only [List.mem_cons, List.not_mem_nil, or_false] at hv; obtain rfl | rfl | rfl | rfl := hv <;> rfl⟩
structure gM where
 fn : Int
 pc : Int
 r : List Int
 rE : Int
 deriving DecidableEq
def gM.bS (f : gM) (q : Int) : Int := f.r.getD q.toNat 0
def gM.set (f : gM) (q v : Int) : gM := { f with r := (List.range 8).map fun i => if i = q.toNat then v else f.r.getD i 0 }
def gM.next (f : gM) : gM := { f with pc := f.pc + 1 }
def gM.begin (fn v : Int) : gM := ⟨fn, 0, [v, 0, 0, 0, 0, 0, 0, 0], 0⟩
def X0 (f : gM) : List Value := [.int .i64 f.fn, .int .i64 f.pc, .int .i64 (f.r.getD 0 0), .int .i64 (f.r.getD 1 0), .int .i64 (f.r.getD 2 0), .int .i64 (f.r.getD 3 0), .int .i64 (f.r.getD 4 0), .int .i64 (f.r.getD 5 0), .int .i64 (f.r.getD 6 0), .int .i64 (f.r.getD 7 0), .int .i64 f.rE]
def jB : hU gM := ⟨11, X0, fun _ => rfl, fun w v hv => by
 simp only [X0, List.mem_cons, List.not_mem_nil, or_false] at hv
 obtain rfl | rfl | rfl | rfl | rfl | rfl | rfl | rfl | rfl | rfl | rfl := hv <;> rfl⟩
theorem X1 {q : Int} (h0 : 0 ≤ q) (h8 : q < 8) : q = 0 ∨ q = 1 ∨ q = 2 ∨ q = 3 ∨ q = 4 ∨ q = 5 ∨ q = 6 ∨ q = 7 := by omega
theorem TU {f : gM} {q : Int} (h0 : 0 ≤ q) (h8 : q < 8) : (jB.f f)[2 + q.toNat]? = some (.int .i64 (f.bS q)) := by
 obtain rfl | rfl | rfl | rfl | rfl | rfl | rfl | rfl := X1 h0 h8 <;> rfl
theorem Qh {f : gM} {q v : Int} (h0 : 0 ≤ q) (h8 : q < 8) : (jB.f f).set (2 + q.toNat) (.int .i64 v) = jB.f (f.set q v) := by
 obtain rfl | rfl | rfl | rfl | rfl | rfl | rfl | rfl := X1 h0 h8 <;> rfl
theorem TV {f : gM} {v : Int} : (jB.f f).set 1 (.int .i64 v) = jB.f { f with pc := v } := rfl
def gM.pure (f : gM) (x : cI) : gM :=
 if x.op = 0 then f
 else if x.op = 1 then f.set x.a x.b
 else if x.op = 2 then f.set x.a (f.bS x.b)
 else if x.op = 3 then f.set x.a (IntKind.wrap .i64 (f.bS x.b + f.bS x.c))
 else if x.op = 4 then f.set x.a (IntKind.wrap .i64 (f.bS x.b - f.bS x.c))
 else if x.op = 5 then f.set x.a (IntKind.wrap .i64 (f.bS x.b * f.bS x.c))
 else if x.op = 6 then f.set x.a (if f.bS x.b < f.bS x.c then 1 else 0)
 else if x.op = 7 then { f with pc := x.a }
 else if f.bS x.a ≠ 0 then { f with pc := x.b } else f
def aZ (q : Int) : Prop := 0 ≤ q ∧ q < 8
instance (q : Int) : Decidable (aZ q) := by unfold aZ; infer_instance
def cI.cB (x : cI) : Prop :=
 (x.op ∈ [1, 8] → aZ x.a) ∧ (x.op = 2 → aZ x.a ∧ aZ x.b) ∧ (x.op ∈ [3, 4, 5, 6] → aZ x.a ∧ aZ x.b ∧ aZ x.c)
instance (x : cI) : Decidable x.cB := by unfold cI.cB; infer_instance
structure jr where
 st : Int
 fs : List gM
 wt : cI
 deriving DecidableEq
structure Lk where
 owner : Int
 waits : List Int
 deriving DecidableEq
structure bH where
 t : Int
 seq : Int
 id : Int
 deriving DecidableEq
def sU : hU bH := ⟨3, fun x => [.int .u64 x.t, .int .u64 x.seq, .int .i64 x.id], fun _ => rfl, fun w v hv => by
 simp only [List.mem_cons, List.not_mem_nil, or_false] at hv; obtain rfl | rfl | rfl := hv <;> rfl⟩
structure bZ where
 funcs : List (List cI)
 dx : List Int
 aK : Int
 cases : List oy
structure Wd where
 gs : List jr
 clock : Int
 aC : List aV
 aK : List Lk
 hl : List bH
 lG : Int
 out : List Int
 end_ : Int
 code : Int
 ready : List Int
 deriving DecidableEq
def aq (x : Wd) (g : Int) : jr := x.gs.getD g.toNat ⟨0, [], .zero⟩
def Wd.bF (x : Wd) (g : Int) (y : jr) : Wd := { x with gs := x.gs.set g.toNat y }
def jr.top (y : jr) : gM := y.fs.getD (y.fs.length - 1) ⟨0, 0, [], 0⟩
def jr.cO (y : jr) (f : gM) : jr := { y with fs := y.fs.set (y.fs.length - 1) f }
def Wd.bx (x : Wd) (g q v : Int) : Wd := x.bF g ((aq x g).cO ((aq x g).top.set q v))
def Wd.fA (x : Wd) (g : Int) : Wd := { x.bF g { aq x g with st := 1 } with ready := x.ready ++ [g] }
def Wd.block (x : Wd) (g : Int) (i : cI) : Wd := x.bF g { aq x g with st := 2, wt := i }
def Wd.leave (x : Wd) (g : Int) : Wd := { x with aC := x.aC.map fun c => c.drop g }
def Wd.gA (x : Wd) (g k : Int) : Wd := (x.bx g (aq x g).wt.c k).leave g
def pR (p : bZ) (k : Int) : oy := p.cases.getD k.toNat ⟨0, 0, 0⟩
def Wd.received (p : bZ) (x : Wd) (v : Wt) (some : Int) : Wd :=
 let i := (aq x v.g).wt
 (if i.op = 16 then ((x.bx v.g (pR p (i.a + v.cs)).bS v.v).gA v.g v.cs)
  else (x.bx v.g i.b v.v).bx v.g i.c some).fA v.g
def Wd.sent (x : Wd) (v : Wt) : Wd := (if (aq x v.g).wt.op = 16 then x.gA v.g v.cs else x).fA v.g
inductive Out (α : Type) where
 | on (a : α)
 | fk (code : Int) (x : Wd)
 | dh (l : List PanicEntry) (x : Wd)
def Wd.cu (x : Wd) (k : Int) (c : aV) : Wd := { x with aC := x.aC.set k.toNat c }
def Wd.put (p : bZ) (x : Wd) (k v : Int) : Out (Wd × Bool) :=
 let s := (dO x.aC k).send v
 if s.2.2.2 = 10 then .fk (-1) (x.cu k s.1)
 else .on ((if s.2.2.1 then (x.cu k s.1).received p s.2.1 1 else x.cu k s.1), s.2.2.2 == 0)
def Wd.get (x : Wd) (k : Int) : Wd × Int × Int × Bool :=
 let s := (dO x.aC k).recv
 let y := if s.2.2.2.2.1 then (x.cu k s.1).sent s.2.2.2.1 else x.cu k s.1
 if s.2.2.1 then (y, s.2.1, 1, true) else (y, 0, 0, s.2.2.2.2.2 == 0)
def bp (x : Wd) (g : Int) : Prop := 0 ≤ g ∧ g < x.gs.length ∧ 0 < (aq x g).fs.length ∧ (aq x g).fs.length ≤ 1000
instance (x : Wd) (g : Int) : Decidable (bp x g) := by unfold bp; infer_instance
def pS (p : bZ) (x : Wd) (v : Wt) : Prop := bp x v.g ∧
 if (aq x v.g).wt.op = 16 then 0 ≤ (aq x v.g).wt.a + v.cs ∧ (aq x v.g).wt.a + v.cs < p.cases.length ∧ p.cases.length ≤ 1000 ∧ aZ (pR p ((aq x v.g).wt.a + v.cs)).bS ∧ aZ (aq x v.g).wt.c
 else aZ (aq x v.g).wt.b ∧ aZ (aq x v.g).wt.c
instance (p : bZ) (x : Wd) (v : Wt) : Decidable (pS p x v) := by unfold pS; infer_instance
def xJ (x : Wd) (v : Wt) : Prop := bp x v.g ∧ ((aq x v.g).wt.op = 16 → aZ (aq x v.g).wt.c)
instance (x : Wd) (v : Wt) : Decidable (xJ x v) := by unfold xJ; infer_instance
def Wd.Sm (x : Wd) : Prop := (∀ c ∈ x.aC, c.Small 1000000) ∧ x.aC.length ≤ 1000 ∧ x.gs.length ≤ 1000 ∧ x.ready.length ≤ 1000000 ∧ x.out.length ≤ 1000000 ∧ (∀ l ∈ x.aK, l.waits.length ≤ 1000000) ∧ x.aK.length ≤ 1000 ∧ x.hl.length ≤ 1000000
instance (x : Wd) : Decidable x.Sm := by unfold Wd.Sm; infer_instance
theorem gN {x : Wd} {g : Int} {y : jr} (h0 : 0 ≤ g) (hg : g < x.gs.length) : aq (x.bF g y) g = y := by
 have : g.toNat < x.gs.length := by omega
 simp [aq, Wd.bF, this]
end Go.Proofs
namespace Go.Proofs
open Go.AF
set_option maxRecDepth 100000
variable {M : Mem} {K : Value → Mem → Prop} {Kp : List PanicEntry → Mem → Prop}
theorem tx {B0 : Option Addr} {m0 c0 : Nat} (h :
aP ((m0 : Int) == 0)
 (K (.pointer none) M)
 (((0 : Int) ≤ (IntKind.wrap .i64 ((m0 : Int) - 1))) ∧
 (((IntKind.wrap .i64 ((m0 : Int) - 1)) : Int) < (m0 : Int)) ∧
 aE B0 fun k1 k2 =>
 K (.pointer (some ⟨k1, (k2 + ((Int.toNat (IntKind.wrap .i64 ((m0 : Int) - 1))) * 11)), none⟩)) M)) :
 aa Tryz.prog 189 #[.slice B0 m0 c0] M K Kp := vw [] Tryz.func189 h
theorem oK {b0 o0 : Nat} {x1 : Int} (h :
aP (decide ((x1 : Int) < 0))
 (K (.int .i64 0) M)
 (aB (Mem.ld M ⟨b0, (o0 + 4), none⟩) fun A1 k2 k3 =>
 aP (decide ((x1 : Int) ≥ ((k2 : Nat) : Int)))
  (K (.int .i64 0) M)
  (aB (Mem.ld M ⟨b0, (o0 + 4), none⟩) fun A4 k5 k6 =>
  ((0 : Int) ≤ x1) ∧
  ((x1 : Int) < ((k5 : Nat) : Int)) ∧
  aE A4 fun k7 k8 =>
  cy (Mem.ld M ⟨k7, (k8 + (Int.toNat x1)), none⟩) fun A9 =>
  aE A9 fun fR eu =>
  aI (Mem.ld M ⟨fR, eu, none⟩) .i64 fun j5 =>
  K (.int .i64 j5) M))) :
 aa Tryz.prog 119 ([.pointer (some ⟨b0, o0, none⟩), .int .i64 x1] : List Value).toArray M K Kp :=
 cz (C := Cx) good [] Tryz.func119 (by kernel_rfl) (by kernel_rfl) h
theorem tB {b0 o0 : Nat} (h :
rI M b0 (o0 + 11) fun n1 =>
rI M b0 (o0 + 12) fun n2 =>
K (.tuple #[(iV n1), (iV n2)]) M) :
 aa Tryz.prog 28 #[.pointer (some ⟨b0, o0, none⟩)] M K Kp := vw [(1, .bS [0, 1, 3, 7, 0, 16, 48, 112, 15, 511] (sy [0, 1, 2, 4, 5, 6, 3, 8, 7, 9] .done))] Tryz.func28 h
theorem rF {b0 o0 : Nat} (h :
aI (Mem.ld M ⟨b0, (o0 + 11), none⟩) .i64 fun n1 =>
aP (n1 != 0)
 (K (.slice none 0 0) M)
 (aI (Mem.ld M ⟨b0, (o0 + 5), none⟩) .u64 fun n2 =>
 aM M ⟨b0, (o0 + 5), none⟩ (.int .u64 (IntKind.wrap .u64 (n2 + 1))) fun M3 =>
 aM M3 ⟨b0, (o0 + 13), none⟩ (.slice none 0 0) fun M4 =>
 aI (Mem.ld M4 ⟨b0, (o0 + 5), none⟩) .u64 fun n5 =>
 aa Tryz.prog 157 #[(.pointer (some ⟨b0, (o0 + 8), none⟩)), (.int .u64 n5)] M4 (fun v6 M7 =>
 aB (some v6) fun A8 k9 fR =>
 ∃ I11 : Nat → List Value → Mem → Prop, (∃ gJ : Nat, I11 gJ [(.int .i64 0)] M7) ∧
 ∀ cX : Nat, ∀ junk14 : Nat → Value, ∀ lB : Int, ∀ fL : Mem, (I11 cX [(.int .i64 lB)] fL) → aP (decide ((lB : Int) < ((k9 : Nat) : Int)))
  (((0 : Int) ≤ lB) ∧
  ((lB : Int) < ((k9 : Nat) : Int)) ∧
  aE A8 fun dn fM =>
  aI (Mem.ld fL ⟨dn, (fM + ((Int.toNat lB) * 3)), none⟩) .u64 fun xF =>
  aI (Mem.ld fL ⟨dn, ((fM + ((Int.toNat lB) * 3)) + 1), none⟩) .u64 fun eR =>
  aI (Mem.ld fL ⟨dn, ((fM + ((Int.toNat lB) * 3)) + 2), none⟩) .i64 fun oG =>
  aX fL (.cells #[(.int .u64 0), (.int .u64 0), (.int .i64 0)] 203 (0, 0)) fun gO mD =>
  aM mD ⟨gO, 0, none⟩ (.int .u64 xF) fun kF =>
  aM kF ⟨gO, (0 + 1), none⟩ (.int .u64 eR) fun DR =>
  aM DR ⟨gO, (0 + 2), none⟩ (.int .i64 oG) fun wG =>
  aI (Mem.ld wG ⟨gO, (0 + 2), none⟩) .i64 fun wH =>
  aa Tryz.prog 158 #[(.pointer (some ⟨b0, o0, none⟩)), (.int .i64 wH)] wG (fun Qg mY =>
  (Qg = (.tuple #[])) ∧
  ∃ l9 : Nat, (l9 < cX) ∧
  I11 l9 [(.int .i64 (IntKind.wrap .i64 (lB + 1)))] mY) Kp)
  (aB (Mem.ld fL ⟨b0, (o0 + 13), none⟩) fun MW yg vH =>
  K (.slice MW yg vH) fL)) Kp)) :
 aa Tryz.prog 120 ([.pointer (some ⟨b0, o0, none⟩)] : List Value).toArray M K Kp :=
 cz (C := Cx) good [(5, .bS [0, 1, 3, 0, 8, 24, 56, 127, 255, 0] (.step 0 (.step 1 (.step 2 (.step 3 (.step 4 (.step 5 (.step 9 (.step 6 (.step 7 (.step 8 .done))))))))))), (2000000, .loop [(29, .c (.int .i64))])] Tryz.func120 (by kernel_rfl) (by kernel_rfl) h
theorem zx {x0 : Int} {x1 : Int} (h :
aX M (cl [(iV x0), (iV 0), (iV x1), (iV 0), (iV 0), (iV 0), (iV 0), (iV 0), (iV 0), (iV 0), (iV 0)] 275) fun k1 M2 =>
K (.slice (some ⟨k1, 0, none⟩) 1 1) M2) :
 aa Tryz.prog 112 #[.int .i64 x0, .int .i64 x1] M K Kp := vw [] Tryz.func112 h
theorem C5  (h :
aX M (cl [(iV (-1)), (.slice none 0 0)] 307) fun k1 M2 =>
K (.pointer (some ⟨k1, 0, none⟩)) M2) :
 aa Tryz.prog 114 #[] M K Kp := vw [] Tryz.func114 h
theorem uL {b0 o0 : Nat} {x1 : Int} (h :
∃ I1 : Nat → List Value → Mem → Prop, (∃ k2 : Nat, I1 k2 [(.slice none 0 0)] M) ∧
∀ k3 : Nat, ∀ SE : Nat → Value, ∀ A5 : Option Addr, ∀ k6 : Nat, ∀ k7 : Nat, ∀ M8 : Mem, (I1 k3 [(.slice A5 k6 k7)] M8) → aB (Mem.ld M8 ⟨b0, o0, none⟩) fun A9 fR eu =>
aP (decide ((((fR : Nat) : Int) : Int) > 0))
 (aB (Mem.ld M8 ⟨b0, o0, none⟩) fun rz cX gT =>
 ((0 : Int) ≤ 0) ∧
 ((0 : Int) < ((cX : Nat) : Int)) ∧
 aE rz fun iF eX =>
 aI (Mem.ld M8 ⟨iF, (eX + 0), none⟩) .u64 fun jH =>
 aP (decide ((jH : Int) ≤ x1))
  (aa Tryz.prog 117 #[(.pointer (some ⟨b0, o0, none⟩)), (.int .i64 0)] M8 (fun C0 jq =>
  ∃ eR : Int, ∃ oG : Int, ∃ rq : Int, (C0 = (.agg #[(.int .u64 eR), (.int .u64 oG), (.int .i64 rq)])) ∧
  aX jq (.cells #[(.int .u64 eR), (.int .u64 oG), (.int .i64 rq)] 203 (0, 0)) fun iM kF =>
  bk Tryz.prog (Go.Builtin.append_ #[46, 46] 46 #[(.slice A5 k6 k7), (.slice (some ⟨iM, 0, none⟩) 1 1)]) kF (fun TW wG =>
  aB (some TW) fun SF js jX =>
  ∃ l9 : Nat, (l9 < k3) ∧
  I1 l9 [(.slice SF js jX)] wG) Kp) Kp)
  (K (.slice A5 k6 k7) M8))
 (K (.slice A5 k6 k7) M8)) :
 aa Tryz.prog 157 ([.pointer (some ⟨b0, o0, none⟩), .int .u64 x1] : List Value).toArray M K Kp :=
 cz (C := Cx) good [(2000000, .loop [(5, .c .sl)])] Tryz.func157 (by kernel_rfl) (by kernel_rfl) h
theorem rG {b0 o0 : Nat} {x1 : Int} (h :
rS M b0 (o0 + 4) fun A1 k2 k3 =>
((0 : Int) ≤ x1) ∧
((x1 : Int) < k2) ∧
aE A1 fun k4 k5 =>
rP M k4 (k5 + (Int.toNat x1)) fun A6 =>
aE A6 fun k7 k8 =>
sT M k7 k8 (iV 1) fun M9 =>
rS M9 b0 (o0 + 13) fun BR eu gJ =>
aX M9 (cl [(iV x1)] 3) fun cX kD =>
aA 36 BR eu gJ (some ⟨cX, 0, none⟩) 1 1 kD (fun C3 fL =>
aB (some C3) fun ID fM jW =>
sT fL b0 (o0 + 13) (.slice ID fM jW) fun uE =>
K (.tuple #[]) uE) Kp) :
 aa Tryz.prog 158 #[.pointer (some ⟨b0, o0, none⟩), .int .i64 x1] M K Kp := vw [] Tryz.func158 h
theorem rH {b0 o0 : Nat} {cL : Int} {cN : Int} {cR : Int} {eY : Int} (h :
aX M (cl [(iV cL), (iV cN), (iV cR), (iV eY)] 27) fun k1 M2 =>
rI M2 k1 0 fun n3 =>
aa Tryz.prog 203 #[] M2 (fun v4 M5 =>
eI M5 k1 0 n3 ∧
bk Tryz.prog (Go.Instr.lookup 361 v4 (iV n3) true) M5 (fun v6 M7 =>
∃ v8 : Value, ∃ t9 : Bool, (v6 = (.tuple #[v8, (.bool t9)])) ∧
eI M7 k1 0 n3 ∧
aP t9
 (rI M7 b0 (o0 + 1) fun lE =>
 sT M7 b0 (o0 + 1) (iV (IntKind.wrap .i64 (lE + 1))) fun lC =>
 bN lC k1 0 fun j5 j6 nx lB =>
 gZ Cx v8 [(.pointer (some ⟨b0, o0, none⟩)), (.agg #[(iV j5), (iV j6), (iV nx), (iV lB)])] lC (fun MX ox =>
 (MX = (.tuple #[])) ∧
 K (.bool t9) ox) Kp)
 (K (.bool t9) M7)) Kp) Kp) :
 aa Tryz.prog 190 #[.pointer (some ⟨b0, o0, none⟩), .agg #[.int .i64 cL, .int .i64 cN, .int .i64 cR, .int .i64 eY]] M K Kp := vw [(1, .bS [0, 0, 2, 7, 15, 31, 31, 63, 255] (sy [1] (.dD 2 (sy [0, 3, 4, 5, 6, 7, 8] .done))))] Tryz.func190 h
theorem oL {b0 o0 : Nat} {x1 : Int} {b2 o2 : Nat} {fE : Int} {fF : Int} {fG : Int} {fH : Int} (h :
aX M (cl [(iV fE), (iV fF), (iV fG), (iV fH)] 27) fun k1 M2 =>
bN M2 k1 0 fun n3 n4 n5 n6 =>
aa Tryz.prog 204 #[(.pointer (some ⟨b0, o0, none⟩)), (.agg #[(iV n3), (iV n4), (iV n5), (iV n6)])] M2 (fun v7 M8 =>
aB (some v7) fun A9 fR eu =>
rS M8 b0 (o0 + 6) fun rz cX gT =>
aa Tryz.prog 205 #[(.slice A9 fR eu), (.slice rz cX gT)] M8 (fun C3 fL =>
aB (some C3) fun ID fM jW =>
aP ((fM : Int) == 0)
 (rI fL b2 (o2 + 1) fun eR =>
 sT fL b2 (o2 + 1) (iV (IntKind.wrap .i64 (eR + 1))) fun kj =>
 aa Tryz.prog 206 #[(.slice A9 fR eu)] kj (fun GK mD =>
 ∃ wI : Int, ∃ t25 : Bool, (GK = (.tuple #[(iV wI), (.bool t25)])) ∧
 aP t25
 (rI mD k1 3 fun oM =>
 (0 ≤ oM) ∧
 (oM < 8) ∧
 sT mD b2 ((o2 + 2) + (Int.toNat oM)) (iV wI) fun wD =>
 K (.tuple #[]) wD)
 (((0 : Int) ≤ 8) ∧
 ((8 : Int) ≤ 8) ∧
 ((0 : Int) ≤ 8) ∧
 ((8 : Int) ≤ 8) ∧
 ((0 : Int) ≤ 0) ∧
 ((0 : Int) ≤ 8) ∧
 rS mD b0 (o0 + 6) fun TT jX l9 =>
 aa Tryz.prog 207 #[(iV x1), (.slice A9 fR eu), (.slice (lO (some ⟨b2, (o2 + 2), none⟩) 0 8 1) 8 8), (.slice TT jX l9)] mD (fun P9 pN =>
 (P9 = (.tuple #[])) ∧
 bN pN k1 0 fun tu Ps IK vI =>
 aa Tryz.prog 208 #[(.pointer (some ⟨b0, o0, none⟩)), (iV x1), (.agg #[(iV tu), (iV Ps), (iV IK), (iV vI)])] pN (fun X3 mE =>
 (X3 = (.tuple #[])) ∧
 K (.tuple #[]) mE) Kp) Kp)) Kp)
 (eN (Mem.ld fL ⟨b0, (o0 + 14), none⟩) fun v39 =>
 gZ Cx v39 [(iV 3), (iV (fM : Int))] fL (fun Kg C6 =>
 aI (some Kg) .i64 fun Pt =>
 (0 ≤ Pt) ∧
 (Pt < fM) ∧
 aE ID fun ko IE =>
 rI C6 ko (IE + (Int.toNat Pt)) fun tC =>
 rI C6 b2 (o2 + 1) fun EL =>
 sT C6 b2 (o2 + 1) (iV (IntKind.wrap .i64 (EL + 1))) fun pT =>
 (0 ≤ tC) ∧
 (tC < fR) ∧
 aE A9 fun Lu Kh =>
 mC pT Lu (Kh + ((Int.toNat tC) * 3)) fun C7 Ba X4 =>
 aX pT qO fun nR J5 =>
 F0 J5 nR (iV C7) (iV Ba) (iV X4) fun J6 =>
 rI J6 nR 0 fun BT =>
 aP (BT == 1)
 (rI J6 nR 1 fun AB =>
 rI J6 nR 2 fun MJ =>
 (0 ≤ MJ) ∧
 (MJ < 8) ∧
 rI J6 b2 ((o2 + 2) + (Int.toNat MJ)) fun Ka =>
 aa Tryz.prog 209 #[(.pointer (some ⟨b0, o0, none⟩)), (iV AB), (iV Ka)] J6 (fun TX AD =>
 c7 (some TX) fun t64 =>
 rI AD k1 3 fun wA =>
 (0 ≤ wA) ∧
 (wA < 8) ∧
 sT AD b2 ((o2 + 2) + (Int.toNat wA)) (iV tC) fun Qi =>
 K (.tuple #[]) Qi) Kp)
 (rI J6 nR 1 fun X5 =>
 rI J6 nR 2 fun MY =>
 aa Tryz.prog 210 #[(.pointer (some ⟨b0, o0, none⟩)), (iV X5)] J6 (fun v69 EM =>
 ∃ n71 X6 : Int, ∃ t73 : Bool, (v69 = (.tuple #[(iV n71), (iV X6), (.bool t73)])) ∧
 eI EM nR 2 MY ∧
 (0 ≤ MY) ∧
 (MY < 8) ∧
 sT EM b2 ((o2 + 2) + (Int.toNat MY)) (iV n71) fun EN =>
 eI EN nR 2 MY ∧
 rI EN k1 3 fun Qd =>
 (0 ≤ Qd) ∧
 (Qd < 8) ∧
 sT EN b2 ((o2 + 2) + (Int.toNat Qd)) (iV tC) fun W0 =>
 K (.tuple #[]) W0) Kp)) Kp)) Kp) Kp) :
 aa Tryz.prog 191 #[.pointer (some ⟨b0, o0, none⟩), .int .i64 x1, .pointer (some ⟨b2, o2, none⟩), .agg #[.int .i64 fE, .int .i64 fF, .int .i64 fG, .int .i64 fH]] M K Kp := vw [(7, .bS [0, 0, 2, 0, 1, 17, 63, 127] (sy [0, 1, 3, 4, 5, 2, 6, 7] .done)), (8, .bS [0, 0, 0, 4, 12, 28, 0, 64, 192, 448, 1023] (sy [0, 1, 2, 3, 4, 5, 6, 7, 8, 9, 10] .done)), (14, .bS [0, 0, 2, 0, 0, 16, 8, 72, 248, 504, 1023] (sy [0, 1, 3, 4, 6, 7, 2, 5, 8, 9, 10] .done)), (15, .bS [0, 0, 2, 0, 0, 16, 56, 120, 248, 248, 248, 1, 2049, 6655, 14847] (sy [0, 1, 3, 4, 11, 12, 5] (.dD 2 (sy [6, 7, 8, 9, 10, 13, 14] .done)))), (16, .bS [0, 0, 2, 0, 1, 17, 63, 127] (sy [0, 1, 3, 4, 5, 2, 6, 7] .done))] Tryz.func191 h
theorem rJ {b0 o0 : Nat} {x1 : Int} {b2 o2 : Nat} {fE : Int} {fF : Int} {fG : Int} {fH : Int} (h :
aX M (cl [(iV fE), (iV fF), (iV fG), (iV fH)] 27) fun k1 M2 =>
eN (Mem.ld M2 ⟨b0, (o0 + 14), none⟩) fun v3 =>
rI M2 k1 2 fun n4 =>
gZ Cx v3 [(iV 4), (iV n4)] M2 (fun v5 M6 =>
aI (some v5) .i64 fun n7 =>
rI M6 b2 (o2 + 1) fun n8 =>
sT M6 b2 (o2 + 1) (iV (IntKind.wrap .i64 (n8 + 1))) fun M9 =>
rI M9 k1 1 fun lE =>
(0 ≤ lE) ∧
(lE < 8) ∧
sT M9 b2 ((o2 + 2) + (Int.toNat lE)) (iV n7) fun lC =>
K (.tuple #[]) lC) Kp) :
 aa Tryz.prog 192 #[.pointer (some ⟨b0, o0, none⟩), .int .i64 x1, .pointer (some ⟨b2, o2, none⟩), .agg #[.int .i64 fE, .int .i64 fF, .int .i64 fG, .int .i64 fH]] M K Kp := vw [(1, .bS [0, 1, 3, 7, 0, 16, 63, 127] (sy [0, 1, 2, 4, 3, 5, 6, 7] .done)), (3, .bS [0, 0, 2, 0, 1, 17, 63, 127] (sy [0, 1, 3, 4, 5, 2, 6, 7] .done))] Tryz.func192 h
theorem zy  (h :
aX M (.map #[] 0) fun k1 M2 =>
bJ Tryz.prog (Go.Instr.mapUpdate 345 (.map (some k1)) (iV 9) (.func (.func 211) #[] #[])) M2 (fun M3 =>
bJ Tryz.prog (Go.Instr.mapUpdate 345 (.map (some k1)) (iV 10) (.func (.func 212) #[] #[])) M3 (fun M4 =>
bJ Tryz.prog (Go.Instr.mapUpdate 345 (.map (some k1)) (iV 11) (.func (.func 213) #[] #[])) M4 (fun M5 =>
bJ Tryz.prog (Go.Instr.mapUpdate 345 (.map (some k1)) (iV 12) (.func (.func 214) #[] #[])) M5 (fun M6 =>
bJ Tryz.prog (Go.Instr.mapUpdate 345 (.map (some k1)) (iV 13) (.func (.func 215) #[] #[])) M6 (fun M7 =>
bJ Tryz.prog (Go.Instr.mapUpdate 345 (.map (some k1)) (iV 14) (.func (.func 216) #[] #[])) M7 (fun M8 =>
bJ Tryz.prog (Go.Instr.mapUpdate 345 (.map (some k1)) (iV 15) (.func (.func 217) #[] #[])) M8 (fun M9 =>
bJ Tryz.prog (Go.Instr.mapUpdate 345 (.map (some k1)) (iV 17) (.func (.func 218) #[] #[])) M9 (fun iE =>
bJ Tryz.prog (Go.Instr.mapUpdate 345 (.map (some k1)) (iV 18) (.func (.func 219) #[] #[])) iE (fun lC =>
bJ Tryz.prog (Go.Instr.mapUpdate 345 (.map (some k1)) (iV 19) (.func (.func 220) #[] #[])) lC (fun oF =>
bJ Tryz.prog (Go.Instr.mapUpdate 345 (.map (some k1)) (iV 20) (.func (.func 221) #[] #[])) oF (fun mZ =>
bJ Tryz.prog (Go.Instr.mapUpdate 345 (.map (some k1)) (iV 22) (.func (.func 222) #[] #[])) mZ (fun kD =>
K (.map (some k1)) kD) Kp) Kp) Kp) Kp) Kp) Kp) Kp) Kp) Kp) Kp) Kp) Kp) :
 aa Tryz.prog 193 #[] M K Kp := vw [] Tryz.func193 h
theorem rK {b0 o0 : Nat} {x1 : Int} (h :
aX M (.cells #[(.int .u64 0), (.int .u64 0), (.int .i64 0)] 203 (0, 0)) fun k1 M2 =>
aB (Mem.ld M2 ⟨b0, o0, none⟩) fun A3 k4 k5 =>
((0 : Int) ≤ x1) ∧
((x1 : Int) < ((k4 : Nat) : Int)) ∧
aE A3 fun k6 k7 =>
aI (Mem.ld M2 ⟨k6, (k7 + ((Int.toNat x1) * 3)), none⟩) .u64 fun n8 =>
aI (Mem.ld M2 ⟨k6, ((k7 + ((Int.toNat x1) * 3)) + 1), none⟩) .u64 fun n9 =>
aI (Mem.ld M2 ⟨k6, ((k7 + ((Int.toNat x1) * 3)) + 2), none⟩) .i64 fun lE =>
aX M2 (.cells #[(.int .u64 0), (.int .u64 0), (.int .i64 0)] 203 (0, 0)) fun eu oF =>
aM oF ⟨eu, 0, none⟩ (.int .u64 n8) fun mZ =>
aM mZ ⟨eu, (0 + 1), none⟩ (.int .u64 n9) fun kD =>
aM kD ⟨eu, (0 + 2), none⟩ (.int .i64 lE) fun uM =>
aB (Mem.ld uM ⟨b0, o0, none⟩) fun Lv dn fM =>
aa Tryz.prog 154 #[(.pointer (some ⟨b0, o0, none⟩)), (.int .i64 x1), (.int .i64 (IntKind.wrap .i64 (((dn : Nat) : Int) - 1)))] uM (fun TY uE =>
(TY = (.tuple #[])) ∧
aB (Mem.ld uE ⟨b0, o0, none⟩) fun C2 gO iM =>
((0 : Int) ≤ ((iM : Nat) : Int)) ∧
((((iM : Nat) : Int) : Int) ≤ ((iM : Nat) : Int)) ∧
((0 : Int) ≤ (IntKind.wrap .i64 (((dn : Nat) : Int) - 1))) ∧
(((IntKind.wrap .i64 (((dn : Nat) : Int) - 1)) : Int) ≤ ((iM : Nat) : Int)) ∧
((0 : Int) ≤ 0) ∧
((0 : Int) ≤ (IntKind.wrap .i64 (((dn : Nat) : Int) - 1))) ∧
aM uE ⟨b0, o0, none⟩ (.slice (lO C2 0 (Int.toNat ((iM : Nat) : Int)) 3) ((Int.toNat (IntKind.wrap .i64 (((dn : Nat) : Int) - 1))) - 0) ((Int.toNat ((iM : Nat) : Int)) - 0)) fun kF =>
aP (decide ((x1 : Int) < (IntKind.wrap .i64 (((dn : Nat) : Int) - 1))))
 (aa Tryz.prog 155 #[(.pointer (some ⟨b0, o0, none⟩)), (.int .i64 x1)] kF (fun TW wG =>
 (TW = (.tuple #[])) ∧
 aa Tryz.prog 156 #[(.pointer (some ⟨b0, o0, none⟩)), (.int .i64 x1)] wG (fun Qf DP =>
 (Qf = (.tuple #[])) ∧
 aI (Mem.ld DP ⟨eu, 0, none⟩) .u64 fun xI =>
 aI (Mem.ld DP ⟨eu, (0 + 1), none⟩) .u64 fun GS =>
 aI (Mem.ld DP ⟨eu, (0 + 2), none⟩) .i64 fun yL =>
 aM DP ⟨k1, 0, none⟩ (.int .u64 xI) fun pN =>
 aM pN ⟨k1, (0 + 1), none⟩ (.int .u64 GS) fun sS =>
 aM sS ⟨k1, (0 + 2), none⟩ (.int .i64 yL) fun m5 =>
 aI (Mem.ld m5 ⟨k1, 0, none⟩) .u64 fun IK =>
 aI (Mem.ld m5 ⟨k1, (0 + 1), none⟩) .u64 fun vI =>
 aI (Mem.ld m5 ⟨k1, (0 + 2), none⟩) .i64 fun J4 =>
 K (.agg #[(.int .u64 IK), (.int .u64 vI), (.int .i64 J4)]) m5) Kp) Kp)
 (aI (Mem.ld kF ⟨eu, 0, none⟩) .u64 fun EE =>
 aI (Mem.ld kF ⟨eu, (0 + 1), none⟩) .u64 fun MI =>
 aI (Mem.ld kF ⟨eu, (0 + 2), none⟩) .i64 fun Pu =>
 aM kF ⟨k1, 0, none⟩ (.int .u64 EE) fun C6 =>
 aM C6 ⟨k1, (0 + 1), none⟩ (.int .u64 MI) fun GU =>
 aM GU ⟨k1, (0 + 2), none⟩ (.int .i64 Pu) fun wJ =>
 aI (Mem.ld wJ ⟨k1, 0, none⟩) .u64 fun AE =>
 aI (Mem.ld wJ ⟨k1, (0 + 1), none⟩) .u64 fun tC =>
 aI (Mem.ld wJ ⟨k1, (0 + 2), none⟩) .i64 fun EL =>
 K (.agg #[(.int .u64 AE), (.int .u64 tC), (.int .i64 EL)]) wJ)) Kp) :
 aa Tryz.prog 117 ([.pointer (some ⟨b0, o0, none⟩), .int .i64 x1] : List Value).toArray M K Kp :=
 cz (C := Cx) good [] Tryz.func117 (by kernel_rfl) (by kernel_rfl) h
theorem zz  (h :
aX M (.map #[] 0) fun k1 M2 =>
bJ Tryz.prog (Go.Instr.mapUpdate 361 (.map (some k1)) (iV 0) (.func (.func 225) #[] #[])) M2 (fun M3 =>
bJ Tryz.prog (Go.Instr.mapUpdate 361 (.map (some k1)) (iV 1) (.func (.func 226) #[] #[])) M3 (fun M4 =>
bJ Tryz.prog (Go.Instr.mapUpdate 361 (.map (some k1)) (iV 2) (.func (.func 227) #[] #[])) M4 (fun M5 =>
bJ Tryz.prog (Go.Instr.mapUpdate 361 (.map (some k1)) (iV 3) (.func (.func 228) #[] #[])) M5 (fun M6 =>
bJ Tryz.prog (Go.Instr.mapUpdate 361 (.map (some k1)) (iV 4) (.func (.func 229) #[] #[])) M6 (fun M7 =>
bJ Tryz.prog (Go.Instr.mapUpdate 361 (.map (some k1)) (iV 5) (.func (.func 230) #[] #[])) M7 (fun M8 =>
bJ Tryz.prog (Go.Instr.mapUpdate 361 (.map (some k1)) (iV 6) (.func (.func 231) #[] #[])) M8 (fun M9 =>
bJ Tryz.prog (Go.Instr.mapUpdate 361 (.map (some k1)) (iV 7) (.func (.func 232) #[] #[])) M9 (fun iE =>
bJ Tryz.prog (Go.Instr.mapUpdate 361 (.map (some k1)) (iV 8) (.func (.func 233) #[] #[])) iE (fun lC =>
K (.map (some k1)) lC) Kp) Kp) Kp) Kp) Kp) Kp) Kp) Kp) Kp) :
 aa Tryz.prog 203 #[] M K Kp := vw [] Tryz.func203 h
theorem pU {b0 o0 : Nat} {cL : Int} {cN : Int} {cR : Int} {eY : Int} (h :
aX M (cl [(iV cL), (iV cN), (iV cR), (iV eY)] 27) fun k1 M2 =>
rS M2 b0 (o0 + 3) fun A3 k4 k5 =>
rI M2 k1 1 fun n6 =>
rI M2 k1 1 fun n7 =>
rI M2 k1 2 fun n8 =>
((0 : Int) ≤ k5) ∧
((k5 : Int) ≤ k5) ∧
((0 : Int) ≤ (IntKind.wrap .i64 (n7 + n8))) ∧
(((IntKind.wrap .i64 (n7 + n8)) : Int) ≤ (k5 : Int)) ∧
(0 ≤ n6) ∧
((n6 : Int) ≤ (IntKind.wrap .i64 (n7 + n8))) ∧
K (.slice (lO A3 (Int.toNat n6) (Int.toNat (k5 : Int)) 3) ((Int.toNat (IntKind.wrap .i64 (n7 + n8))) - (Int.toNat n6)) ((Int.toNat (k5 : Int)) - (Int.toNat n6))) M2) :
 aa Tryz.prog 204 #[.pointer (some ⟨b0, o0, none⟩), .agg #[.int .i64 cL, .int .i64 cN, .int .i64 cR, .int .i64 eY]] M K Kp := vw [(1, .bS [0, 1, 3, 7, 15, 0, 32, 0, 128, 0, 512, 1920, 4095, 8191] (sy [0, 1, 2, 3, 5, 7, 9, 4, 6, 8, 10, 11, 12, 13] .done))] Tryz.func204 h
theorem pV {b0 o0 : Nat} {x1 : Int} {MZ : Int} {Na : Int} {Nb : Int} {Nc : Int} (h :
aX M (cl [(iV MZ), (iV Na), (iV Nb), (iV Nc)] 27) fun k1 M2 =>
rS M2 b0 (o0 + 4) fun A3 k4 k5 =>
((0 : Int) ≤ x1) ∧
((x1 : Int) < k4) ∧
aE A3 fun k6 k7 =>
rP M2 k6 (k7 + (Int.toNat x1)) fun A8 =>
rS M2 b0 (o0 + 4) fun A9 fR eu =>
((0 : Int) ≤ x1) ∧
((x1 : Int) < fR) ∧
aE A9 fun gJ cX =>
rP M2 gJ (cX + (Int.toNat x1)) fun qQ =>
aE A8 fun iF eX =>
bN M2 k1 0 fun jH lQ xF eR =>
sT M2 iF eX (iV 2) fun kj =>
((Mem.fK kj ⟨k1, 0, none⟩ 0 4) = some [(iV jH), (iV lQ), (iV xF), (iV eR)]) ∧
aE qQ fun gO iM =>
sT kj gO (iM + 2) (iV jH) fun kF =>
sT kF gO ((iM + 2) + 1) (iV lQ) fun DR =>
sT DR gO ((iM + 2) + 2) (iV xF) fun wG =>
sT wG gO ((iM + 2) + 3) (iV eR) fun wD =>
((Mem.fK wD ⟨k1, 0, none⟩ 0 4) = some [(iV jH), (iV lQ), (iV xF), (iV eR)]) ∧
K (.tuple #[]) wD) :
 aa Tryz.prog 208 #[.pointer (some ⟨b0, o0, none⟩), .int .i64 x1, .agg #[.int .i64 MZ, .int .i64 Na, .int .i64 Nb, .int .i64 Nc]] M K Kp := vw [(1, .bS [0, 1, 3, 7, 0, 31, 63, 0, 128, 384, 896, 0, 3968, 8064, 0, 16383, 49151, 114687, 262143, 524287, 1048575] (sy [0, 1, 2, 4, 7, 8, 9, 11, 3, 5, 6, 10, 12, 13, 15, 16] (.dD 14 (sy [17, 18, 19, 20] .done))))] Tryz.func208 h
theorem tD {b0 o0 : Nat} {x1 : Int} {x2 : Int} (h :
rS M b0 (o0 + 6) fun A1 k2 k3 =>
((0 : Int) ≤ x1) ∧
((x1 : Int) < k2) ∧
aE A1 fun k4 k5 =>
rP M k4 (k5 + (Int.toNat x1)) fun A6 =>
aa Tryz.prog 237 #[(.pointer A6), (iV x2)] M (fun v7 M8 =>
∃ n9 lE ig : Int, ∃ t12 : Bool, ∃ j6 : Int, (v7 = (.tuple #[(.agg #[(iV n9), (iV lE), (iV ig)]), (.bool t12), (iV j6)])) ∧
aX M8 kP fun gT uM =>
F0 uM gT (iV n9) (iV lE) (iV ig) fun rD =>
aP (j6 == 10)
 (Kp [{ v := (.iface 340 (iV (-1))), recovered := false }] rD)
 (aP t12
 (rI rD gT 0 fun xF =>
 rI rD gT 1 fun eR =>
 rI rD gT 2 fun oG =>
 aa Tryz.prog 238 #[(.pointer (some ⟨b0, o0, none⟩)), (.agg #[(iV xF), (iV eR), (iV oG)]), (iV 1)] rD (fun GK mD =>
 (GK = (.tuple #[])) ∧
 K (.bool (j6 == 0)) mD) Kp)
 (K (.bool (j6 == 0)) rD))) Kp) :
 aa Tryz.prog 209 #[.pointer (some ⟨b0, o0, none⟩), .int .i64 x1, .int .i64 x2] M K Kp := vw [] Tryz.func209 h
theorem tE {b0 o0 : Nat} {x1 : Int} (h :
rS M b0 (o0 + 6) fun A1 k2 k3 =>
((0 : Int) ≤ x1) ∧
((x1 : Int) < k2) ∧
aE A1 fun k4 k5 =>
rP M k4 (k5 + (Int.toNat x1)) fun A6 =>
aa Tryz.prog 239 #[(.pointer A6)] M (fun v7 M8 =>
∃ n9 : Int, ∃ t10 : Bool, ∃ ig j5 j6 : Int, ∃ t14 : Bool, ∃ lB : Int, (v7 = (.tuple #[(.agg #[(iV n9), (.bool t10), (iV ig), (iV j5), (iV j6), (.bool t14)]), (iV lB)])) ∧
aX M8 nL fun eX ox =>
sT6 ox eX (iV n9) (.bool t10) (iV ig) (iV j5) (iV j6) (.bool t14) fun mD =>
rB mD eX 5 fun t24 =>
aP t24
 (rI mD eX 2 fun lR =>
 rI mD eX (2 + 1) fun oM =>
 rI mD eX (2 + 2) fun wH =>
 aa Tryz.prog 240 #[(.pointer (some ⟨b0, o0, none⟩)), (.agg #[(iV lR), (iV oM), (iV wH)])] mD (fun Qg mY =>
 (Qg = (.tuple #[])) ∧
 rB mY eX 1 fun t30 =>
 aP t30
 (rI mY eX 0 fun yL =>
 K (.tuple #[(iV yL), (iV 1), (.bool true)]) mY)
 (K (.tuple #[(iV 0), (iV 0), (.bool (lB == 0))]) mY)) Kp)
 (rB mD eX 1 fun t32 =>
 aP t32
 (rI mD eX 0 fun tu =>
 K (.tuple #[(iV tu), (iV 1), (.bool true)]) mD)
 (K (.tuple #[(iV 0), (iV 0), (.bool (lB == 0))]) mD))) Kp) :
 aa Tryz.prog 210 #[.pointer (some ⟨b0, o0, none⟩), .int .i64 x1] M K Kp := vw [] Tryz.func210 h
theorem rL {b0 o0 : Nat} {x1 : Int} {b2 o2 : Nat} {fE : Int} {fF : Int} {fG : Int} {fH : Int} (h :
aX M (cl [(iV fE), (iV fF), (iV fG), (iV fH)] 27) fun k1 M2 =>
rS M2 b0 (o0 + 4) fun A3 k4 k5 =>
((0 : Int) ≤ x1) ∧
((x1 : Int) < k4) ∧
aE A3 fun k6 k7 =>
rP M2 k6 (k7 + (Int.toNat x1)) fun A8 =>
aE A8 fun k9 fR =>
rS M2 k9 (fR + 1) fun Nd gJ cX =>
rI M2 k1 1 fun nx =>
rI M2 k1 2 fun lB =>
(0 ≤ lB) ∧
(lB < 8) ∧
rI M2 b2 ((o2 + 2) + (Int.toNat lB)) fun oH =>
rI M2 k1 3 fun jH =>
aa Tryz.prog 241 #[(.slice Nd gJ cX), (iV nx), (iV oH), (iV jH)] M2 (fun C0 jq =>
∃ W1 : Option Addr, ∃ fV gO : Nat, ∃ t23 : Bool, (C0 = (.tuple #[(.slice W1 fV gO), (.bool t23)])) ∧
aP (!t23)
 (Kp [{ v := (.iface 340 (iV (-4))), recovered := false }] jq)
 (rS jq b0 (o0 + 4) fun Pq tr pM =>
 ((0 : Int) ≤ x1) ∧
 ((x1 : Int) < tr) ∧
 aE Pq fun lP js =>
 rP jq lP (js + (Int.toNat x1)) fun SB =>
 aE SB fun l9 qR =>
 sT jq l9 (qR + 1) (.slice W1 fV gO) fun pN =>
 K (.tuple #[]) pN)) Kp) :
 aa Tryz.prog 211 #[.pointer (some ⟨b0, o0, none⟩), .int .i64 x1, .pointer (some ⟨b2, o2, none⟩), .agg #[.int .i64 fE, .int .i64 fF, .int .i64 fG, .int .i64 fH]] M K Kp := vw [(1, .bS [0, 1, 3, 7, 0, 31, 63, 127, 255, 511, 0, 1024, 0, 0, 8192, 4096, 36864, 126976, 258048, 0, 524288, 2097151, 4194303, 8388607, 8388607, 16777215, 67108863] (sy [0, 1, 2, 4, 10, 12, 13, 15, 16, 19, 3, 5, 6, 7, 8, 9, 11, 14, 17, 18, 20, 21, 22, 23, 24, 25, 26] .done))] Tryz.func211 h
theorem rM {b0 o0 : Nat} {x1 : Int} {b2 o2 : Nat} {fE : Int} {fF : Int} {fG : Int} {fH : Int} (h :
aX M (cl [(iV fE), (iV fF), (iV fG), (iV fH)] 27) fun k1 M2 =>
rS M2 b0 (o0 + 4) fun A3 k4 k5 =>
((0 : Int) ≤ x1) ∧
((x1 : Int) < k4) ∧
aE A3 fun k6 k7 =>
rP M2 k6 (k7 + (Int.toNat x1)) fun A8 =>
aE A8 fun k9 fR =>
rS M2 k9 (fR + 1) fun Nd gJ cX =>
rI M2 k1 1 fun nx =>
(0 ≤ nx) ∧
(nx < 8) ∧
rI M2 b2 ((o2 + 2) + (Int.toNat nx)) fun lB =>
aa Tryz.prog 242 #[(.slice Nd gJ cX), (iV lB)] M2 (fun MX ox =>
∃ Ki : Option Addr, ∃ jW iU : Nat, ∃ t21 : Bool, (MX = (.tuple #[(.slice Ki jW iU), (.bool t21)])) ∧
aP t21
 (rS ox b0 (o0 + 4) fun GV iM mX =>
 ((0 : Int) ≤ x1) ∧
 ((x1 : Int) < iM) ∧
 aE GV fun tr pM =>
 rP ox tr (pM + (Int.toNat x1)) fun SF =>
 aE SF fun js jX =>
 sT ox js (jX + 1) (.slice Ki jW iU) fun ru =>
 K (.tuple #[]) ru)
 (rS ox b0 (o0 + 4) fun MW yg vH =>
 ((0 : Int) ≤ x1) ∧
 ((x1 : Int) < yg) ∧
 aE MW fun uF wB =>
 rP ox uF (wB + (Int.toNat x1)) fun SG =>
 aE SG fun AG fW =>
 sT ox AG fW (iV 4) fun Nf =>
 aP (x1 == 0)
 (sT Nf b0 (o0 + 11) (iV 1) fun Qj =>
 K (.tuple #[]) Qj)
 (K (.tuple #[]) Nf))) Kp) :
 aa Tryz.prog 212 #[.pointer (some ⟨b0, o0, none⟩), .int .i64 x1, .pointer (some ⟨b2, o2, none⟩), .agg #[.int .i64 fE, .int .i64 fF, .int .i64 fG, .int .i64 fH]] M K Kp := vw [(1, .bS [0, 1, 3, 7, 0, 31, 63, 127, 255, 511, 0, 0, 2048, 1024, 9216, 31744, 64512, 131071, 262143, 524287, 524287, 1048575, 4194303] (sy [0, 1, 2, 4, 10, 11, 13, 14, 3, 5, 6, 7, 8, 9, 12, 15, 16, 17, 18, 19, 20, 21, 22] .done))] Tryz.func212 h
theorem pW {b0 o0 : Nat} {x1 : Int} {b2 o2 : Nat} {fE : Int} {fF : Int} {fG : Int} {fH : Int} (h :
aX M (cl [(iV fE), (iV fF), (iV fG), (iV fH)] 27) fun k1 M2 =>
rS M2 b0 (o0 + 4) fun A3 k4 k5 =>
aP (decide ((k4 : Int) ≥ 100))
 (Kp [{ v := (.iface 340 (iV (-5))), recovered := false }] M2)
 (rS M2 b0 (o0 + 4) fun A6 k7 k8 =>
 ∃ J9 : List Value → Mem → Prop, (rI M2 k1 1 fun lE =>
 rI M2 k1 2 fun ig =>
 (0 ≤ ig) ∧
 (ig < 8) ∧
 rI M2 b2 ((o2 + 2) + (Int.toNat ig)) fun j5 =>
 (rS M2 b0 (o0 + 4) fun F2 gT iF =>
 aa Tryz.prog 112 #[(iV lE), (iV j5)] M2 (fun MX ox =>
 aB (some MX) fun Ki jW iU =>
 aX ox (cl [(iV 0), (.slice Ki jW iU), (iV 0), (iV 0), (iV 0), (iV 0)] 229) fun fV dK =>
 aX dK (cl [(.pointer (some ⟨fV, 0, none⟩))] 224) fun iM kF =>
 aA 155 F2 gT iF (some ⟨iM, 0, none⟩) 1 1 kF (fun TW wG =>
 aB (some TW) fun SF js jX =>
 sT wG b0 (o0 + 4) (.slice SF js jX) fun ru =>
 J9 [] ru) Kp) Kp) ∧
 (aa Tryz.prog 112 #[(iV lE), (iV j5)] M2 (fun P9 pN =>
 aB (some P9) fun GJ uF wB =>
 rS pN b0 (o0 + 4) fun SG AG fW =>
 aX pN (cl [(iV 0), (.slice GJ uF wB), (iV 0), (iV 0), (iV 0), (iV 0)] 229) fun sV Qj =>
 aX Qj (cl [(.pointer (some ⟨sV, 0, none⟩))] 224) fun zm GU =>
 aA 155 SG AG fW (some ⟨zm, 0, none⟩) 1 1 GU (fun X7 vJ =>
 aB (some X7) fun X8 AA EF =>
 sT vJ b0 (o0 + 4) (.slice X8 AA EF) fun IC =>
 J9 [] IC) Kp) Kp) ∧
 True) ∧
 ∀ junk49 : Nat → Value, ∀ qP : Mem, (J9 [] qP) → aa Tryz.prog 158 #[(.pointer (some ⟨b0, o0, none⟩)), (iV (k7 : Int))] qP (fun TZ Qk =>
 (TZ = (.tuple #[])) ∧
 rI Qk k1 3 fun X9 =>
 (0 ≤ X9) ∧
 (X9 < 8) ∧
 sT Qk b2 ((o2 + 2) + (Int.toNat X9)) (iV (k7 : Int)) fun J5 =>
 K (.tuple #[]) J5) Kp)) :
 aa Tryz.prog 213 #[.pointer (some ⟨b0, o0, none⟩), .int .i64 x1, .pointer (some ⟨b2, o2, none⟩), .agg #[.int .i64 fE, .int .i64 fF, .int .i64 fG, .int .i64 fH]] M K Kp := vw [(4, .CS [0, 0, 2, 6, 14, 0, 32, 0, 0, 256, 128, 1152, 3968, 8064, 16352, 32736, 65504, 131040, 262142, 524287, 1048575, 2097151] (sy [0, 1, 2, 3, 5, 7, 8, 10, 11, 6, 9, 12, 13] (.fork 4 (sy [14, 15, 16, 17, 18, 19, 20, 21] .done) (.fork 14 (sy [15, 4, 16, 17, 18, 19, 20, 21] .done) .dead))) []), (6, .bS [0, 0, 2, 0, 1, 17, 63, 127] (sy [0, 1, 3, 4, 5, 2, 6, 7] .done))] Tryz.func213 h
theorem pX {b0 o0 : Nat} {x1 : Int} {b2 o2 : Nat} {fE : Int} {fF : Int} {fG : Int} {fH : Int} (h :
aX M (cl [(iV fE), (iV fF), (iV fG), (iV fH)] 27) fun k1 M2 =>
K (.tuple #[]) M2) :
 aa Tryz.prog 214 #[.pointer (some ⟨b0, o0, none⟩), .int .i64 x1, .pointer (some ⟨b2, o2, none⟩), .agg #[.int .i64 fE, .int .i64 fF, .int .i64 fG, .int .i64 fH]] M K Kp := vw [] Tryz.func214 h
theorem rN {b0 o0 : Nat} {x1 : Int} {b2 o2 : Nat} {fE : Int} {fF : Int} {fG : Int} {fH : Int} (h :
aX M (cl [(iV fE), (iV fF), (iV fG), (iV fH)] 27) fun k1 M2 =>
rI M2 k1 1 fun n3 =>
rI M2 k1 2 fun n4 =>
(0 ≤ n4) ∧
(n4 < 8) ∧
rI M2 b2 ((o2 + 2) + (Int.toNat n4)) fun n5 =>
aa Tryz.prog 209 #[(.pointer (some ⟨b0, o0, none⟩)), (iV n3), (iV n5)] M2 (fun v6 M7 =>
c7 (some v6) fun t8 =>
aP (!t8)
 (rS M7 b0 (o0 + 6) fun A9 fR eu =>
 rI M7 k1 1 fun j5 =>
 (0 ≤ j5) ∧
 (j5 < fR) ∧
 aE A9 fun cX gT =>
 rP M7 cX (gT + (Int.toNat j5)) fun l8 =>
 rI M7 k1 2 fun oH =>
 (0 ≤ oH) ∧
 (oH < 8) ∧
 rI M7 b2 ((o2 + 2) + (Int.toNat oH)) fun jH =>
 aa Tryz.prog 236 #[(.pointer l8), (.agg #[(iV x1), (iV 0), (iV jH)])] M7 (fun C0 jq =>
 (C0 = (.tuple #[])) ∧
 bN jq k1 0 fun eR oG rq nS =>
 aa Tryz.prog 208 #[(.pointer (some ⟨b0, o0, none⟩)), (iV x1), (.agg #[(iV eR), (iV oG), (iV rq), (iV nS)])] jq (fun Ya DR =>
 (Ya = (.tuple #[])) ∧
 K (.tuple #[]) DR) Kp) Kp)
 (K (.tuple #[]) M7)) Kp) :
 aa Tryz.prog 215 #[.pointer (some ⟨b0, o0, none⟩), .int .i64 x1, .pointer (some ⟨b2, o2, none⟩), .agg #[.int .i64 fE, .int .i64 fF, .int .i64 fG, .int .i64 fH]] M K Kp := vw [(1, .bS [0, 0, 2, 0, 0, 16, 8, 72, 248, 504, 1023, 2047] (sy [0, 1, 3, 4, 6, 7, 2, 5, 8, 9, 10, 11] .done)), (2, .bS [0, 1, 3, 7, 0, 16, 63, 127, 0, 0, 0, 1024, 512, 4608, 15872, 32256, 65280, 131071] (sy [0, 1, 2, 4, 8, 9, 10, 12, 13, 3, 5, 6, 7, 11, 14, 15, 16, 17] .done))] Tryz.func215 h
theorem rO {b0 o0 : Nat} {x1 : Int} {b2 o2 : Nat} {fE : Int} {fF : Int} {fG : Int} {fH : Int} (h :
aX M (cl [(iV fE), (iV fF), (iV fG), (iV fH)] 27) fun k1 M2 =>
rI M2 k1 1 fun n3 =>
aa Tryz.prog 210 #[(.pointer (some ⟨b0, o0, none⟩)), (iV n3)] M2 (fun v4 M5 =>
∃ n6 n7 : Int, ∃ t8 : Bool, (v4 = (.tuple #[(iV n6), (iV n7), (.bool t8)])) ∧
aP (!t8)
 (rS M5 b0 (o0 + 6) fun A9 fR eu =>
 rI M5 k1 1 fun j5 =>
 (0 ≤ j5) ∧
 (j5 < fR) ∧
 aE A9 fun cX gT =>
 rP M5 cX (gT + (Int.toNat j5)) fun l8 =>
 aa Tryz.prog 235 #[(.pointer l8), (.agg #[(iV x1), (iV 0), (iV 0)])] M5 (fun MX ox =>
 (MX = (.tuple #[])) ∧
 bN ox k1 0 fun lQ xF eR oG =>
 aa Tryz.prog 208 #[(.pointer (some ⟨b0, o0, none⟩)), (iV x1), (.agg #[(iV lQ), (iV xF), (iV eR), (iV oG)])] ox (fun GK mD =>
 (GK = (.tuple #[])) ∧
 K (.tuple #[]) mD) Kp) Kp)
 (rI M5 k1 2 fun wI =>
 (0 ≤ wI) ∧
 (wI < 8) ∧
 rI M5 k1 3 fun lR =>
 sT M5 b2 ((o2 + 2) + (Int.toNat wI)) (iV n6) fun wG =>
 eI wG k1 3 lR ∧
 (0 ≤ lR) ∧
 (lR < 8) ∧
 sT wG b2 ((o2 + 2) + (Int.toNat lR)) (iV n7) fun wD =>
 eI wD k1 3 lR ∧
 K (.tuple #[]) wD)) Kp) :
 aa Tryz.prog 216 #[.pointer (some ⟨b0, o0, none⟩), .int .i64 x1, .pointer (some ⟨b2, o2, none⟩), .agg #[.int .i64 fE, .int .i64 fF, .int .i64 fG, .int .i64 fH]] M K Kp := vw [(3, .bS [0, 1, 3, 7, 0, 16, 63, 127, 0, 256, 1023] (sy [0, 1, 2, 4, 8, 9, 3, 5, 6, 7, 10] .done)), (5, .bS [0, 0, 2, 0, 0, 16, 0, 0, 1, 257, 839, 1863, 8, 4104, 16383, 32767] (sy [0, 1, 3, 4, 6, 7, 8, 9, 12, 13, 2, 10] (.dD 5 (sy [11, 14, 15] .done))))] Tryz.func216 h
theorem rQ {b0 o0 : Nat} {x1 : Int} {b2 o2 : Nat} {fE : Int} {fF : Int} {fG : Int} {fH : Int} (h :
aX M (cl [(iV fE), (iV fF), (iV fG), (iV fH)] 27) fun k1 M2 =>
rS M2 b0 (o0 + 6) fun A3 k4 k5 =>
rI M2 k1 1 fun n6 =>
(0 ≤ n6) ∧
(n6 < k4) ∧
aE A3 fun k7 k8 =>
rP M2 k7 (k8 + (Int.toNat n6)) fun A9 =>
aa Tryz.prog 243 #[(.pointer A9)] M2 (fun v10 lC =>
∃ rz : Option Addr, ∃ cX gT : Nat, ∃ l8 : Option Addr, ∃ eX dn : Nat, ∃ lQ : Int, (v10 = (.tuple #[(.slice rz cX gT), (.slice l8 eX dn), (iV lQ)])) ∧
aP (lQ != 0)
 (Kp [{ v := (.iface 340 (iV (-2))), recovered := false }] lC)
 (aP (decide ((eX : Int) > 0))
 (Kp [{ v := (.iface 340 (iV (-1))), recovered := false }] lC)
 (∃ I19 : IT, (∃ iU, I19 iU [(iV 0)] lC) ∧
 ∀ (fV : Nat) (_ : Nat → Value) (nS : Int) (kF : Mem), (I19 fV [(iV nS)] kF) → aP (decide (nS < cX))
 ((0 ≤ nS) ∧
 (nS < cX) ∧
 aE rz fun tr pM =>
 mC kF tr (pM + ((Int.toNat nS) * 3)) fun wH xC xI =>
 aX kF kP fun l9 Ql =>
 F0 Ql l9 (iV wH) (iV xC) (iV xI) fun m5 =>
 rS m5 b0 (o0 + 4) fun Yb BV AG =>
 rI m5 l9 0 fun EE =>
 (0 ≤ EE) ∧
 (EE < BV) ∧
 aE Yb fun sV xD =>
 rP m5 sV (xD + (Int.toNat EE)) fun Qm =>
 aE Qm fun F4 ko =>
 rI m5 F4 ko fun AE =>
 aP (AE == 2)
 (sT m5 l9 2 (iV 0) fun pY =>
 mC pY l9 0 fun EL AT yh =>
 aa Tryz.prog 238 #[(.pointer (some ⟨b0, o0, none⟩)), (.agg #[(iV EL), (iV AT), (iV yh)]), (iV 0)] pY (fun GI qP =>
 (GI = (.tuple #[])) ∧
 ∃ Kj : Nat, (Kj < fV) ∧
 I19 Kj [(iV (IntKind.wrap .i64 (nS + 1)))] qP) Kp)
 (∃ kS : Nat, (kS < fV) ∧
 I19 kS [(iV (IntKind.wrap .i64 (nS + 1)))] m5))
 (K (.tuple #[]) kF)))) Kp) :
 aa Tryz.prog 217 #[.pointer (some ⟨b0, o0, none⟩), .int .i64 x1, .pointer (some ⟨b2, o2, none⟩), .agg #[.int .i64 fE, .int .i64 fF, .int .i64 fG, .int .i64 fH]] M K Kp := vw [(1, .bS [0, 1, 3, 7, 0, 16, 63, 127, 255, 511, 1023, 1023, 1023, 2047, 12287, 32767] (sy [0, 1, 2, 4, 3, 5, 6, 7, 8, 9, 10, 11, 12, 13, 14, 15] .done)), (2000001, .loop [(37, .c (.int .i64))]), (9, .bS [0, 1, 3, 7, 0, 16, 63, 127, 255, 511, 1023, 2047] (sy [0, 1, 2, 4, 3, 5, 6, 7, 8, 9, 10, 11] .done))] Tryz.func217 h
theorem pZ {b0 o0 : Nat} {x1 : Int} {b2 o2 : Nat} {fE : Int} {fF : Int} {fG : Int} {fH : Int} (h :
aX M (cl [(iV fE), (iV fF), (iV fG), (iV fH)] 27) fun k1 M2 =>
rI M2 k1 1 fun n3 =>
(0 ≤ n3) ∧
(n3 < 8) ∧
rI M2 b2 ((o2 + 2) + (Int.toNat n3)) fun n4 =>
aP (decide (((if (1048576 : Int) < n4 then 1048576 else n4) : Int) > 0))
 (rU M2 b0 (o0 + 5) fun n5 =>
 aa Tryz.prog 244 #[(.pointer (some ⟨b0, (o0 + 8), none⟩)), (.int .u64 (IntKind.wrap .u64 (n5 + (IntKind.wrap .u64 (if (1048576 : Int) < n4 then 1048576 else n4))))), (iV x1)] M2 (fun v6 M7 =>
 aI (some v6) .u64 fun n8 =>
 rS M7 b0 (o0 + 4) fun A9 fR eu =>
 ((0 : Int) ≤ x1) ∧
 ((x1 : Int) < fR) ∧
 aE A9 fun gJ cX =>
 rP M7 gJ (cX + (Int.toNat x1)) fun qQ =>
 aE qQ fun iF eX =>
 sT M7 iF eX (iV 3) fun ox =>
 K (.tuple #[]) ox) Kp)
 (K (.tuple #[]) M2)) :
 aa Tryz.prog 218 #[.pointer (some ⟨b0, o0, none⟩), .int .i64 x1, .pointer (some ⟨b2, o2, none⟩), .agg #[.int .i64 fE, .int .i64 fF, .int .i64 fG, .int .i64 fH]] M K Kp := vw [(1, .bS [0, 0, 2, 1, 9, 31, 63, 127, 255] (sy [0, 1, 3, 4, 2, 5, 6, 7, 8] .done)), (3, .bS [0, 1, 3, 0, 8, 24, 56, 0, 128, 504, 0, 2047] (sy [0, 1, 2, 3, 4, 5, 7, 8, 10, 6, 9, 11] .done))] Tryz.func218 h
theorem rR {b0 o0 : Nat} {x1 : Int} {b2 o2 : Nat} {fE : Int} {fF : Int} {fG : Int} {fH : Int} (h :
aX M (cl [(iV fE), (iV fF), (iV fG), (iV fH)] 27) fun k1 M2 =>
rS M2 b0 (o0 + 7) fun A3 k4 k5 =>
rI M2 k1 1 fun n6 =>
(0 ≤ n6) ∧
(n6 < k4) ∧
aE A3 fun k7 k8 =>
rP M2 k7 (k8 + (Int.toNat n6)) fun A9 =>
aa Tryz.prog 245 #[(.pointer A9), (iV x1)] M2 (fun v10 lC =>
c7 (some v10) fun t12 =>
aP (!t12)
 (rI lC k1 0 fun j6 =>
 rI lC k1 1 fun nx =>
 rI lC k1 2 fun lB =>
 rI lC k1 3 fun oH =>
 aa Tryz.prog 208 #[(.pointer (some ⟨b0, o0, none⟩)), (iV x1), (.agg #[(iV j6), (iV nx), (iV lB), (iV oH)])] lC (fun T0 rD =>
 (T0 = (.tuple #[])) ∧
 K (.tuple #[]) rD) Kp)
 (K (.tuple #[]) lC)) Kp) :
 aa Tryz.prog 219 #[.pointer (some ⟨b0, o0, none⟩), .int .i64 x1, .pointer (some ⟨b2, o2, none⟩), .agg #[.int .i64 fE, .int .i64 fF, .int .i64 fG, .int .i64 fH]] M K Kp := vw [(1, .bS [0, 1, 3, 7, 0, 16, 63, 127, 0, 511, 1023] (sy [0, 1, 2, 4, 8, 3, 5, 6, 7, 9, 10] .done))] Tryz.func219 h
theorem oN {b0 o0 : Nat} {x1 : Int} {b2 o2 : Nat} {fE : Int} {fF : Int} {fG : Int} {fH : Int} (h :
aX M (cl [(iV fE), (iV fF), (iV fG), (iV fH)] 27) fun k1 M2 =>
rS M2 b0 (o0 + 7) fun A3 k4 k5 =>
rI M2 k1 1 fun n6 =>
(0 ≤ n6) ∧
(n6 < k4) ∧
aE A3 fun k7 k8 =>
rP M2 k7 (k8 + (Int.toNat n6)) fun A9 =>
aa Tryz.prog 246 #[(.pointer A9), (iV x1)] M2 (fun v10 lC =>
∃ j5 j6 : Int, (v10 = (.tuple #[(iV j5), (iV j6)])) ∧
aP (j6 != 0)
 (Kp [{ v := (.iface 340 (iV (-3))), recovered := false }] lC)
 (aP (j5 != (-1))
 (aa Tryz.prog 158 #[(.pointer (some ⟨b0, o0, none⟩)), (iV j5)] lC (fun v14 uM =>
 (v14 = (.tuple #[])) ∧
 K (.tuple #[]) uM) Kp)
 (K (.tuple #[]) lC))) Kp) :
 aa Tryz.prog 220 #[.pointer (some ⟨b0, o0, none⟩), .int .i64 x1, .pointer (some ⟨b2, o2, none⟩), .agg #[.int .i64 fE, .int .i64 fF, .int .i64 fG, .int .i64 fH]] M K Kp := vw [(1, .bS [0, 1, 3, 7, 0, 16, 63, 127, 0, 511, 1023, 2047, 2047, 4095, 16383] (sy [0, 1, 2, 4, 8, 3, 5, 6, 7, 9, 10, 11, 12, 13, 14] .done))] Tryz.func220 h
theorem rT {b0 o0 : Nat} {x1 : Int} {b2 o2 : Nat} {fE : Int} {fF : Int} {fG : Int} {fH : Int} (h :
aX M (cl [(iV fE), (iV fF), (iV fG), (iV fH)] 27) fun k1 M2 =>
rS M2 b0 (o0 + 10) fun A3 k4 k5 =>
aP (decide ((k4 : Int) ≥ 1000))
 (Kp [{ v := (.iface 340 (iV (-6))), recovered := false }] M2)
 (rS M2 b0 (o0 + 10) fun A6 k7 k8 =>
 rI M2 k1 1 fun n9 =>
 (0 ≤ n9) ∧
 (n9 < 8) ∧
 rI M2 b2 ((o2 + 2) + (Int.toNat n9)) fun lE =>
 aX M2 (cl [(iV lE)] 2) fun eu oF =>
 aA 53 A6 k7 k8 (some ⟨eu, 0, none⟩) 1 1 oF (fun Ix kD =>
 aB (some Ix) fun l8 eX dn =>
 sT kD b0 (o0 + 10) (.slice l8 eX dn) fun rD =>
 K (.tuple #[]) rD) Kp)) :
 aa Tryz.prog 221 #[.pointer (some ⟨b0, o0, none⟩), .int .i64 x1, .pointer (some ⟨b2, o2, none⟩), .agg #[.int .i64 fE, .int .i64 fF, .int .i64 fG, .int .i64 fH]] M K Kp := vw [(3, .bS [0, 0, 2, 6, 14, 0, 0, 64, 32, 288, 992, 2016, 4064, 8190, 16383, 32767, 65535] (sy [0, 1, 2, 3, 5, 6, 8, 9, 4, 7, 10, 11, 12, 13, 14, 15, 16] .done))] Tryz.func221 h
theorem rV {b0 o0 : Nat} {x1 : Int} {b2 o2 : Nat} {fE : Int} {fF : Int} {fG : Int} {fH : Int} (h :
aX M (cl [(iV fE), (iV fF), (iV fG), (iV fH)] 27) fun k1 M2 =>
rI M2 k1 1 fun n3 =>
Kp [{ v := (.iface 340 (iV n3)), recovered := false }] M2) :
 aa Tryz.prog 222 #[.pointer (some ⟨b0, o0, none⟩), .int .i64 x1, .pointer (some ⟨b2, o2, none⟩), .agg #[.int .i64 fE, .int .i64 fF, .int .i64 fG, .int .i64 fH]] M K Kp := vw [] Tryz.func222 h
theorem uN {b0 o0 : Nat} {x1 : Int} {x2 : Int} (h :
aB (Mem.ld M ⟨b0, o0, none⟩) fun A1 k2 k3 =>
aB (Mem.ld M ⟨b0, o0, none⟩) fun A4 k5 k6 =>
aB (Mem.ld M ⟨b0, o0, none⟩) fun A7 k8 k9 =>
((0 : Int) ≤ x2) ∧
((x2 : Int) < ((k8 : Nat) : Int)) ∧
aE A7 fun fR eu =>
aI (Mem.ld M ⟨fR, (eu + ((Int.toNat x2) * 3)), none⟩) .u64 fun j5 =>
aI (Mem.ld M ⟨fR, ((eu + ((Int.toNat x2) * 3)) + 1), none⟩) .u64 fun j6 =>
aI (Mem.ld M ⟨fR, ((eu + ((Int.toNat x2) * 3)) + 2), none⟩) .i64 fun nx =>
aB (Mem.ld M ⟨b0, o0, none⟩) fun l8 eX dn =>
((0 : Int) ≤ x1) ∧
((x1 : Int) < ((eX : Nat) : Int)) ∧
aE l8 fun fM jW =>
aI (Mem.ld M ⟨fM, (jW + ((Int.toNat x1) * 3)), none⟩) .u64 fun eR =>
aI (Mem.ld M ⟨fM, ((jW + ((Int.toNat x1) * 3)) + 1), none⟩) .u64 fun oG =>
aI (Mem.ld M ⟨fM, ((jW + ((Int.toNat x1) * 3)) + 2), none⟩) .i64 fun rq =>
((0 : Int) ≤ x1) ∧
((x1 : Int) < ((k2 : Nat) : Int)) ∧
aE A1 fun iM mX =>
aM M ⟨iM, (mX + ((Int.toNat x1) * 3)), none⟩ (.int .u64 j5) fun DR =>
aM DR ⟨iM, ((mX + ((Int.toNat x1) * 3)) + 1), none⟩ (.int .u64 j6) fun wG =>
aM wG ⟨iM, ((mX + ((Int.toNat x1) * 3)) + 2), none⟩ (.int .i64 nx) fun wD =>
((0 : Int) ≤ x2) ∧
((x2 : Int) < ((k5 : Nat) : Int)) ∧
aE A4 fun js jX =>
aM wD ⟨js, (jX + ((Int.toNat x2) * 3)), none⟩ (.int .u64 eR) fun ru =>
aM ru ⟨js, ((jX + ((Int.toNat x2) * 3)) + 1), none⟩ (.int .u64 oG) fun Ql =>
aM Ql ⟨js, ((jX + ((Int.toNat x2) * 3)) + 2), none⟩ (.int .i64 rq) fun pN =>
K (.tuple #[]) pN) :
 aa Tryz.prog 154 ([.pointer (some ⟨b0, o0, none⟩), .int .i64 x1, .int .i64 x2] : List Value).toArray M K Kp :=
 cz (C := Cx) good [(0, .bS [0, 1, 3, 7, 0, 0, 32, 96, 224, 0, 0, 1024, 3072, 7168, 0, 31744, 64512, 0, 131072, 393216, 917504, 0, 4063232, 8257536, 16776703, 33553919, 67108863, 134217727] (.step 0 (.step 1 (.step 2 (.step 4 (.step 5 (.step 6 (.step 7 (.step 9 (.step 10 (.step 11 (.step 12 (.step 14 (.step 17 (.step 18 (.step 19 (.step 21 (.step 3 (.step 8 (.step 13 (.step 15 (.step 16 (.step 20 (.step 22 (.step 23 (.step 24 (.step 25 (.step 26 (.step 27 .done)))))))))))))))))))))))))))))] Tryz.func154 (by kernel_rfl) (by kernel_rfl) h
theorem uO {b0 o0 : Nat} {x1 : Int} (h :
aa Tryz.prog 186 #[(.pointer (some ⟨b0, o0, none⟩)), (iV x1)] M (fun v1 M2 =>
aI (some v1) .i64 fun n3 =>
∃ I4 : IT, (∃ k5, I4 k5 [(iV x1), (iV n3)] M2) ∧
∀ (k6 : Nat) (_ : Nat → Value) (n8 : Int) (n9 : Int) (iE : Mem), (I4 k6 [(iV n8), (iV n9)] iE) → aP (n9 != n8)
 (aa Tryz.prog 154 #[(.pointer (some ⟨b0, o0, none⟩)), (iV n8), (iV n9)] iE (fun v11 oF =>
 (v11 = (.tuple #[])) ∧
 aa Tryz.prog 186 #[(.pointer (some ⟨b0, o0, none⟩)), (iV n9)] oF (fun Ix kD =>
 aI (some Ix) .i64 fun lB =>
 ∃ eX : Nat, (eX < k6) ∧
 I4 eX [(iV n9), (iV lB)] kD) Kp) Kp)
 (K (.tuple #[]) iE)) Kp) :
 aa Tryz.prog 155 #[.pointer (some ⟨b0, o0, none⟩), .int .i64 x1] M K Kp := vw [(2000000, .loop [(1, .c (.int .i64)), (4, .c (.int .i64))])] Tryz.func155 h
theorem yj {b0 o0 : Nat} {x1 : Int} (h :
∃ I1 : Nat → List Value → Mem → Prop, (∃ k2 : Nat, I1 k2 [(.int .i64 x1)] M) ∧
∀ k3 : Nat, ∀ SE : Nat → Value, ∀ n5 : Int, ∀ M6 : Mem, (I1 k3 [(.int .i64 n5)] M6) → aP (decide ((n5 : Int) > 0))
 (((4 : Int) ≠ 0) ∧
 aB (Mem.ld M6 ⟨b0, o0, none⟩) fun A7 k8 k9 =>
 ((0 : Int) ≤ n5) ∧
 ((n5 : Int) < ((k8 : Nat) : Int)) ∧
 aE A7 fun fR eu =>
 aI (Mem.ld M6 ⟨fR, (eu + ((Int.toNat n5) * 3)), none⟩) .u64 fun j5 =>
 aI (Mem.ld M6 ⟨fR, ((eu + ((Int.toNat n5) * 3)) + 1), none⟩) .u64 fun j6 =>
 aI (Mem.ld M6 ⟨fR, ((eu + ((Int.toNat n5) * 3)) + 2), none⟩) .i64 fun nx =>
 aB (Mem.ld M6 ⟨b0, o0, none⟩) fun l8 eX dn =>
 ((0 : Int) ≤ (IntKind.wrap .i64 (Int.tdiv (IntKind.wrap .i64 (n5 - 1)) 4))) ∧
 (((IntKind.wrap .i64 (Int.tdiv (IntKind.wrap .i64 (n5 - 1)) 4)) : Int) < ((eX : Nat) : Int)) ∧
 aE l8 fun fM jW =>
 aI (Mem.ld M6 ⟨fM, (jW + ((Int.toNat (IntKind.wrap .i64 (Int.tdiv (IntKind.wrap .i64 (n5 - 1)) 4))) * 3)), none⟩) .u64 fun eR =>
 aI (Mem.ld M6 ⟨fM, ((jW + ((Int.toNat (IntKind.wrap .i64 (Int.tdiv (IntKind.wrap .i64 (n5 - 1)) 4))) * 3)) + 1), none⟩) .u64 fun oG =>
 aI (Mem.ld M6 ⟨fM, ((jW + ((Int.toNat (IntKind.wrap .i64 (Int.tdiv (IntKind.wrap .i64 (n5 - 1)) 4))) * 3)) + 2), none⟩) .i64 fun rq =>
 aa Tryz.prog 187 #[(.agg #[(.int .u64 j5), (.int .u64 j6), (.int .i64 nx)]), (.agg #[(.int .u64 eR), (.int .u64 oG), (.int .i64 rq)])] M6 (fun v23 kF =>
 c7 (some v23) fun t25 =>
 aP t25
  (((4 : Int) ≠ 0) ∧
  aa Tryz.prog 154 #[(.pointer (some ⟨b0, o0, none⟩)), (.int .i64 n5), (.int .i64 (IntKind.wrap .i64 (Int.tdiv (IntKind.wrap .i64 (n5 - 1)) 4)))] kF (fun v26 wD =>
  (v26 = (.tuple #[])) ∧
  ((4 : Int) ≠ 0) ∧
  ∃ js : Nat, (js < k3) ∧
  I1 js [(.int .i64 (IntKind.wrap .i64 (Int.tdiv (IntKind.wrap .i64 (n5 - 1)) 4)))] wD) Kp)
  (K (.tuple #[]) kF)) Kp)
 (K (.tuple #[]) M6)) :
 aa Tryz.prog 156 ([.pointer (some ⟨b0, o0, none⟩), .int .i64 x1] : List Value).toArray M K Kp :=
 cz (C := Cx) good [(2000000, .loop [(1, .c (.int .i64))]), (0, .bS [0, 1, 3, 7, 15, 31, 63, 7, 255, 511, 7, 1031, 3079, 7175, 7, 16391, 49159, 130055, 261127, 524287, 1048575] (.step 0 (.step 1 (.step 2 (.step 3 (.step 4 (.step 5 (.step 7 (.step 10 (.step 11 (.step 12 (.step 14 (.step 15 (.step 16 (.step 6 (.step 8 (.step 9 (.step 13 (.step 17 (.step 18 (.step 19 (.step 20 .done))))))))))))))))))))))] Tryz.func156 (by kernel_rfl) (by kernel_rfl) h
theorem tF {b0 o0 : Nat} {cL : Int} {cN : Int} {cR : Int} {eY : Int} (h :
aX M (cl [(iV cL), (iV cN), (iV cR), (iV eY)] 27) fun k1 M2 =>
K (.tuple #[]) M2) :
 aa Tryz.prog 225 #[.pointer (some ⟨b0, o0, none⟩), .agg #[.int .i64 cL, .int .i64 cN, .int .i64 cR, .int .i64 eY]] M K Kp := vw [] Tryz.func225 h
theorem m6 {b0 o0 : Nat} {cL : Int} {cN : Int} {cR : Int} {eY : Int} (h :
aX M (cl [(iV cL), (iV cN), (iV cR), (iV eY)] 27) fun k1 M2 =>
rI M2 k1 1 fun n3 =>
rI M2 k1 2 fun n4 =>
(0 ≤ n3) ∧
(n3 < 8) ∧
sT M2 b0 ((o0 + 2) + (Int.toNat n3)) (iV n4) fun M5 =>
K (.tuple #[]) M5) :
 aa Tryz.prog 226 #[.pointer (some ⟨b0, o0, none⟩), .agg #[.int .i64 cL, .int .i64 cN, .int .i64 cR, .int .i64 eY]] M K Kp := vw [(1, .bS [0, 0, 2, 0, 8, 1, 33, 127, 255] (sy [0, 1, 3, 5, 6, 2, 4, 7, 8] .done))] Tryz.func226 h
theorem rX {b0 o0 : Nat} {cL : Int} {cN : Int} {cR : Int} {eY : Int} (h :
aX M (cl [(iV cL), (iV cN), (iV cR), (iV eY)] 27) fun k1 M2 =>
rI M2 k1 1 fun n3 =>
rI M2 k1 2 fun n4 =>
(0 ≤ n4) ∧
(n4 < 8) ∧
rI M2 b0 ((o0 + 2) + (Int.toNat n4)) fun n5 =>
(0 ≤ n3) ∧
(n3 < 8) ∧
sT M2 b0 ((o0 + 2) + (Int.toNat n3)) (iV n5) fun M6 =>
K (.tuple #[]) M6) :
 aa Tryz.prog 227 #[.pointer (some ⟨b0, o0, none⟩), .agg #[.int .i64 cL, .int .i64 cN, .int .i64 cR, .int .i64 eY]] M K Kp := vw [(1, .bS [0, 0, 2, 0, 0, 16, 8, 72, 248, 504, 1, 1025, 4095, 8191] (sy [0, 1, 3, 4, 6, 7, 10, 11, 2, 5, 8, 9, 12, 13] .done))] Tryz.func227 h
theorem tG {b0 o0 : Nat} {cL : Int} {cN : Int} {cR : Int} {eY : Int} (h :
aX M (cl [(iV cL), (iV cN), (iV cR), (iV eY)] 27) fun k1 M2 =>
rI M2 k1 1 fun n3 =>
rI M2 k1 2 fun n4 =>
(0 ≤ n4) ∧
(n4 < 8) ∧
rI M2 b0 ((o0 + 2) + (Int.toNat n4)) fun n5 =>
rI M2 k1 3 fun n6 =>
(0 ≤ n6) ∧
(n6 < 8) ∧
rI M2 b0 ((o0 + 2) + (Int.toNat n6)) fun n7 =>
(0 ≤ n3) ∧
(n3 < 8) ∧
sT M2 b0 ((o0 + 2) + (Int.toNat n3)) (iV (IntKind.wrap .i64 (n5 + n7))) fun M8 =>
K (.tuple #[]) M8) :
 aa Tryz.prog 228 #[.pointer (some ⟨b0, o0, none⟩), .agg #[.int .i64 cL, .int .i64 cN, .int .i64 cR, .int .i64 eY]] M K Kp := vw [(1, .bS [0, 0, 2, 0, 0, 16, 8, 72, 248, 504, 0, 0, 2048, 1024, 9216, 31744, 64512, 131064, 1, 262145, 1048575, 2097151] (sy [0, 1, 3, 4, 6, 7, 10, 11, 13, 14, 18, 19, 2, 5, 8, 9, 12, 15, 16, 17, 20, 21] .done))] Tryz.func228 h
theorem tH {b0 o0 : Nat} {cL : Int} {cN : Int} {cR : Int} {eY : Int} (h :
aX M (cl [(iV cL), (iV cN), (iV cR), (iV eY)] 27) fun k1 M2 =>
rI M2 k1 1 fun n3 =>
rI M2 k1 2 fun n4 =>
(0 ≤ n4) ∧
(n4 < 8) ∧
rI M2 b0 ((o0 + 2) + (Int.toNat n4)) fun n5 =>
rI M2 k1 3 fun n6 =>
(0 ≤ n6) ∧
(n6 < 8) ∧
rI M2 b0 ((o0 + 2) + (Int.toNat n6)) fun n7 =>
(0 ≤ n3) ∧
(n3 < 8) ∧
sT M2 b0 ((o0 + 2) + (Int.toNat n3)) (iV (IntKind.wrap .i64 (n5 - n7))) fun M8 =>
K (.tuple #[]) M8) :
 aa Tryz.prog 229 #[.pointer (some ⟨b0, o0, none⟩), .agg #[.int .i64 cL, .int .i64 cN, .int .i64 cR, .int .i64 eY]] M K Kp := vw [(1, .bS [0, 0, 2, 0, 0, 16, 8, 72, 248, 504, 0, 0, 2048, 1024, 9216, 31744, 64512, 131064, 1, 262145, 1048575, 2097151] (sy [0, 1, 3, 4, 6, 7, 10, 11, 13, 14, 18, 19, 2, 5, 8, 9, 12, 15, 16, 17, 20, 21] .done))] Tryz.func229 h
theorem tI {b0 o0 : Nat} {cL : Int} {cN : Int} {cR : Int} {eY : Int} (h :
aX M (cl [(iV cL), (iV cN), (iV cR), (iV eY)] 27) fun k1 M2 =>
rI M2 k1 1 fun n3 =>
rI M2 k1 2 fun n4 =>
(0 ≤ n4) ∧
(n4 < 8) ∧
rI M2 b0 ((o0 + 2) + (Int.toNat n4)) fun n5 =>
rI M2 k1 3 fun n6 =>
(0 ≤ n6) ∧
(n6 < 8) ∧
rI M2 b0 ((o0 + 2) + (Int.toNat n6)) fun n7 =>
(0 ≤ n3) ∧
(n3 < 8) ∧
sT M2 b0 ((o0 + 2) + (Int.toNat n3)) (iV (IntKind.wrap .i64 (n5 * n7))) fun M8 =>
K (.tuple #[]) M8) :
 aa Tryz.prog 230 #[.pointer (some ⟨b0, o0, none⟩), .agg #[.int .i64 cL, .int .i64 cN, .int .i64 cR, .int .i64 eY]] M K Kp := vw [(1, .bS [0, 0, 2, 0, 0, 16, 8, 72, 248, 504, 0, 0, 2048, 1024, 9216, 31744, 64512, 131064, 1, 262145, 1048575, 2097151] (sy [0, 1, 3, 4, 6, 7, 10, 11, 13, 14, 18, 19, 2, 5, 8, 9, 12, 15, 16, 17, 20, 21] .done))] Tryz.func230 h
theorem rY {b0 o0 : Nat} {cL : Int} {cN : Int} {cR : Int} {eY : Int} (h :
aX M (cl [(iV cL), (iV cN), (iV cR), (iV eY)] 27) fun k1 M2 =>
rI M2 k1 2 fun n3 =>
(0 ≤ n3) ∧
(n3 < 8) ∧
rI M2 b0 ((o0 + 2) + (Int.toNat n3)) fun n4 =>
rI M2 k1 3 fun n5 =>
(0 ≤ n5) ∧
(n5 < 8) ∧
rI M2 b0 ((o0 + 2) + (Int.toNat n5)) fun n6 =>
rI M2 k1 1 fun n7 =>
(0 ≤ n7) ∧
(n7 < 8) ∧
sT M2 b0 ((o0 + 2) + (Int.toNat n7)) (iV 0) fun M8 =>
aP (decide (n4 < n6))
 (rI M8 k1 1 fun n9 =>
 (0 ≤ n9) ∧
 (n9 < 8) ∧
 sT M8 b0 ((o0 + 2) + (Int.toNat n9)) (iV 1) fun iE =>
 K (.tuple #[]) iE)
 (K (.tuple #[]) M8)) :
 aa Tryz.prog 231 #[.pointer (some ⟨b0, o0, none⟩), .agg #[.int .i64 cL, .int .i64 cN, .int .i64 cR, .int .i64 eY]] M K Kp := vw [(1, .bS [0, 0, 2, 1, 9, 31, 63, 0, 0, 256, 128, 1152, 3968, 8064, 16383, 32767] (sy [0, 1, 3, 4, 7, 8, 10, 11, 2, 5, 6, 9, 12, 13, 14, 15] .done)), (2, .bS [0, 0, 2, 1, 9, 31, 63] (sy [0, 1, 3, 4, 2, 5, 6] .done)), (4, .bS [0, 0, 2, 1, 9, 31, 63] (sy [0, 1, 3, 4, 2, 5, 6] .done))] Tryz.func231 h
theorem rZ {b0 o0 : Nat} {cL : Int} {cN : Int} {cR : Int} {eY : Int} (h :
aX M (cl [(iV cL), (iV cN), (iV cR), (iV eY)] 27) fun k1 M2 =>
rI M2 k1 1 fun n3 =>
sT M2 b0 (o0 + 1) (iV n3) fun M4 =>
K (.tuple #[]) M4) :
 aa Tryz.prog 232 #[.pointer (some ⟨b0, o0, none⟩), .agg #[.int .i64 cL, .int .i64 cN, .int .i64 cR, .int .i64 eY]] M K Kp := vw [] Tryz.func232 h
theorem oO {b0 o0 : Nat} {cL : Int} {cN : Int} {cR : Int} {eY : Int} (h :
aX M (cl [(iV cL), (iV cN), (iV cR), (iV eY)] 27) fun k1 M2 =>
rI M2 k1 1 fun n3 =>
(0 ≤ n3) ∧
(n3 < 8) ∧
rI M2 b0 ((o0 + 2) + (Int.toNat n3)) fun n4 =>
aP (n4 != 0)
 (rI M2 k1 2 fun n5 =>
 sT M2 b0 (o0 + 1) (iV n5) fun M6 =>
 K (.tuple #[]) M6)
 (K (.tuple #[]) M2)) :
 aa Tryz.prog 233 #[.pointer (some ⟨b0, o0, none⟩), .agg #[.int .i64 cL, .int .i64 cN, .int .i64 cR, .int .i64 eY]] M K Kp := vw [(1, .bS [0, 0, 2, 1, 9, 31, 63, 127] (sy [0, 1, 3, 4, 2, 5, 6, 7] .done))] Tryz.func233 h
theorem m7 {b0 o0 : Nat} {cL : Int} {cN : Int} {cR : Int} {x2 : Int} (h :
aX M (cl [(iV cL), (iV cN), (iV cR)] 280) fun k1 M2 =>
rS M2 b0 (o0 + 4) fun A3 k4 k5 =>
rI M2 k1 0 fun n6 =>
(0 ≤ n6) ∧
(n6 < k4) ∧
aE A3 fun k7 k8 =>
rP M2 k7 (k8 + (Int.toNat n6)) fun A9 =>
aE A9 fun fR eu =>
rS M2 fR (eu + 1) fun rz cX gT =>
rS M2 b0 (o0 + 4) fun l8 eX dn =>
rI M2 k1 0 fun lQ =>
(0 ≤ lQ) ∧
(lQ < eX) ∧
aE l8 fun jW iU =>
rP M2 jW (iU + (Int.toNat lQ)) fun C2 =>
aE C2 fun gO iM =>
bN M2 gO (iM + 2) fun wI lR oM wH =>
(True) ∧
aa Tryz.prog 189 #[(.slice rz cX gT)] M2 (fun Qg mY =>
cy (some Qg) fun Pr =>
((Mem.fK mY ⟨gO, (iM + 2), none⟩ 0 4) = some [(iV wI), (iV lR), (iV oM), (iV wH)]) ∧
((Mem.ld mY ⟨jW, (iU + (Int.toNat lQ)), none⟩) = (some (.pointer C2))) ∧
eI mY k1 0 lQ ∧
((Mem.ld mY ⟨b0, (o0 + 4), none⟩) = (some (.slice l8 eX dn))) ∧
aE Pr fun qR yg =>
aX mY wj fun vH m5 =>
kQ m5 vH (iV wI) (iV lR) (iV oM) (iV wH) fun mE =>
((Mem.fK mE ⟨gO, (iM + 2), none⟩ 0 4) = some [(iV wI), (iV lR), (iV oM), (iV wH)]) ∧
((Mem.ld mE ⟨jW, (iU + (Int.toNat lQ)), none⟩) = (some (.pointer C2))) ∧
eI mE k1 0 lQ ∧
((Mem.ld mE ⟨b0, (o0 + 4), none⟩) = (some (.slice l8 eX dn))) ∧
rI mE vH 0 fun MI =>
aP (MI == 16)
 (rS mE b0 (o0 + 3) fun A40 zm F4 =>
 rI mE vH 1 fun BS =>
 rI mE k1 1 fun AE =>
 ((0 : Int) ≤ (IntKind.wrap .i64 (BS + AE))) ∧
 (((IntKind.wrap .i64 (BS + AE)) : Int) < (zm : Int)) ∧
 aE A40 fun F5 AA =>
 rI mE F5 ((AA + ((Int.toNat (IntKind.wrap .i64 (BS + AE))) * 3)) + 2) fun AT =>
 rI mE k1 2 fun yh =>
 (0 ≤ AT) ∧
 (AT < 8) ∧
 sT mE qR ((yg + 2) + (Int.toNat AT)) (iV yh) fun vF =>
 rII vF k1 0 fun C7 Ba =>
 aa Tryz.prog 251 #[(.pointer (some ⟨b0, o0, none⟩)), (iV C7), (iV Ba)] vF (fun v52 GW =>
 (v52 = (.tuple #[])) ∧
 rI GW k1 0 fun Qn =>
 aa Tryz.prog 158 #[(.pointer (some ⟨b0, o0, none⟩)), (iV Qn)] GW (fun TR Lt =>
 (TR = (.tuple #[])) ∧
 K (.tuple #[]) Lt) Kp) Kp)
 (rI mE vH 2 fun Pv =>
 rI mE k1 2 fun BT =>
 (0 ≤ Pv) ∧
 (Pv < 8) ∧
 rI mE vH 3 fun AB =>
 sT mE qR ((yg + 2) + (Int.toNat Pv)) (iV BT) fun vG =>
 eI vG vH 3 AB ∧
 (0 ≤ AB) ∧
 (AB < 8) ∧
 sT vG qR ((yg + 2) + (Int.toNat AB)) (iV x2) fun wz =>
 eI wz vH 3 AB ∧
 rI wz k1 0 fun IL =>
 aa Tryz.prog 158 #[(.pointer (some ⟨b0, o0, none⟩)), (iV IL)] wz (fun v63 Ng =>
 (v63 = (.tuple #[])) ∧
 K (.tuple #[]) Ng) Kp)) Kp) :
 aa Tryz.prog 238 #[.pointer (some ⟨b0, o0, none⟩), .agg #[.int .i64 cL, .int .i64 cN, .int .i64 cR], .int .i64 x2] M K Kp := vw [(1, .bS [0, 1, 3, 7, 0, 16, 63, 127, 255, 511, 1023, 0, 2048, 6144, 14336, 0, 32768, 129024, 260096, 522240, 1046528, 2095104, 4192256, 8386560, 16775168, 0, 41943039, 134217727] (sy [0, 1, 2, 4, 11, 12, 13, 15, 14, 16, 17, 18, 19, 20, 21] (.dD 3 (.dD 5 (sy [6] (.dD 7 (sy [8, 9] (.dD 10 (.late 22 (sy [23, 24, 25, 26, 27] .done)))))))))), (3, .bS [0, 0, 2, 6, 14, 30, 0, 64, 0, 256, 960, 2046, 4094, 8190, 0, 16384, 1, 131071, 262143] (sy [0, 1, 2, 3, 4, 6, 8, 14, 16, 5, 7, 9, 10, 11, 12, 13, 15, 17, 18] .done)), (5, .bS [0, 0, 2, 0, 0, 16, 0, 64, 0, 1, 711, 1735, 8, 8191, 16383] (sy [0, 1, 3, 4, 6, 8, 9, 12, 2, 7, 10] (.dD 5 (sy [11, 13, 14] .done))))] Tryz.func238 h
theorem r7 {b0 o0 : Nat} {cL : Int} {cN : Int} {cR : Int} (h :
aX M (cl [(iV cL), (iV cN), (iV cR)] 280) fun k1 M2 =>
rS M2 b0 (o0 + 4) fun A3 k4 k5 =>
rI M2 k1 0 fun n6 =>
(0 ≤ n6) ∧
(n6 < k4) ∧
aE A3 fun k7 k8 =>
rP M2 k7 (k8 + (Int.toNat n6)) fun A9 =>
aE A9 fun fR eu =>
rI M2 fR (eu + 2) fun j5 =>
aP (j5 == 16)
 (rI M2 k1 0 fun j6 =>
 rI M2 k1 1 fun nx =>
 aa Tryz.prog 251 #[(.pointer (some ⟨b0, o0, none⟩)), (iV j6), (iV nx)] M2 (fun C3 fL =>
 (C3 = (.tuple #[])) ∧
 rI fL k1 0 fun jH =>
 aa Tryz.prog 158 #[(.pointer (some ⟨b0, o0, none⟩)), (iV jH)] fL (fun C0 jq =>
 (C0 = (.tuple #[])) ∧
 K (.tuple #[]) jq) Kp) Kp)
 (rI M2 k1 0 fun eR =>
 aa Tryz.prog 158 #[(.pointer (some ⟨b0, o0, none⟩)), (iV eR)] M2 (fun Qo dK =>
 (Qo = (.tuple #[])) ∧
 K (.tuple #[]) dK) Kp)) :
 aa Tryz.prog 240 #[.pointer (some ⟨b0, o0, none⟩), .agg #[.int .i64 cL, .int .i64 cN, .int .i64 cR]] M K Kp := vw [(1, .bS [0, 1, 3, 7, 0, 16, 63, 127, 255, 511, 1023, 2047, 4095] (sy [0, 1, 2, 4, 3, 5, 6, 7, 8, 9, 10, 11, 12] .done))] Tryz.func240 h
theorem r8 {B0 : Option Addr} {m0 c0 : Nat} {x1 : Int} {x2 : Int} {x3 : Int} (h :
aP (decide ((m0 : Int) ≥ 16))
 (K (.tuple #[(.slice B0 m0 c0), (.bool false)]) M)
 (((0 : Int) ≤ m0) ∧
 ((m0 : Int) ≤ c0) ∧
 ((0 : Int) ≤ m0) ∧
 ((m0 : Int) ≤ m0) ∧
 ((0 : Int) ≤ 0) ∧
 ((0 : Int) ≤ m0) ∧
 aX M (cl [(iV x1), (iV 0), (iV x2), (iV 0), (iV 0), (iV 0), (iV 0), (iV 0), (iV 0), (iV 0), (iV x3)] 275) fun k1 M2 =>
 bk Tryz.prog (Go.Builtin.append_ #[226, 226] 226 #[(.slice (lO B0 0 (Int.toNat (m0 : Int)) 11) ((Int.toNat (m0 : Int)) - 0) ((Int.toNat (m0 : Int)) - 0)), (.slice (some ⟨k1, 0, none⟩) 1 1)]) M2 (fun v3 M4 =>
 aB (some v3) fun A5 k6 k7 =>
 K (.tuple #[(.slice A5 k6 k7), (.bool true)]) M4) Kp)) :
 aa Tryz.prog 241 #[.slice B0 m0 c0, .int .i64 x1, .int .i64 x2, .int .i64 x3] M K Kp := vw [] Tryz.func241 h
theorem oP {B0 : Option Addr} {m0 c0 : Nat} {x1 : Int} (h :
aP (decide ((m0 : Int) < 2))
 (K (.tuple #[(.slice none 0 0), (.bool false)]) M)
 (aX M (cl [] 275) fun k1 M2 =>
 ((0 : Int) ≤ c0) ∧
 ((c0 : Int) ≤ c0) ∧
 ((0 : Int) ≤ (IntKind.wrap .i64 ((m0 : Int) - 1))) ∧
 (((IntKind.wrap .i64 ((m0 : Int) - 1)) : Int) ≤ (c0 : Int)) ∧
 ((0 : Int) ≤ 0) ∧
 ((0 : Int) ≤ (IntKind.wrap .i64 ((m0 : Int) - 1))) ∧
 bk Tryz.prog (Go.Builtin.append_ #[226, 226] 226 #[(.slice (some ⟨k1, 0, none⟩) 0 0), (.slice (lO B0 0 (Int.toNat (c0 : Int)) 11) ((Int.toNat (IntKind.wrap .i64 ((m0 : Int) - 1))) - 0) ((Int.toNat (c0 : Int)) - 0))]) M2 (fun v3 M4 =>
 aB (some v3) fun A5 k6 k7 =>
 aa Tryz.prog 189 #[(.slice A5 k6 k7)] M4 (fun v8 M9 =>
 cy (some v8) fun BR =>
 aE BR fun eu gJ =>
 aa Tryz.prog 189 #[(.slice B0 m0 c0)] M9 (fun Ix kD =>
 cy (some Ix) fun l8 =>
 aE l8 fun eX dn =>
 rI kD eX (dn + 10) fun lQ =>
 (0 ≤ lQ) ∧
 (lQ < 8) ∧
 sT kD eu ((gJ + 2) + (Int.toNat lQ)) (iV x1) fun jq =>
 K (.tuple #[(.slice A5 k6 k7), (.bool true)]) jq) Kp) Kp) Kp)) :
 aa Tryz.prog 242 #[.slice B0 m0 c0, .int .i64 x1] M K Kp := vw [(4, .bS [0, 1, 0, 7, 15, 31, 63, 0, 3, 259, 1023, 2047] (sy [0, 2, 7, 1, 8, 9, 3, 4, 5, 6, 10, 11] .done))] Tryz.func242 h
theorem uP {b0 o0 : Nat} {x1 : Int} {x2 : Int} (h :
aB (Mem.ld M ⟨b0, o0, none⟩) fun A1 k2 k3 =>
aI (Mem.ld M ⟨b0, (o0 + 1), none⟩) .u64 fun n4 =>
aX M (.cells #[(.int .u64 x1), (.int .u64 n4), (.int .i64 x2)] 203 (0, 0)) fun k5 M6 =>
bk Tryz.prog (Go.Builtin.append_ #[46, 46] 46 #[(.slice A1 k2 k3), (.slice (some ⟨k5, 0, none⟩) 1 1)]) M6 (fun v7 M8 =>
aB (some v7) fun A9 fR eu =>
aM M8 ⟨b0, o0, none⟩ (.slice A9 fR eu) fun oF =>
aI (Mem.ld oF ⟨b0, (o0 + 1), none⟩) .u64 fun j6 =>
aM oF ⟨b0, (o0 + 1), none⟩ (.int .u64 (IntKind.wrap .u64 (j6 + 1))) fun kD =>
aB (Mem.ld kD ⟨b0, o0, none⟩) fun l8 eX dn =>
aa Tryz.prog 156 #[(.pointer (some ⟨b0, o0, none⟩)), (.int .i64 (IntKind.wrap .i64 (((eX : Nat) : Int) - 1)))] kD (fun C0 jq =>
(C0 = (.tuple #[])) ∧
aI (Mem.ld jq ⟨b0, (o0 + 1), none⟩) .u64 fun eR =>
K (.int .u64 (IntKind.wrap .u64 (eR - 1))) jq) Kp) Kp) :
 aa Tryz.prog 244 ([.pointer (some ⟨b0, o0, none⟩), .int .u64 x1, .int .i64 x2] : List Value).toArray M K Kp :=
 cz (C := Cx) good [(1, .bS [0, 0, 2, 6, 14, 0, 0, 64, 192, 448, 0, 2016, 4064, 8190, 16383, 32767, 65535] (.step 0 (.step 1 (.step 2 (.step 3 (.step 5 (.step 6 (.step 7 (.step 8 (.step 10 (.step 4 (.step 9 (.step 11 (.step 12 (.step 13 (.step 14 (.step 15 (.step 16 .done))))))))))))))))))] Tryz.func244 (by kernel_rfl) (by kernel_rfl) h
theorem tJ {b0 o0 : Nat} {x1 : Int} (h :
rI M b0 o0 fun n1 =>
aP (n1 != (-1))
 (rS M b0 (o0 + 1) fun A2 k3 k4 =>
 aX M (cl [(iV x1)] 3) fun k5 M6 =>
 aA 36 A2 k3 k4 (some ⟨k5, 0, none⟩) 1 1 M6 (fun v7 M8 =>
 aB (some v7) fun A9 fR eu =>
 sT M8 b0 (o0 + 1) (.slice A9 fR eu) fun oF =>
 K (.bool false) oF) Kp)
 (sT M b0 o0 (iV x1) fun mZ =>
 K (.bool true) mZ)) :
 aa Tryz.prog 245 #[.pointer (some ⟨b0, o0, none⟩), .int .i64 x1] M K Kp := vw [] Tryz.func245 h
theorem tK {b0 o0 : Nat} {x1 : Int} (h :
rI M b0 o0 fun n1 =>
aP (n1 == (-1))
 (K (.tuple #[(iV (-1)), (iV 5)]) M)
 (rI M b0 o0 fun n2 =>
 aP (n2 != x1)
 (K (.tuple #[(iV (-1)), (iV 5)]) M)
 (sT M b0 o0 (iV (-1)) fun M3 =>
 rS M3 b0 (o0 + 1) fun A4 k5 k6 =>
 aP (decide ((k5 : Int) > 0))
 (rS M3 b0 (o0 + 1) fun A7 k8 k9 =>
 ((0 : Int) ≤ 0) ∧
 ((0 : Int) < k8) ∧
 aE A7 fun fR eu =>
 rI M3 fR (eu + 0) fun j5 =>
 sT M3 b0 o0 (iV j5) fun mZ =>
 aX mZ (cl [] 3) fun gT uM =>
 rS uM b0 (o0 + 1) fun Lv dn fM =>
 ((0 : Int) ≤ fM) ∧
 ((fM : Int) ≤ fM) ∧
 ((0 : Int) ≤ dn) ∧
 ((dn : Int) ≤ fM) ∧
 ((0 : Int) ≤ 1) ∧
 ((1 : Int) ≤ dn) ∧
 bk Tryz.prog (Go.Builtin.append_ #[36, 36] 36 #[(.slice (some ⟨gT, 0, none⟩) 0 0), (.slice (lO Lv 1 (Int.toNat (fM : Int)) 1) ((Int.toNat (dn : Int)) - 1) ((Int.toNat (fM : Int)) - 1))]) uM (fun TY uE =>
 aB (some TY) fun C2 gO iM =>
 sT uE b0 (o0 + 1) (.slice C2 gO iM) fun kF =>
 rI kF b0 o0 fun lR =>
 K (.tuple #[(iV lR), (iV 0)]) kF) Kp)
 (rI M3 b0 o0 fun oM =>
 K (.tuple #[(iV oM), (iV 0)]) M3)))) :
 aa Tryz.prog 246 #[.pointer (some ⟨b0, o0, none⟩), .int .i64 x1] M K Kp := vw [] Tryz.func246 h
theorem tL {b0 o0 : Nat} {x1 : Int} (h :
∃ I1 : Nat → List Value → Mem → Prop, (∃ k2 : Nat, I1 k2 [(.int .i64 x1), (.int .i64 (IntKind.wrap .i64 ((IntKind.wrap .i64 (4 * x1)) + 1)))] M) ∧
∀ k3 : Nat, ∀ SE : Nat → Value, ∀ n5 : Int, ∀ n6 : Int, ∀ M7 : Mem, (I1 k3 [(.int .i64 n5), (.int .i64 n6)] M7) → aP (decide ((n6 : Int) ≤ (IntKind.wrap .i64 ((IntKind.wrap .i64 (4 * x1)) + 4))))
 (aB (Mem.ld M7 ⟨b0, o0, none⟩) fun A8 k9 fR =>
 aP (decide ((n6 : Int) < ((k9 : Nat) : Int)))
  (aB (Mem.ld M7 ⟨b0, o0, none⟩) fun Nd gJ cX =>
  ((0 : Int) ≤ n6) ∧
  ((n6 : Int) < ((gJ : Nat) : Int)) ∧
  aE Nd fun gT iF =>
  aI (Mem.ld M7 ⟨gT, (iF + ((Int.toNat n6) * 3)), none⟩) .u64 fun oH =>
  aI (Mem.ld M7 ⟨gT, ((iF + ((Int.toNat n6) * 3)) + 1), none⟩) .u64 fun jH =>
  aI (Mem.ld M7 ⟨gT, ((iF + ((Int.toNat n6) * 3)) + 2), none⟩) .i64 fun lQ =>
  aB (Mem.ld M7 ⟨b0, o0, none⟩) fun yM iU fV =>
  ((0 : Int) ≤ n5) ∧
  ((n5 : Int) < ((iU : Nat) : Int)) ∧
  aE yM fun gO iM =>
  aI (Mem.ld M7 ⟨gO, (iM + ((Int.toNat n5) * 3)), none⟩) .u64 fun wI =>
  aI (Mem.ld M7 ⟨gO, ((iM + ((Int.toNat n5) * 3)) + 1), none⟩) .u64 fun lR =>
  aI (Mem.ld M7 ⟨gO, ((iM + ((Int.toNat n5) * 3)) + 2), none⟩) .i64 fun oM =>
  aa Tryz.prog 187 #[(.agg #[(.int .u64 oH), (.int .u64 jH), (.int .i64 lQ)]), (.agg #[(.int .u64 wI), (.int .u64 lR), (.int .i64 oM)])] M7 (fun Qf DP =>
  c7 (some Qf) fun t29 =>
  aP t29
   (∃ l9 : Nat, (l9 < k3) ∧
   I1 l9 [(.int .i64 n6), (.int .i64 (IntKind.wrap .i64 (n6 + 1)))] DP)
   (∃ qR : Nat, (qR < k3) ∧
   I1 qR [(.int .i64 n5), (.int .i64 (IntKind.wrap .i64 (n6 + 1)))] DP)) Kp)
  (K (.int .i64 n5) M7))
 (K (.int .i64 n5) M7)) :
 aa Tryz.prog 186 ([.pointer (some ⟨b0, o0, none⟩), .int .i64 x1] : List Value).toArray M K Kp :=
 cz (C := Cx) good [(2000000, .loop [(5, .c (.int .i64)), (6, .c (.int .i64))]), (5, .bS [0, 1, 3, 7, 0, 31, 63, 0, 128, 384, 896, 0, 3968, 8064, 16383] (.step 0 (.step 1 (.step 2 (.step 4 (.step 7 (.step 8 (.step 9 (.step 11 (.step 3 (.step 5 (.step 6 (.step 10 (.step 12 (.step 13 (.step 14 .done))))))))))))))))] Tryz.func186 (by kernel_rfl) (by kernel_rfl) h
theorem zA {zq : Int} {zu : Int} {fD : Int} {cL : Int} {cN : Int} {cR : Int} (h :
aX M (cl [(.int .u64 zq), (.int .u64 zu), (iV fD)] 203) fun k1 M2 =>
aX M2 (cl [(.int .u64 cL), (.int .u64 cN), (iV cR)] 203) fun k3 M4 =>
rU M4 k1 0 fun n5 =>
rU M4 k3 0 fun n6 =>
aP (decide (n5 < n6))
 (K (.bool true) M4)
 (rU M4 k1 0 fun n7 =>
 rU M4 k3 0 fun n8 =>
 aP (n7 == n8)
 (rU M4 k1 1 fun n9 =>
 rU M4 k3 1 fun lE =>
 K (.bool (decide (n9 < lE))) M4)
 (K (.bool false) M4))) :
 aa Tryz.prog 187 #[.agg #[.int .u64 zq, .int .u64 zu, .int .i64 fD], .agg #[.int .u64 cL, .int .u64 cN, .int .i64 cR]] M K Kp := vw [] Tryz.func187 h
theorem oQ {b0 o0 : Nat} {x1 : Int} {x2 : Int} (h :
rS M b0 (o0 + 4) fun A1 k2 k3 =>
((0 : Int) ≤ x1) ∧
((x1 : Int) < k2) ∧
aE A1 fun k4 k5 =>
rP M k4 (k5 + (Int.toNat x1)) fun A6 =>
aE A6 fun k7 k8 =>
bN M k7 (k8 + 2) fun n9 lE ig j5 =>
aX M wj fun cX kD =>
kQ kD cX (iV n9) (iV lE) (iV ig) (iV j5) fun rD =>
rS rD b0 (o0 + 4) fun yM iU fV =>
((0 : Int) ≤ x1) ∧
((x1 : Int) < iU) ∧
aE yM fun gO iM =>
rP rD gO (iM + (Int.toNat x1)) fun Pq =>
aE Pq fun tr pM =>
rS rD tr (pM + 1) fun SF js jX =>
rI rD cX 3 fun GS =>
aa Tryz.prog 189 #[(.slice SF js jX)] rD (fun P9 pN =>
cy (some P9) fun GJ =>
eI pN cX 3 GS ∧
aE GJ fun uF wB =>
(0 ≤ GS) ∧
(GS < 8) ∧
sT pN uF ((wB + 2) + (Int.toNat GS)) (iV x2) fun F3 =>
eI F3 cX 3 GS ∧
rS F3 b0 (o0 + 6) fun GX fW sV =>
aa Tryz.prog 252 #[(iV x1), (.slice GX fW sV)] F3 (fun Kg C6 =>
(Kg = (.tuple #[])) ∧
K (.tuple #[]) C6) Kp) Kp) :
 aa Tryz.prog 251 #[.pointer (some ⟨b0, o0, none⟩), .int .i64 x1, .int .i64 x2] M K Kp := vw [(1, .bS [0, 1, 3, 7, 0, 31, 63, 127, 255, 511, 1023, 0, 2048, 0, 2047, 18431, 65535, 131071] (sy [0, 1, 2, 4, 11, 13, 3, 5, 6, 7, 8, 9] (.dD 12 (sy [10, 14, 15, 16, 17] .done))))] Tryz.func251 h
end Go.Proofs
namespace Go.Proofs
open Go.AF
set_option maxRecDepth 100000
theorem C8 {iW : Option Addr} {iX iY : Nat} {iZ : Option Addr} {ja jb : Nat} {fD : Int} {g9 : Option Addr} {hG hH : Nat} {M : Mem} {K : Value → Mem → Prop} {Kp : List PanicEntry → Mem → Prop} (h :
aX M (cl [(.slice iW iX iY), (.slice iZ ja jb), (iV fD), (.slice g9 hG hH)] 39) fun k1 M2 =>
lZ M2 k1 0 fun A3 k4 k5 A6 k7 k8 n9 BR eu gJ =>
aa Tryz.prog 112 #[(iV 0), (iV 0)] M2 (fun Ix kD =>
aB (some Ix) fun l8 eX dn =>
((Mem.fK kD ⟨k1, 0, none⟩ 0 4) = some [(.slice A3 k4 k5), (.slice A6 k7 k8), (iV n9), (.slice BR eu gJ)]) ∧
aX kD (cl [(iV 1), (.slice l8 eX dn), (iV 0), (iV 0), (iV 0), (iV 0)] 229) fun fM jq =>
aX jq (cl [(.pointer (some ⟨fM, 0, none⟩))] 224) fun iU kj =>
aX kj (cl [(.slice A3 k4 k5), (.slice A6 k7 k8), (iV n9), (.slice BR eu gJ), (.slice (some ⟨iU, 0, none⟩) 1 1), (.int .u64 0), (.slice none 0 0), (.slice none 0 0), (.slice none 0 0), (.int .u64 0), (.slice none 0 0), (iV 0), (iV 0), (.slice none 0 0), .nilFunc] 161) fun gO mD =>
rS mD k1 1 fun Pq tr pM =>
∃ I27 : IT, (∃ js, I27 js [(iV 0)] mD) ∧
∀ (jX : Nat) (_ : Nat → Value) (yL : Int) (pN : Mem), (I27 jX [(iV yL)] pN) → aP (decide (yL < tr))
 ((0 ≤ yL) ∧
 (yL < tr) ∧
 aE Pq fun vH uF =>
 rI pN vH (uF + (Int.toNat yL)) fun IK =>
 ∃ J36 : List Value → Mem → Prop, ((rS pN gO 6 fun GX fW sV =>
 aa Tryz.prog 113 #[(iV IK)] pN (fun Kg C6 =>
 cy (some Kg) fun J7 =>
 aX C6 (cl [(.pointer J7)] 230) fun ko vJ =>
 aA 156 GX fW sV (some ⟨ko, 0, none⟩) 1 1 vJ (fun v45 BX =>
 aB (some v45) fun A47 Lu Kh =>
 sT BX gO 6 (.slice A47 Lu Kh) fun qP =>
 J36 [] qP) Kp) Kp) ∧
 (aa Tryz.prog 113 #[(iV IK)] pN (fun TZ Qk =>
 cy (some TZ) fun A53 =>
 rS Qk gO 6 fun Yc Yd IM =>
 aX Qk (cl [(.pointer A53)] 230) fun wK SH =>
 aA 156 Yc Yd IM (some ⟨wK, 0, none⟩) 1 1 SH (fun v59 vG =>
 aB (some v59) fun Ye EO GY =>
 sT vG gO 6 (.slice Ye EO GY) fun Ng =>
 J36 [] Ng) Kp) Kp) ∧
 True) ∧
 ∀ junk65 : Nat → Value, ∀ Qi : Mem, (J36 [] Qi) → ∃ yl : Nat, (yl < jX) ∧
 I27 yl [(iV (IntKind.wrap .i64 (yL + 1)))] Qi)
 (rI pN k1 2 fun MY =>
 ∃ I69 : IT, (∃ BY, I69 BY [(iV 0)] pN) ∧
 ∀ (Kk : Nat) (_ : Nat → Value) (ML : Int) (EN : Mem), (I69 Kk [(iV ML)] EN) → aP (decide (ML < MY))
 (∃ J75 : List Value → Mem → Prop, ((rS EN gO 7 fun A76 T3 Kl =>
 aa Tryz.prog 114 #[] EN (fun v79 jn =>
 cy (some v79) fun T4 =>
 aX jn (cl [(.pointer T4)] 232) fun GZ C9 =>
 aA 157 A76 T3 Kl (some ⟨GZ, 0, none⟩) 1 1 C9 (fun v84 M85 =>
 aB (some v84) fun A86 Qp Km =>
 sT M85 gO 7 (.slice A86 Qp Km) fun EP =>
 J75 [] EP) Kp) Kp) ∧
 (aa Tryz.prog 114 #[] EN (fun Nh mK =>
 cy (some Nh) fun T5 =>
 rS mK gO 7 fun A93 Qq k95 =>
 aX mK (cl [(.pointer T5)] 232) fun T6 F7 =>
 aA 157 A93 Qq k95 (some ⟨T6, 0, none⟩) 1 1 F7 (fun v98 Qr =>
 aB (some v98) fun T7 T8 ER =>
 sT Qr gO 7 (.slice T7 T8 ER) fun T9 =>
 J75 [] T9) Kp) Kp) ∧
 True) ∧
 ∀ junk104 : Nat → Value, ∀ Qs : Mem, (J75 [] Qs) → ∃ uQ : Nat, (uQ < Kk) ∧
 I69 uQ [(iV (IntKind.wrap .i64 (ML + 1)))] Qs)
 (K (.pointer (some ⟨gO, 0, none⟩)) EN))) Kp) :
 aa Tryz.prog 56 #[.agg #[.slice iW iX iY, .slice iZ ja jb, .int .i64 fD, .slice g9 hG hH]] M K Kp := vw [(1, .bS [0, 0, 2, 6, 14, 31, 63, 127] (.dD 0 (sy [1, 2, 3, 4, 5, 6, 7] .done))), (2000000, .loop [(16, .c (.int .i64))]), (5, .CS [0, 0, 2, 6, 14, 0, 32, 96, 254, 511, 1023, 2047] (sy [0, 1, 2, 3, 5] (.fork 4 (sy [6, 7, 8, 9, 10, 11] .done) (.fork 6 (sy [4, 7, 8, 9, 10, 11] .done) .dead))) []), (2000002, .loop [(34, .c (.int .i64))]), (9, .CS [0, 0, 2, 6, 14, 0, 32, 126, 255, 511, 1023] (sy [0, 1, 2, 3] (.fork 4 (sy [5, 6, 7, 8, 9, 10] .done) (.fork 5 (sy [4, 6, 7, 8, 9, 10] .done) .dead))) [])] Tryz.func56 h
theorem kq {b0 o0 : Nat} {x1 : Int} {u2 : Value} {M : Mem} {K : Value → Mem → Prop} {Kp : List PanicEntry → Mem → Prop} (h :
aX M (.cells #[(.bool false), (.slice none 0 0)] 250 (0, 0)) fun k1 M2 =>
aP (decide ((x1 : Int) < 0))
 (aM M2 ⟨k1, 0, none⟩ (.bool false) fun M3 =>
 aM M3 ⟨k1, (0 + 1), none⟩ (.slice none 0 0) fun M4 =>
 c7 (Mem.ld M4 ⟨k1, 0, none⟩) fun t5 =>
 aB (Mem.ld M4 ⟨k1, (0 + 1), none⟩) fun A6 k7 k8 =>
 K (.agg #[(.bool t5), (.slice A6 k7 k8)]) M4)
 (aB (Mem.ld M2 ⟨b0, (o0 + 4), none⟩) fun A9 fR eu =>
 aP (decide ((x1 : Int) ≥ ((fR : Nat) : Int)))
  (aM M2 ⟨k1, 0, none⟩ (.bool false) fun oF =>
  aM oF ⟨k1, (0 + 1), none⟩ (.slice none 0 0) fun mZ =>
  c7 (Mem.ld mZ ⟨k1, 0, none⟩) fun t14 =>
  aB (Mem.ld mZ ⟨k1, (0 + 1), none⟩) fun l8 eX dn =>
  K (.agg #[(.bool t14), (.slice l8 eX dn)]) mZ)
  (aI (Mem.ld M2 ⟨b0, (o0 + 11), none⟩) .i64 fun lQ =>
  aP (lQ != 0)
   (aM M2 ⟨k1, 0, none⟩ (.bool false) fun jq =>
   aM jq ⟨k1, (0 + 1), none⟩ (.slice none 0 0) fun uE =>
   c7 (Mem.ld uE ⟨k1, 0, none⟩) fun t21 =>
   aB (Mem.ld uE ⟨k1, (0 + 1), none⟩) fun GV iM mX =>
   K (.agg #[(.bool t21), (.slice GV iM mX)]) uE)
   (aB (Mem.ld M2 ⟨b0, (o0 + 4), none⟩) fun TQ pM lP =>
   ((0 : Int) ≤ x1) ∧
   ((x1 : Int) < ((pM : Nat) : Int)) ∧
   aE TQ fun js jX =>
   cy (Mem.ld M2 ⟨js, (jX + (Int.toNat x1)), none⟩) fun Pr =>
   aE Pr fun qR yg =>
   aI (Mem.ld M2 ⟨qR, yg, none⟩) .i64 fun tu =>
   aP (tu != 1)
    (aM M2 ⟨k1, 0, none⟩ (.bool false) fun m5 =>
    aM m5 ⟨k1, (0 + 1), none⟩ (.slice none 0 0) fun vK =>
    c7 (Mem.ld vK ⟨k1, 0, none⟩) fun t36 =>
    aB (Mem.ld vK ⟨k1, (0 + 1), none⟩) fun GX fW sV =>
    K (.agg #[(.bool t36), (.slice GX fW sV)]) vK)
    (aM M2 ⟨b0, (o0 + 13), none⟩ (.slice none 0 0) fun Qj =>
    yU u2 <|
    aM Qj ⟨b0, (o0 + 14), none⟩ u2 fun C6 =>
    aa Tryz.prog 159 #[(.pointer (some ⟨b0, o0, none⟩)), (.int .i64 x1)] C6 (fun v42 wJ =>
    c7 (some v42) fun t44 =>
    aP (!t44)
     (aI (Mem.ld wJ ⟨b0, (o0 + 11), none⟩) .i64 fun tC =>
     aP (tC == 0)
      (aB (Mem.ld wJ ⟨b0, (o0 + 4), none⟩) fun A46 EF Lu =>
      ((0 : Int) ≤ x1) ∧
      ((x1 : Int) < ((EF : Nat) : Int)) ∧
      aE A46 fun Kh ye =>
      cy (Mem.ld wJ ⟨Kh, (ye + (Int.toNat x1)), none⟩) fun Pp =>
      aE Pp fun kS nR =>
      aI (Mem.ld wJ ⟨kS, nR, none⟩) .i64 fun Qn =>
      aB (Mem.ld wJ ⟨b0, (o0 + 13), none⟩) fun Ua IM wK =>
      aM wJ ⟨k1, 0, none⟩ (.bool (Qn == 1)) fun SH =>
      aM SH ⟨k1, (0 + 1), none⟩ (.slice Ua IM wK) fun AH =>
      c7 (Mem.ld AH ⟨k1, 0, none⟩) fun t60 =>
      aB (Mem.ld AH ⟨k1, (0 + 1), none⟩) fun Ye EO GY =>
      K (.agg #[(.bool t60), (.slice Ye EO GY)]) AH)
      (aB (Mem.ld wJ ⟨b0, (o0 + 13), none⟩) fun Yf Yg DS =>
      aM wJ ⟨k1, 0, none⟩ (.bool false) fun W2 =>
      aM W2 ⟨k1, (0 + 1), none⟩ (.slice Yf Yg DS) fun Ub =>
      c7 (Mem.ld Ub ⟨k1, 0, none⟩) fun t69 =>
      aB (Mem.ld Ub ⟨k1, (0 + 1), none⟩) fun A70 Kk ES =>
      K (.agg #[(.bool t69), (.slice A70 Kk ES)]) Ub))
     (aB (Mem.ld wJ ⟨b0, (o0 + 13), none⟩) fun A73 Pw Uc =>
     aM wJ ⟨k1, 0, none⟩ (.bool false) fun W0 =>
     aM W0 ⟨k1, (0 + 1), none⟩ (.slice A73 Pw Uc) fun Qt =>
     c7 (Mem.ld Qt ⟨k1, 0, none⟩) fun t78 =>
     aB (Mem.ld Qt ⟨k1, (0 + 1), none⟩) fun Ud ET Ni =>
     K (.agg #[(.bool t78), (.slice Ud ET Ni)]) Qt)) Kp))))) :
 aa Tryz.prog 121 ([.pointer (some ⟨b0, o0, none⟩), .int .i64 x1, u2] : List Value).toArray M K Kp :=
 cz (C := Cx) good [(5, .bS [0, 1, 3, 7, 15, 31, 63, 127, 255, 511, 1023, 2047, 4095, 8191, 1023, 32767, 65535, 131071, 262143, 524287, 1048575, 2097151, 0, 4194304, 12582912, 29360128, 67108863, 134217727] (.step 0 (.step 1 (.step 2 (.step 3 (.step 4 (.step 5 (.step 22 (.step 23 (.step 24 (.step 6 (.step 7 (.step 8 (.step 9 (.step 10 (.step 11 (.step 12 (.step 14 (.step 13 (.step 15 (.step 16 (.step 17 (.step 18 (.step 19 (.step 20 (.step 21 (.step 25 (.step 26 (.step 27 .done)))))))))))))))))))))))))))))] Tryz.func121 (by kernel_rfl) (by kernel_rfl) h
theorem qb {b0 o0 : Nat} {M : Mem} {K : Value → Mem → Prop} {Kp : List PanicEntry → Mem → Prop} (h :
aI (Mem.ld M ⟨b0, (o0 + 11), none⟩) .i64 fun n1 =>
aP (n1 != 0)
 (K (.bool false) M)
 (aB (Mem.ld M ⟨b0, (o0 + 4), none⟩) fun A2 k3 k4 =>
 ∃ I5 : Nat → List Value → Mem → Prop, (∃ k6 : Nat, I5 k6 [(.int .i64 0)] M) ∧
 ∀ k7 : Nat, ∀ junk8 : Nat → Value, ∀ n9 : Int, ∀ iE : Mem, (I5 k7 [(.int .i64 n9)] iE) → aP (decide ((n9 : Int) < ((k3 : Nat) : Int)))
  (((0 : Int) ≤ n9) ∧
  ((n9 : Int) < ((k3 : Nat) : Int)) ∧
  aE A2 fun eu gJ =>
  cy (Mem.ld iE ⟨eu, (gJ + (Int.toNat n9)), none⟩) fun F2 =>
  aE F2 fun gT iF =>
  aI (Mem.ld iE ⟨gT, iF, none⟩) .i64 fun oH =>
  aP (oH == 1)
   (K (.bool false) iE)
   (aE F2 fun dn fM =>
   aI (Mem.ld iE ⟨dn, fM, none⟩) .i64 fun xF =>
   aP (xF == 3)
    (K (.bool false) iE)
    (∃ iU : Nat, (iU < k7) ∧
    I5 iU [(.int .i64 (IntKind.wrap .i64 (n9 + 1)))] iE)))
  (K (.bool true) iE))) :
 aa Tryz.prog 65 ([.pointer (some ⟨b0, o0, none⟩)] : List Value).toArray M K Kp :=
 cz (C := Cx) good [(2000000, .loop [(15, .c (.int .i64))])] Tryz.func65 (by kernel_rfl) (by kernel_rfl) h
variable {M : Mem} {K : Value → Mem → Prop} {Kp : List PanicEntry → Mem → Prop}
theorem wL {B0 : Option Addr} {m0 c0 : Nat} (h :
aX M (cl [] 32) fun k1 M2 =>
aA 31 (some ⟨k1, 0, none⟩) 0 0 B0 m0 c0 M2 (fun v3 M4 =>
aB (some v3) fun A5 k6 k7 =>
aX M4 (cl [(.slice A5 k6 k7), (iV 0)] 147) fun k8 M9 =>
aX M9 (.cells #[(.func (.func 59) #[(.pointer (some ⟨k8, 0, none⟩))] #[]), (.func (.func 60) #[(.pointer (some ⟨k8, 0, none⟩))] #[]), (.slice none 0 0), .nilFunc] 152 (0, 0)) fun fR lC =>
K (.pointer (some ⟨fR, 0, none⟩)) lC) Kp) :
 aa Tryz.prog 16 #[.slice B0 m0 c0] M K Kp := vw [] Tryz.func16 h
theorem oR {b0 o0 : Nat} {x1 : Int} {x2 : Int} (h :
aI (Mem.ld M ⟨b0, (o0 + 1), none⟩) .i64 fun n1 =>
aB (Mem.ld M ⟨b0, o0, none⟩) fun A2 k3 k4 =>
aP (decide ((n1 : Int) ≥ ((k3 : Nat) : Int)))
 (Kp [{ v := (.iface 240 (.agg #[])), recovered := false }] M)
 (aI (Mem.ld M ⟨b0, (o0 + 1), none⟩) .i64 fun n5 =>
 aM M ⟨b0, (o0 + 1), none⟩ (.int .i64 (IntKind.wrap .i64 (n5 + 1))) fun M6 =>
 aB (Mem.ld M6 ⟨b0, o0, none⟩) fun A7 k8 k9 =>
 aI (Mem.ld M6 ⟨b0, (o0 + 1), none⟩) .i64 fun lE =>
 ((0 : Int) ≤ (IntKind.wrap .i64 (lE - 1))) ∧
 (((IntKind.wrap .i64 (lE - 1)) : Int) < ((k8 : Nat) : Int)) ∧
 aE A7 fun eu gJ =>
 aI (Mem.ld M6 ⟨eu, (gJ + (Int.toNat (IntKind.wrap .i64 (lE - 1)))), none⟩) .u64 fun j6 =>
 (((IntKind.wrap .u64 x2) : Int) ≠ 0) ∧
 K (.int .u64 (Int.tmod j6 (IntKind.wrap .u64 x2))) M6)) :
 aa Tryz.prog 59 ([.pointer (some ⟨b0, o0, none⟩), .int .i64 x1, .int .i64 x2] : List Value).toArray M K Kp :=
 cz (C := Cx) good [(1, .bS [0, 1, 3, 7, 0, 16, 48, 112, 240, 511] (.step 0 (.step 1 (.step 2 (.step 4 (.step 5 (.step 6 (.step 3 (.step 7 (.step 8 (.step 9 .done))))))))))), (4, .bS [0, 1, 3, 7, 0, 16, 48, 112, 240, 511, 1023, 0, 2048, 8191, 16383] (.step 0 (.step 1 (.step 2 (.step 4 (.step 5 (.step 6 (.step 11 (.step 12 (.step 3 (.step 7 (.step 8 (.step 9 (.step 10 (.step 13 (.step 14 .done))))))))))))))))] Tryz.func59 (by kernel_rfl) (by kernel_rfl) h
theorem ym {u0 : Value} (h :
aX M jA fun k1 M2 =>
aX M2 Mv fun k3 M4 =>
aX M4 jA fun k5 M6 =>
sT M6 k3 0 (iV 0) fun M7 =>
TM M7 k5 (iV 0) (iV 0) (iV 0) (iV 0) (.int .u64 0) fun oF =>
aa Tryz.prog 116 #[u0, (.pointer (some ⟨k3, 0, none⟩)), (.pointer (some ⟨k5, 0, none⟩))] oF (fun Ix kD =>
(Ix = (.tuple #[])) ∧
rI kD k3 0 fun lB =>
CV kD k5 0 fun oH jH lQ xF eR =>
TM kD k1 (iV oH) (iV jH) (iV lQ) (iV xF) (.int .u64 eR) fun DR =>
CV DR k1 0 fun oM wH xC xI GS =>
K (.tuple #[(iV lB), (.agg #[(iV oM), (iV wH), (iV xC), (iV xI), (.int .u64 GS)])]) DR) Kp) :
 aa Tryz.prog 61 #[u0] M K Kp := vw [(3, .bS [0, 0, 1, 7] (sy [0, 2, 1, 3] .done))] Tryz.func61 h
theorem r9 {b0 o0 : Nat} {x1 : Int} {x2 : Int} (h :
aI (Mem.ld M ⟨b0, (o0 + 1), none⟩) .i64 fun n1 =>
aB (Mem.ld M ⟨b0, o0, none⟩) fun A2 k3 k4 =>
aP (decide ((n1 : Int) ≥ ((k3 : Nat) : Int)))
 (Kp [{ v := (.iface 240 (.agg #[])), recovered := false }] M)
 (aB (Mem.ld M ⟨b0, o0, none⟩) fun A5 k6 k7 =>
 aI (Mem.ld M ⟨b0, (o0 + 1), none⟩) .i64 fun n8 =>
 ((0 : Int) ≤ n8) ∧
 ((n8 : Int) < ((k6 : Nat) : Int)) ∧
 aE A5 fun k9 fR =>
 aI (Mem.ld M ⟨k9, (fR + ((Int.toNat n8) * 2)), none⟩) .i64 fun ig =>
 aI (Mem.ld M ⟨k9, ((fR + ((Int.toNat n8) * 2)) + 1), none⟩) .u64 fun j5 =>
 aX M (.cells #[(.int .i64 0), (.int .u64 0)] 95 (0, 0)) fun cX kD =>
 aM kD ⟨cX, 0, none⟩ (.int .i64 ig) fun uM =>
 aM uM ⟨cX, (0 + 1), none⟩ (.int .u64 j5) fun fL =>
 aI (Mem.ld fL ⟨cX, 0, none⟩) .i64 fun jH =>
 aP (jH != x1)
  (aI (Mem.ld fL ⟨b0, (o0 + 1), none⟩) .i64 fun lQ =>
  aI (Mem.ld fL ⟨cX, 0, none⟩) .i64 fun xF =>
  aI (Mem.ld fL ⟨cX, (0 + 1), none⟩) .u64 fun eR =>
  Kp [{ v := (.iface 97 (.agg #[(.int .i64 lQ), (.int .i64 x1), (.int .i64 x2), (.int .i64 xF), (.int .u64 eR)])), recovered := false }] fL)
  (aI (Mem.ld fL ⟨cX, (0 + 1), none⟩) .u64 fun oG =>
  aP (decide ((oG : Int) ≥ (IntKind.wrap .u64 x2)))
   (aI (Mem.ld fL ⟨b0, (o0 + 1), none⟩) .i64 fun rq =>
   aI (Mem.ld fL ⟨cX, 0, none⟩) .i64 fun nS =>
   aI (Mem.ld fL ⟨cX, (0 + 1), none⟩) .u64 fun wI =>
   Kp [{ v := (.iface 97 (.agg #[(.int .i64 rq), (.int .i64 x1), (.int .i64 x2), (.int .i64 nS), (.int .u64 wI)])), recovered := false }] fL)
   (aI (Mem.ld fL ⟨b0, (o0 + 1), none⟩) .i64 fun lR =>
   aM fL ⟨b0, (o0 + 1), none⟩ (.int .i64 (IntKind.wrap .i64 (lR + 1))) fun wG =>
   aI (Mem.ld wG ⟨cX, (0 + 1), none⟩) .u64 fun wH =>
   K (.int .u64 wH) wG)))) :
 aa Tryz.prog 198 ([.pointer (some ⟨b0, o0, none⟩), .int .i64 x1, .int .i64 x2] : List Value).toArray M K Kp :=
 cz (C := Cx) good [(1, .bS [0, 1, 3, 7, 0, 16, 48, 112, 240, 511] (.step 0 (.step 1 (.step 2 (.step 4 (.step 5 (.step 6 (.step 3 (.step 7 (.step 8 (.step 9 .done))))))))))), (3, .bS [0, 1, 3, 7, 0, 16, 48, 112, 255, 511, 0, 2047] (.step 0 (.step 1 (.step 2 (.step 4 (.step 5 (.step 6 (.step 3 (.step 7 (.step 8 (.step 9 (.step 10 (.step 11 .done))))))))))))), (5, .bS [0, 1, 3, 7, 0, 0, 0, 127, 255, 511] (.step 0 (.step 1 (.step 2 (.step 4 (.step 5 (.step 3 (.step 6 (.step 7 (.step 8 (.step 9 .done)))))))))))] Tryz.func198 (by kernel_rfl) (by kernel_rfl) h
theorem oS {b0 o0 : Nat} {x1 : Int} {x2 : Int} (h :
eN (Mem.ld M ⟨b0, o0, none⟩) fun v1 =>
gZ Cx v1 [(iV x1), (iV (if (1 : Int) > x2 then 1 else x2))] M (fun v2 M3 =>
aI (some v2) .u64 fun n4 =>
aX M3 P5 fun k5 M6 =>
XS M6 k5 (iV x1) (.int .u64 n4) fun M8 =>
rS M8 b0 (o0 + 2) fun A9 fR eu =>
rIU M8 k5 0 fun j5 j6 =>
aX M8 (cl [(iV j5), (.int .u64 j6)] 95) fun gT uM =>
aA 149 A9 fR eu (some ⟨gT, 0, none⟩) 1 1 uM (fun MX ox =>
aB (some MX) fun Ki jW iU =>
sT ox b0 (o0 + 2) (.slice Ki jW iU) fun kj =>
eN (Mem.ld kj ⟨b0, (o0 + 3), none⟩) fun GK =>
xm GK fun t23 =>
aP (!t23)
 (eN (Mem.ld kj ⟨b0, (o0 + 3), none⟩) fun Ya =>
 rIU kj k5 0 fun lR oM =>
 gZ Cx Ya [(.agg #[(iV lR), (.int .u64 oM)])] kj (fun Qf DP =>
 (Qf = (.tuple #[])) ∧
 rU DP k5 1 fun xI =>
 K (iV (IntKind.wrap .i64 xI)) DP) Kp)
 (rU kj k5 1 fun GS =>
 K (iV (IntKind.wrap .i64 GS)) kj)) Kp) Kp) :
 aa Tryz.prog 107 #[.pointer (some ⟨b0, o0, none⟩), .int .i64 x1, .int .i64 x2] M K Kp := vw [(2, .bS [0, 0, 2, 6, 14, 0, 32, 126, 255, 511, 1023] (sy [0, 1, 2, 3, 4, 5, 6, 7, 8, 9, 10] .done)), (4, .bS [0, 1, 3, 7, 0, 31] (sy [0, 1, 2, 3, 4, 5] .done))] Tryz.func107 h
end Go.Proofs
namespace Go.Proofs
open Go.AF
set_option maxRecDepth 100000
variable {M : Mem} {K : Value → Mem → Prop} {Kp : List PanicEntry → Mem → Prop}
theorem Da {b0 o0 : Nat} {b1 o1 : Nat} {x2 : Int} {u3 : Value} (h :
aX M (cl [(.pointer (some ⟨b0, o0, none⟩))] 33) fun k1 M2 =>
aX M2 (cl [(.pointer (some ⟨b1, o1, none⟩))] 40) fun k3 M4 =>
aX M4 (cl [(iV x2)] 3) fun k5 M6 =>
aX M6 (.cells (u3.cells) 100 (0, 0)) fun k7 M8 =>
aX M8 yJ fun k9 iE =>
aX iE jA fun eu oF =>
aX oF yJ fun cX kD =>
aX kD P6 fun iF fL =>
aX fL P7 fun dn rD =>
sT rD dn 0 (.pointer (some ⟨iF, 0, none⟩)) fun jq =>
aa Tryz.prog 61 #[(.func (.func 79) #[] #[(.pointer (some ⟨k5, 0, none⟩)), (.pointer (some ⟨k1, 0, none⟩)), (.pointer (some ⟨dn, 0, none⟩)), (.pointer (some ⟨k3, 0, none⟩)), (.pointer (some ⟨cX, 0, none⟩)), (.pointer (some ⟨k7, 0, none⟩))])] jq (fun v20 kj =>
∃ rq nS wI lR oM wH : Int, (v20 = (.tuple #[(iV rq), (.agg #[(iV nS), (iV wI), (iV lR), (iV oM), (.int .u64 wH)])])) ∧
aX kj jA fun js mY =>
TM mY js (iV nS) (iV wI) (iV lR) (iV oM) (.int .u64 wH) fun m5 =>
rP m5 k3 0 fun Yb =>
aa Tryz.prog 80 #[(.pointer Yb), .nilFunc] m5 (fun Yh xK =>
(Yh = (.tuple #[])) ∧
rSS xK cX 0 fun Qu sV xD Qm F4 ko =>
CV xK js 0 fun AE tC EL AT yh =>
XS xK k9 (.slice Qu sV xD) (.slice Qm F4 ko) fun qP =>
((Mem.fK qP ⟨js, 0, none⟩ 0 5) = some [(iV AE), (iV tC), (iV EL), (iV AT), (.int .u64 yh)]) ∧
TM qP eu (iV AE) (iV tC) (iV EL) (iV AT) (.int .u64 yh) fun qS =>
((Mem.fK qS ⟨js, 0, none⟩ 0 5) = some [(iV AE), (iV tC), (iV EL), (iV AT), (.int .u64 yh)]) ∧
rSS qS k9 0 fun Nj wK xE Ue AI Qv =>
CV qS eu 0 fun IL yf n64 wA TP =>
K (.tuple #[(.agg #[(.slice Nj wK xE), (.slice Ue AI Qv)]), (iV rq), (.agg #[(iV IL), (iV yf), (iV n64), (iV wA), (.int .u64 TP)])]) qS) Kp) Kp) :
 aa Tryz.prog 33 #[.pointer (some ⟨b0, o0, none⟩), .pointer (some ⟨b1, o1, none⟩), .int .i64 x2, u3] M K Kp := vw [(5, .bS [0, 0, 0, 1, 11, 31] (sy [1, 0] (.dD 2 (sy [3, 4, 5] .done))))] Tryz.func33 h
theorem zB {b0 o0 : Nat} {b1 o1 : Nat} {b2 o2 : Nat} {b3 o3 : Nat} {b4 o4 : Nat} {b5 o5 : Nat} (h :
∃ I1 : IT, (∃ k2, I1 k2 [(iV 0)] M) ∧
∀ (k3 : Nat) (_ : Nat → Value) (n5 : Int) (M6 : Mem), (I1 k3 [(iV n5)] M6) → rI M6 b0 o0 fun n7 =>
aP (decide (n5 < n7))
 (rP M6 b1 o1 fun A8 =>
 aa Tryz.prog 22 #[(.pointer A8)] M6 (fun v9 iE =>
 aI (some v9) .i64 fun ig =>
 aP (ig == 0)
 (rP iE b2 o2 fun rz =>
 aE rz fun cX gT =>
 sT iE cX gT (iV 0) fun uM =>
 rP uM b3 o3 fun Lv =>
 rP uM b2 o2 fun ID =>
 aa Tryz.prog 80 #[(.pointer Lv), (.func (.func 81) #[(.pointer ID)] #[])] uM (fun C0 jq =>
 (C0 = (.tuple #[])) ∧
 rP jq b1 o1 fun W1 =>
 aa Tryz.prog 54 #[(.pointer W1)] jq (fun Qo dK =>
 ∃ nS wI lR : Int, ∃ Bb : Option Addr, ∃ lP js : Nat, (Qo = (.agg #[(iV nS), (iV wI), (iV lR), (.slice Bb lP js)])) ∧
 aX dK wk fun jX ru =>
 kQ ru jX (iV nS) (iV wI) (iV lR) (.slice Bb lP js) fun m5 =>
 rP m5 b1 o1 fun Yb =>
 EB m5 jX 0 fun vI J4 EE Qa xD zm =>
 rP m5 b2 o2 fun J7 =>
 aE J7 fun ko IE =>
 rI m5 ko IE fun tC =>
 aa Tryz.prog 35 #[(.pointer Yb)] m5 (fun Uf pT =>
 aI (some Uf) .i64 fun yh =>
 eI pT ko IE tC ∧
 ((Mem.ld pT ⟨b2, o2, none⟩) = (some (.pointer J7))) ∧
 ((Mem.fK pT ⟨jX, 0, none⟩ 0 4) = some [(iV vI), (iV J4), (iV EE), (.slice Qa xD zm)]) ∧
 aa Tryz.prog 82 #[(.pointer (some ⟨b4, o4, none⟩)), (.agg #[(iV vI), (iV J4), (iV EE), (.slice Qa xD zm)]), (iV (IntKind.wrap .i64 (yh - 1))), (iV tC)] pT (fun GI qP =>
 (GI = (.tuple #[])) ∧
 eI qP ko IE tC ∧
 ((Mem.ld qP ⟨b2, o2, none⟩) = (some (.pointer J7))) ∧
 ((Mem.fK qP ⟨jX, 0, none⟩ 0 4) = some [(iV vI), (iV J4), (iV EE), (.slice Qa xD zm)]) ∧
 eN (Mem.ld qP ⟨b5, o5, none⟩) fun TZ =>
 xm TZ fun t52 =>
 aP (!t52)
 (eN (Mem.ld qP ⟨b5, o5, none⟩) fun v53 =>
 EB qP jX 0 fun Qn SI F8 Qc xE MK =>
 gZ Cx v53 [(.agg #[(iV Qn), (iV SI), (iV F8), (.slice Qc xE MK)])] qP (fun v60 wz =>
 (v60 = (.tuple #[])) ∧
 ∃ EO : Nat, (EO < k3) ∧
 I1 EO [(iV (IntKind.wrap .i64 (n5 + 1)))] wz) Kp)
 (∃ GY : Nat, (GY < k3) ∧
 I1 GY [(iV (IntKind.wrap .i64 (n5 + 1)))] qP)) Kp) Kp) Kp) Kp)
 (K (.tuple #[]) iE)) Kp)
 (K (.tuple #[]) M6)) :
 aa Tryz.prog 79 #[.pointer (some ⟨b0, o0, none⟩), .pointer (some ⟨b1, o1, none⟩), .pointer (some ⟨b2, o2, none⟩), .pointer (some ⟨b3, o3, none⟩), .pointer (some ⟨b4, o4, none⟩), .pointer (some ⟨b5, o5, none⟩)] M K Kp := vw [(2000000, .loop [(6, .c (.int .i64))]), (6, .bS [0, 0, 2, 6, 0, 16, 48, 112, 255] (sy [1] (.dD 0 (.dD 4 (sy [5, 6] (.dD 7 (sy [2, 3, 8] .done)))))))] Tryz.func79 h
theorem yn {iW : Option Addr} {iX iY : Nat} {iZ : Option Addr} {ja jb : Nat} {fD : Int} {g9 : Option Addr} {hG hH : Nat} {B1 : Option Addr} {m1 c1 : Nat} (h :
aX M (cl [(.slice iW iX iY), (.slice iZ ja jb), (iV fD), (.slice g9 hG hH)] 39) fun k1 M2 =>
lZ M2 k1 0 fun A3 k4 k5 A6 k7 k8 n9 BR eu gJ =>
aa Tryz.prog 56 #[(.agg #[(.slice A3 k4 k5), (.slice A6 k7 k8), (iV n9), (.slice BR eu gJ)])] M2 (fun Ix kD =>
cy (some Ix) fun l8 =>
∃ SJ : IT, (∃ dn, SJ dn [(iV 0)] kD) ∧
∀ (fM : Nat) (_ : Nat → Value) (eR : Int) (kj : Mem), (SJ fM [(iV eR)] kj) → aP (decide (eR < m1))
 ((0 ≤ eR) ∧
 (eR < m1) ∧
 aE B1 fun gO iM =>
 rBII kj gO (iM + ((Int.toNat eR) * 3)) fun t24 lR oM =>
 aX kj JZ fun lP DP =>
 F0 DP lP (.bool t24) (iV lR) (iV oM) fun Ql =>
 aa Tryz.prog 28 #[(.pointer l8)] Ql (fun Ug sS =>
 ∃ Ps IK : Int, (Ug = (.tuple #[(iV Ps), (iV IK)])) ∧
 aP (Ps != 0)
 (K (.tuple #[(.pointer l8), (iV eR)]) sS)
 (rB sS lP 0 fun t36 =>
 aP t36
 (aa Tryz.prog 120 #[(.pointer l8)] sS (fun X3 mE =>
 aB (some X3) fun Qa xD zm =>
 ∃ F4 : Nat, (F4 < fM) ∧
 SJ F4 [(iV (IntKind.wrap .i64 (eR + 1)))] mE) Kp)
 (rI sS lP 1 fun BS =>
 aa Tryz.prog 119 #[(.pointer l8), (iV BS)] sS (fun v44 pY =>
 aI (some v44) .i64 fun EL =>
 aP (EL != 1)
 (K (.tuple #[(.pointer l8), (iV eR)]) pY)
 (aX pY XT fun EF IC =>
 sT IC EF 0 (.bool true) fun vF =>
 rI vF lP 1 fun C7 =>
 aa Tryz.prog 121 #[(.pointer l8), (iV C7), (.func (.func 122) #[] #[(.pointer (some ⟨lP, 0, none⟩)), (.pointer (some ⟨EF, 0, none⟩))])] vF (fun TZ Qk =>
 ∃ t53 : Bool, ∃ Yc : Option Addr, ∃ Yd IM : Nat, (TZ = (.agg #[(.bool t53), (.slice Yc Yd IM)])) ∧
 rB Qk EF 0 fun t57 =>
 aP (!t57)
 (K (.tuple #[(.pointer l8), (iV eR)]) Qk)
 (∃ xE : Nat, (xE < fM) ∧
 SJ xE [(iV (IntKind.wrap .i64 (eR + 1)))] Qk)) Kp)) Kp))) Kp)
 (K (.tuple #[(.pointer l8), (iV (m1 : Int))]) kj)) Kp) :
 aa Tryz.prog 77 #[.agg #[.slice iW iX iY, .slice iZ ja jb, .int .i64 fD, .slice g9 hG hH], .slice B1 m1 c1] M K Kp := vw [(2000000, .loop [(16, .c (.int .i64))])] Tryz.func77 h
theorem qc {b0 o0 : Nat} {cL : Int} {cN : Int} (h :
aX M (cl [(iV cL), (.int .u64 cN)] 95) fun k1 M2 =>
rI M2 k1 0 fun n3 =>
aP (n3 == 3)
 (rU M2 k1 1 fun n4 =>
 sT M2 b0 o0 (iV (IntKind.wrap .i64 n4)) fun M5 =>
 K (.tuple #[]) M5)
 (rI M2 k1 0 fun n6 =>
 aP (n6 == 4)
 (rU M2 k1 1 fun n7 =>
 sT M2 b0 o0 (iV (IntKind.wrap .i64 n7)) fun M8 =>
 K (.tuple #[]) M8)
 (K (.tuple #[]) M2))) :
 aa Tryz.prog 81 #[.pointer (some ⟨b0, o0, none⟩), .agg #[.int .i64 cL, .int .u64 cN]] M K Kp := vw [] Tryz.func81 h
theorem tM {b0 o0 : Nat} {cL : Int} {cN : Int} {cR : Int} {Yi : Option Addr} {Yj Yk : Nat} {x2 : Int} {x3 : Int} (h :
aX M (cl [(iV cL), (iV cN), (iV cR), (.slice Yi Yj Yk)] 43) fun k1 M2 =>
rI M2 k1 0 fun n3 =>
aP (n3 == 1)
 (rS M2 b0 o0 fun A4 k5 k6 =>
 aX M2 (cl [(.bool true), (iV (-1)), (iV 0)] 102) fun k7 M8 =>
 aA 91 A4 k5 k6 (some ⟨k7, 0, none⟩) 1 1 M8 (fun v9 iE =>
 aB (some v9) fun Nd gJ cX =>
 sT iE b0 o0 (.slice Nd gJ cX) fun kD =>
 rS kD b0 (o0 + 1) fun l8 eX dn =>
 aX kD (cl [(iV x2)] 3) fun fM jq =>
 aA 36 l8 eX dn (some ⟨fM, 0, none⟩) 1 1 jq (fun v20 kj =>
 aB (some v20) fun GV iM mX =>
 sT kj b0 (o0 + 1) (.slice GV iM mX) fun DR =>
 K (.tuple #[]) DR) Kp) Kp)
 (aP (n3 == 7)
 (rS M2 b0 o0 fun Bb lP js =>
 rI M2 k1 2 fun xI =>
 aX M2 (cl [(.bool false), (iV xI), (iV x3)] 102) fun l9 Ql =>
 aA 91 Bb lP js (some ⟨l9, 0, none⟩) 1 1 Ql (fun Ug sS =>
 aB (some Ug) fun A34 wB BV =>
 sT sS b0 o0 (.slice A34 wB BV) fun xK =>
 rS xK b0 (o0 + 1) fun Qu sV xD =>
 aX xK (cl [(iV x2)] 3) fun zm GU =>
 aA 36 Qu sV xD (some ⟨zm, 0, none⟩) 1 1 GU (fun X7 vJ =>
 aB (some X7) fun X8 AA EF =>
 sT vJ b0 (o0 + 1) (.slice X8 AA EF) fun IC =>
 K (.tuple #[]) IC) Kp) Kp)
 (K (.tuple #[]) M2))) :
 aa Tryz.prog 82 #[.pointer (some ⟨b0, o0, none⟩), .agg #[.int .i64 cL, .int .i64 cN, .int .i64 cR, .slice Yi Yj Yk], .int .i64 x2, .int .i64 x3] M K Kp := vw [(5, .bS [0, 0, 2, 6, 14, 0, 32, 0, 224, 480, 1022, 2047, 4095, 8191] (sy [0, 1, 2, 3, 5, 7, 4, 6, 8, 9, 10, 11, 12, 13] .done))] Tryz.func82 h
theorem jc {b0 o0 : Nat} {u1 : Value} (h :
yU u1 <|
sT M b0 (o0 + 3) u1 fun M1 =>
K (.tuple #[]) M1) :
 aa Tryz.prog 80 #[.pointer (some ⟨b0, o0, none⟩), u1] M K Kp := vw [] Tryz.func80 h
theorem oT  (h :
aX M (cl [(iV 20), (iV 0), (iV 0), (iV 0), (iV 10), (iV 0), (iV 0), (iV 0)] 27) fun k1 M2 =>
aX M2 (cl [(.slice (some ⟨k1, 0, none⟩) 2 2)] 28) fun k3 M4 =>
aX M4 wm fun k5 M6 =>
kQ M6 k5 (.slice (some ⟨k3, 0, none⟩) 1 1) (.slice none 0 0) (iV 0) (.slice none 0 0) fun iE =>
bk Tryz.prog (Go.Instr.makeSlice 31 (iV 9) (iV 9)) iE (fun v11 oF =>
aB (some v11) fun F2 gT iF =>
aa Tryz.prog 16 #[(.slice F2 gT iF)] oF (fun MX ox =>
cy (some MX) fun Ki =>
lZ ox k5 0 fun yM iU fV GV iM mX lR Bb lP js =>
aa Tryz.prog 15 #[(.agg #[(.slice yM iU fV), (.slice GV iM mX), (iV lR), (.slice Bb lP js)]), (.agg #[(iV 1), (iV 1), (iV 2), (iV 9)]), (.pointer Ki)] ox (fun v29 ru =>
cy (some v29) fun MW =>
aa Tryz.prog 33 #[(.pointer MW), (.pointer Ki), (iV 9), .nilFunc] ru (fun Ug sS =>
∃ A34 : Option Addr, ∃ wB BV : Nat, ∃ GX : Option Addr, ∃ fW sV : Nat, ∃ Pu W3 Pt BS AE tC : Int, (Ug = (.tuple #[(.agg #[(.slice A34 wB BV), (.slice GX fW sV)]), (iV Pu), (.agg #[(iV W3), (iV Pt), (iV BS), (iV AE), (.int .u64 tC)])])) ∧
aX sS yJ fun AA pT =>
aX pT jA fun Lu vF =>
XS vF AA (.slice A34 wB BV) (.slice GX fW sV) fun WY =>
TM WY Lu (iV W3) (iV Pt) (iV BS) (iV AE) (.int .u64 tC) fun Lt =>
lZ Lt k5 0 fun Qc xE MK Yl Qv EO yf Yf Yg DS =>
rS Lt AA 0 fun Ym DT G0 =>
aa Tryz.prog 77 #[(.agg #[(.slice Qc xE MK), (.slice Yl Qv EO), (iV yf), (.slice Yf Yg DS)]), (.slice Ym DT G0)] Lt (fun v70 zC =>
∃ W4 : Option Addr, ∃ ML : Int, (v70 = (.tuple #[(.pointer W4), (iV ML)])) ∧
aP (Pu != 0)
 (K (.bool false) zC)
 (rS zC AA 0 fun A74 Uc IN =>
 aP ((Uc : Int) != 2)
 (K (.bool false) zC)
 (aP (ML != 2)
 (K (.bool false) zC)
 (aP (Option.isNone W4)
 (K (.bool false) zC)
 (rS zC AA 1 fun Yn Kl IP =>
 ((0 : Int) ≤ 0) ∧
 ((0 : Int) < Kl) ∧
 aE Yn fun ET Ni =>
 rI zC ET (Ni + 0) fun IF =>
 aP (IF != 2)
 (K (.bool false) zC)
 (aa Tryz.prog 28 #[(.pointer W4)] zC (fun v83 EU =>
 ∃ Nk Yo : Int, (v83 = (.tuple #[(iV Nk), (iV Yo)])) ∧
 K (.bool (Nk == 1)) EU) Kp)))))) Kp) Kp) Kp) Kp) Kp) :
 aa Tryz.prog 31 #[] M K Kp := vw [] Tryz.func31 h
end Go.Proofs
namespace Go.Proofs
open Go.AF
set_option maxRecDepth 100000
variable {M : Mem} {K : Value → Mem → Prop} {Kp : List PanicEntry → Mem → Prop}
theorem Db {x0 : Int} (h :
aa Tryz.prog 115 #[(iV x0)] M (fun v1 M2 =>
cy (some v1) fun A3 =>
aX M2 (cl [(iV (-1)), (.pointer A3)] 237) fun k4 M5 =>
K (.pointer (some ⟨k4, 0, none⟩)) M5) Kp) :
 aa Tryz.prog 57 #[.int .i64 x0] M K Kp := vw [] Tryz.func57 h
theorem sg {b0 o0 : Nat} {B1 : Option Addr} {m1 c1 : Nat} (h :
aB (Mem.ld M ⟨b0, o0, none⟩) fun A1 k2 k3 =>
bk Tryz.prog (Go.Builtin.append_ #[36, 36] 36 #[(.slice A1 k2 k3), (.slice B1 m1 c1)]) M (fun v4 M5 =>
aB (some v4) fun A6 k7 k8 =>
aM M5 ⟨b0, o0, none⟩ (.slice A6 k7 k8) fun M9 =>
K (.tuple #[]) M9) Kp) :
 aa Tryz.prog 58 ([.pointer (some ⟨b0, o0, none⟩), .slice B1 m1 c1] : List Value).toArray M K Kp :=
 cz (C := Cx) good [] Tryz.func58 (by kernel_rfl) (by kernel_rfl) h
theorem si {b0 o0 : Nat} (h :
rI M b0 o0 fun n1 =>
K (iV n1) M) :
 aa Tryz.prog 148 #[.pointer (some ⟨b0, o0, none⟩)] M K Kp := vw [] Tryz.func148 h
theorem EV {x0 : Int} (h :
bk Tryz.prog (Go.Instr.makeSlice 36 (iV (if (1024 : Int) < (if (1 : Int) > x0 then 1 else x0) then 1024 else (if (1 : Int) > x0 then 1 else x0))) (iV (if (1024 : Int) < (if (1 : Int) > x0 then 1 else x0) then 1024 else (if (1 : Int) > x0 then 1 else x0)))) M (fun v1 M2 =>
aB (some v1) fun A3 k4 k5 =>
aX M2 (cl [(.slice A3 k4 k5), (iV 0), (iV 0)] 309) fun k6 M7 =>
K (.pointer (some ⟨k6, 0, none⟩)) M7) Kp) :
 aa Tryz.prog 115 #[.int .i64 x0] M K Kp := vw [] Tryz.func115 h
theorem sj {x0 : Int} (h :
aX M J0 fun k1 M2 =>
F0 M2 k1 (iV (-1)) (.slice none 0 0) (iV (if ((if (1024 : Int) < x0 then 1024 else x0) : Int) > 1 then (if (1024 : Int) < x0 then 1024 else x0) else 1)) fun M5 =>
rISI M5 k1 0 fun n6 A7 k8 k9 lE =>
K (.agg #[(iV n6), (.slice A7 k8 k9), (iV lE)]) M5) :
 aa Tryz.prog 124 #[.int .i64 x0] M K Kp := vw [] Tryz.func124 h
theorem tN {b0 o0 : Nat} (h :
rI M b0 o0 fun n1 =>
aP (n1 != (-1))
 (sT M b0 o0 (iV (-1)) fun M2 =>
 K (.tuple #[(iV n1), (.bool true)]) M2)
 (rP M b0 (o0 + 1) fun A3 =>
 aa Tryz.prog 177 #[(.pointer A3)] M (fun v4 M5 =>
 ∃ n6 : Int, ∃ t7 : Bool, (v4 = (.tuple #[(iV n6), (.bool t7)])) ∧
 aP (!t7)
 (K (.tuple #[(iV (-1)), (.bool false)]) M5)
 (K (.tuple #[(iV n6), (.bool true)]) M5)) Kp)) :
 aa Tryz.prog 149 #[.pointer (some ⟨b0, o0, none⟩)] M K Kp := vw [] Tryz.func149 h
theorem jN {b0 o0 : Nat} {b1 o1 : Nat} (h :
Go.AF.ptrEq M (some ⟨b0, o0, none⟩) (some ⟨b1, o1, none⟩) fun t1 =>
aP t1
 (K (.tuple #[(iV (-1)), (.bool false)]) M)
 (rP M b1 (o1 + 1) fun A2 =>
 aa Tryz.prog 181 #[(.pointer A2)] M (fun v3 M4 =>
 aI (some v3) .i64 fun n5 =>
 aP (n5 == 0)
 (rI M4 b1 o1 fun n6 =>
 sT M4 b1 o1 (iV (-1)) fun M7 =>
 K (.tuple #[(iV n6), (.bool (n6 != (-1)))]) M7)
 (((2 : Int) ≠ 0) ∧
 rP M4 b0 (o0 + 1) fun A8 =>
 rP M4 b1 (o1 + 1) fun A9 =>
 rP M4 b0 (o0 + 1) fun BR =>
 aa Tryz.prog 183 #[(.pointer A8)] M4 (fun v11 oF =>
 aI (some v11) .i64 fun j6 =>
 ((Mem.ld oF ⟨b0, (o0 + 1), none⟩) = (some (.pointer BR))) ∧
 ((Mem.ld oF ⟨b1, (o1 + 1), none⟩) = (some (.pointer A9))) ∧
 aa Tryz.prog 181 #[(.pointer BR)] oF (fun v14 uM =>
 aI (some v14) .i64 fun oH =>
 ((Mem.ld uM ⟨b0, (o0 + 1), none⟩) = (some (.pointer BR))) ∧
 ((Mem.ld uM ⟨b1, (o1 + 1), none⟩) = (some (.pointer A9))) ∧
 aa Tryz.prog 182 #[(.pointer A9), (iV (if ((IntKind.wrap .i64 ((IntKind.wrap .i64 (j6 - oH)) + 1)) : Int) < (IntKind.wrap .i64 (n5 - (IntKind.wrap .i64 (Int.tdiv n5 2)))) then (IntKind.wrap .i64 ((IntKind.wrap .i64 (j6 - oH)) + 1)) else (IntKind.wrap .i64 (n5 - (IntKind.wrap .i64 (Int.tdiv n5 2))))))] uM (fun T0 rD =>
 aB (some T0) fun yM iU fV =>
 ((Mem.ld rD ⟨b0, (o0 + 1), none⟩) = (some (.pointer BR))) ∧
 ((Mem.ld rD ⟨b1, (o1 + 1), none⟩) = (some (.pointer A9))) ∧
 ((0 : Int) ≤ fV) ∧
 ((fV : Int) ≤ fV) ∧
 ((0 : Int) ≤ iU) ∧
 ((iU : Int) ≤ fV) ∧
 ((0 : Int) ≤ 1) ∧
 ((1 : Int) ≤ iU) ∧
 ∃ I22 : IT, (∃ iM, I22 iM [(iV 0)] rD) ∧
 ∀ (mX : Nat) (_ : Nat → Value) (oM : Int) (wD : Mem), (I22 mX [(iV oM)] wD) → aP (decide ((oM : Int) < ((((Int.toNat (iU : Int)) - 1) : Nat) : Int)))
 ((0 ≤ oM) ∧
 ((oM : Int) < ((((Int.toNat (iU : Int)) - 1) : Nat) : Int)) ∧
 aE (lO yM 1 (Int.toNat (fV : Int)) 1) fun js jX =>
 rI wD js (jX + (Int.toNat oM)) fun GS =>
 rP wD b0 (o0 + 1) fun MW =>
 aa Tryz.prog 184 #[(.pointer MW), (iV GS)] wD (fun Ug sS =>
 c7 (some Ug) fun t34 =>
 ∃ wB : Nat, (wB < mX) ∧
 I22 wB [(iV (IntKind.wrap .i64 (oM + 1)))] sS) Kp)
 (((0 : Int) ≤ 0) ∧
 ((0 : Int) < iU) ∧
 aE yM fun BV AG =>
 rI wD BV (AG + 0) fun EE =>
 K (.tuple #[(iV EE), (.bool true)]) wD)) Kp) Kp) Kp)) Kp)) :
 aa Tryz.prog 151 #[.pointer (some ⟨b0, o0, none⟩), .pointer (some ⟨b1, o1, none⟩)] M K Kp := vw [(8, .bS [0, 1, 3, 7, 0, 0, 32, 112, 0, 256, 768, 1792, 3840, 0, 8192, 24576, 57344, 130816, 261888, 524032, 1048560, 2097151, 4194303] (sy [0, 1, 2, 4, 5, 6, 7, 8, 9, 10, 13, 14, 15, 11] (.dD 3 (.dD 16 (sy [12, 17, 18, 19, 20, 21, 22] .done))))), (2000000, .loop [(56, .c (.int .i64))])] Tryz.func151 h
theorem qd {b0 o0 : Nat} {x1 : Int} {b2 o2 : Nat} (h :
rI M b0 o0 fun n1 =>
sT M b0 o0 (iV x1) fun M2 =>
aP (n1 == (-1))
 (K (iV 0) M2)
 (aa Tryz.prog 185 #[(.pointer (some ⟨b0, o0, none⟩)), (iV n1), (.pointer (some ⟨b2, o2, none⟩))] M2 (fun v3 M4 =>
 aI (some v3) .i64 fun n5 =>
 K (iV n5) M4) Kp)) :
 aa Tryz.prog 152 #[.pointer (some ⟨b0, o0, none⟩), .int .i64 x1, .pointer (some ⟨b2, o2, none⟩)] M K Kp := vw [] Tryz.func152 h
theorem wM {b0 o0 : Nat} (h :
rI M b0 (o0 + 2) fun n1 =>
aP (n1 == 0)
 (K (.tuple #[(iV 0), (.bool false)]) M)
 (rS M b0 o0 fun A2 k3 k4 =>
 rI M b0 (o0 + 1) fun n5 =>
 (0 ≤ n5) ∧
 (n5 < k3) ∧
 aE A2 fun k6 k7 =>
 rI M k6 (k7 + (Int.toNat n5)) fun n8 =>
 rI M b0 (o0 + 1) fun n9 =>
 rS M b0 o0 fun BR eu gJ =>
 ((eu : Int) ≠ 0) ∧
 sT M b0 (o0 + 1) (iV (Int.tmod (IntKind.wrap .i64 (n9 + 1)) (eu : Int))) fun mZ =>
 rI mZ b0 (o0 + 2) fun nx =>
 sT mZ b0 (o0 + 2) (iV (IntKind.wrap .i64 (nx - 1))) fun uM =>
 K (.tuple #[(iV n8), (.bool true)]) uM)) :
 aa Tryz.prog 177 #[.pointer (some ⟨b0, o0, none⟩)] M K Kp := vw [(3, .bS [0, 1, 3, 7, 0, 16, 48, 112, 255, 511, 1023] (sy [0, 1, 2, 4, 5, 6, 3, 7, 8, 9, 10] .done)), (4, .bS [0, 0, 2, 6, 14, 30, 0, 64, 192, 448, 960, 2046, 4095, 8191, 16383] (sy [0, 1, 2, 3, 6, 7, 8, 4, 5, 9, 10, 11, 12, 13, 14] .done))] Tryz.func177 h
theorem sk {b0 o0 : Nat} {b1 o1 : Nat} (h :
rI M b0 o0 fun n1 =>
aP (n1 == (-1))
 (K (iV 0) M)
 (sT M b0 o0 (iV (-1)) fun M2 =>
 aa Tryz.prog 185 #[(.pointer (some ⟨b0, o0, none⟩)), (iV n1), (.pointer (some ⟨b1, o1, none⟩))] M2 (fun v3 M4 =>
 aI (some v3) .i64 fun n5 =>
 K (iV n5) M4) Kp)) :
 aa Tryz.prog 178 #[.pointer (some ⟨b0, o0, none⟩), .pointer (some ⟨b1, o1, none⟩)] M K Kp := vw [] Tryz.func178 h
theorem qe {b0 o0 : Nat} {x1 : Int} (h :
aB (Mem.ld M ⟨b0, o0, none⟩) fun A1 k2 k3 =>
aX M (.cells #[] 3 (0, 0)) fun k4 M5 =>
aB (Mem.ld M5 ⟨b0, o0, none⟩) fun A6 k7 k8 =>
((0 : Int) ≤ ((k8 : Nat) : Int)) ∧
((((k8 : Nat) : Int) : Int) ≤ ((k8 : Nat) : Int)) ∧
((0 : Int) ≤ (if (((k2 : Nat) : Int) : Int) < (if (0 : Int) > x1 then 0 else x1) then ((k2 : Nat) : Int) else (if (0 : Int) > x1 then 0 else x1))) ∧
(((if (((k2 : Nat) : Int) : Int) < (if (0 : Int) > x1 then 0 else x1) then ((k2 : Nat) : Int) else (if (0 : Int) > x1 then 0 else x1)) : Int) ≤ ((k8 : Nat) : Int)) ∧
((0 : Int) ≤ 0) ∧
((0 : Int) ≤ (if (((k2 : Nat) : Int) : Int) < (if (0 : Int) > x1 then 0 else x1) then ((k2 : Nat) : Int) else (if (0 : Int) > x1 then 0 else x1))) ∧
bk Tryz.prog (Go.Builtin.append_ #[36, 36] 36 #[(.slice (some ⟨k4, 0, none⟩) 0 0), (.slice (lO A6 0 (Int.toNat ((k8 : Nat) : Int)) 1) ((Int.toNat (if (((k2 : Nat) : Int) : Int) < (if (0 : Int) > x1 then 0 else x1) then ((k2 : Nat) : Int) else (if (0 : Int) > x1 then 0 else x1))) - 0) ((Int.toNat ((k8 : Nat) : Int)) - 0))]) M5 (fun v9 iE =>
aB (some v9) fun Nd gJ cX =>
aX iE (.cells #[] 3 (0, 0)) fun gT uM =>
aB (Mem.ld uM ⟨b0, o0, none⟩) fun Lv dn fM =>
((0 : Int) ≤ ((fM : Nat) : Int)) ∧
((((fM : Nat) : Int) : Int) ≤ ((fM : Nat) : Int)) ∧
((0 : Int) ≤ ((dn : Nat) : Int)) ∧
((((dn : Nat) : Int) : Int) ≤ ((fM : Nat) : Int)) ∧
((0 : Int) ≤ (if (((k2 : Nat) : Int) : Int) < (if (0 : Int) > x1 then 0 else x1) then ((k2 : Nat) : Int) else (if (0 : Int) > x1 then 0 else x1))) ∧
(((if (((k2 : Nat) : Int) : Int) < (if (0 : Int) > x1 then 0 else x1) then ((k2 : Nat) : Int) else (if (0 : Int) > x1 then 0 else x1)) : Int) ≤ ((dn : Nat) : Int)) ∧
bk Tryz.prog (Go.Builtin.append_ #[36, 36] 36 #[(.slice (some ⟨gT, 0, none⟩) 0 0), (.slice (lO Lv (Int.toNat (if (((k2 : Nat) : Int) : Int) < (if (0 : Int) > x1 then 0 else x1) then ((k2 : Nat) : Int) else (if (0 : Int) > x1 then 0 else x1))) (Int.toNat ((fM : Nat) : Int)) 1) ((Int.toNat ((dn : Nat) : Int)) - (Int.toNat (if (((k2 : Nat) : Int) : Int) < (if (0 : Int) > x1 then 0 else x1) then ((k2 : Nat) : Int) else (if (0 : Int) > x1 then 0 else x1)))) ((Int.toNat ((fM : Nat) : Int)) - (Int.toNat (if (((k2 : Nat) : Int) : Int) < (if (0 : Int) > x1 then 0 else x1) then ((k2 : Nat) : Int) else (if (0 : Int) > x1 then 0 else x1)))))]) uM (fun TY uE =>
aB (some TY) fun C2 gO iM =>
aM uE ⟨b0, o0, none⟩ (.slice C2 gO iM) fun kF =>
K (.slice Nd gJ cX) kF) Kp) Kp) :
 aa Tryz.prog 179 ([.pointer (some ⟨b0, o0, none⟩), .int .i64 x1] : List Value).toArray M K Kp :=
 cz (C := Cx) good [] Tryz.func179 (by kernel_rfl) (by kernel_rfl) h
theorem qf {b0 o0 : Nat} {b1 o1 : Nat} {x2 : Int} (h :
rP M b0 (o0 + 1) fun A1 =>
rP M b0 (o0 + 1) fun A2 =>
aa Tryz.prog 202 #[(.pointer (some ⟨b1, o1, none⟩))] M (fun v3 M4 =>
aI (some v3) .i64 fun n5 =>
((Mem.ld M4 ⟨b0, (o0 + 1), none⟩) = (some (.pointer A2))) ∧
((Mem.ld M4 ⟨b0, (o0 + 1), none⟩) = (some (.pointer A1))) ∧
(((if (1 : Int) > x2 then 1 else x2) : Int) ≠ 0) ∧
aa Tryz.prog 183 #[(.pointer A1)] M4 (fun v6 M7 =>
aI (some v6) .i64 fun n8 =>
((Mem.ld M7 ⟨b0, (o0 + 1), none⟩) = (some (.pointer A2))) ∧
((Mem.ld M7 ⟨b0, (o0 + 1), none⟩) = (some (.pointer A1))) ∧
aa Tryz.prog 181 #[(.pointer A2)] M7 (fun v9 iE =>
aI (some v9) .i64 fun ig =>
((Mem.ld iE ⟨b0, (o0 + 1), none⟩) = (some (.pointer A2))) ∧
((Mem.ld iE ⟨b0, (o0 + 1), none⟩) = (some (.pointer A1))) ∧
aP (decide ((x2 : Int) < 1))
 (aa Tryz.prog 179 #[(.pointer (some ⟨b1, o1, none⟩)), (iV 1)] iE (fun Ls mZ =>
 aB (some Ls) fun qQ iF eX =>
 aP ((iF : Int) == 0)
 (K (.tuple #[(iV (-1)), (.bool false)]) mZ)
 (((0 : Int) ≤ eX) ∧
 ((eX : Int) ≤ eX) ∧
 ((0 : Int) ≤ iF) ∧
 ((iF : Int) ≤ eX) ∧
 ((0 : Int) ≤ 1) ∧
 ((1 : Int) ≤ iF) ∧
 ∃ I17 : IT, (∃ fM, I17 fM [(iV 0)] mZ) ∧
 ∀ (jW : Nat) (_ : Nat → Value) (oG : Int) (dK : Mem), (I17 jW [(iV oG)] dK) → aP (decide ((oG : Int) < ((((Int.toNat (iF : Int)) - 1) : Nat) : Int)))
 ((0 ≤ oG) ∧
 ((oG : Int) < ((((Int.toNat (iF : Int)) - 1) : Nat) : Int)) ∧
 aE (lO qQ 1 (Int.toNat (eX : Int)) 1) fun iM mX =>
 rI dK iM (mX + (Int.toNat oG)) fun lR =>
 rP dK b0 (o0 + 1) fun Bb =>
 aa Tryz.prog 184 #[(.pointer Bb), (iV lR)] dK (fun Qf DP =>
 c7 (some Qf) fun t29 =>
 ∃ l9 : Nat, (l9 < jW) ∧
 I17 l9 [(iV (IntKind.wrap .i64 (oG + 1)))] DP) Kp)
 (((0 : Int) ≤ 0) ∧
 ((0 : Int) < iF) ∧
 aE qQ fun qR yg =>
 rI dK qR (yg + 0) fun tu =>
 K (.tuple #[(iV tu), (.bool true)]) dK))) Kp)
 (aa Tryz.prog 179 #[(.pointer (some ⟨b1, o1, none⟩)), (iV (if ((IntKind.wrap .i64 ((IntKind.wrap .i64 (n8 - ig)) + 1)) : Int) < (IntKind.wrap .i64 ((IntKind.wrap .i64 (Int.tdiv n5 (if (1 : Int) > x2 then 1 else x2))) + 1)) then (IntKind.wrap .i64 ((IntKind.wrap .i64 (n8 - ig)) + 1)) else (IntKind.wrap .i64 ((IntKind.wrap .i64 (Int.tdiv n5 (if (1 : Int) > x2 then 1 else x2))) + 1))))] iE (fun v34 vK =>
 aB (some v34) fun SG AG fW =>
 aP ((AG : Int) == 0)
 (K (.tuple #[(iV (-1)), (.bool false)]) vK)
 (((0 : Int) ≤ fW) ∧
 ((fW : Int) ≤ fW) ∧
 ((0 : Int) ≤ AG) ∧
 ((AG : Int) ≤ fW) ∧
 ((0 : Int) ≤ 1) ∧
 ((1 : Int) ≤ AG) ∧
 ∃ I39 : IT, (∃ xD, I39 xD [(iV 0)] vK) ∧
 ∀ (zm : Nat) (_ : Nat → Value) (BS : Int) (vJ : Mem), (I39 zm [(iV BS)] vJ) → aP (decide ((BS : Int) < ((((Int.toNat (AG : Int)) - 1) : Nat) : Int)))
 ((0 ≤ BS) ∧
 ((BS : Int) < ((((Int.toNat (AG : Int)) - 1) : Nat) : Int)) ∧
 aE (lO SG 1 (Int.toNat (fW : Int)) 1) fun F5 AA =>
 rI vJ F5 (AA + (Int.toNat BS)) fun AT =>
 rP vJ b0 (o0 + 1) fun Lw =>
 aa Tryz.prog 184 #[(.pointer Lw), (iV AT)] vJ (fun GI qP =>
 c7 (some GI) fun t51 =>
 ∃ kS : Nat, (kS < zm) ∧
 I39 kS [(iV (IntKind.wrap .i64 (BS + 1)))] qP) Kp)
 (((0 : Int) ≤ 0) ∧
 ((0 : Int) < AG) ∧
 aE SG fun nR DQ =>
 rI vJ nR (DQ + 0) fun SI =>
 K (.tuple #[(iV SI), (.bool true)]) vJ))) Kp)) Kp) Kp) Kp) :
 aa Tryz.prog 180 #[.pointer (some ⟨b0, o0, none⟩), .pointer (some ⟨b1, o1, none⟩), .int .i64 x2] M K Kp := vw [(1, .bS [0, 1, 0, 4, 15, 31, 0, 64, 192, 448, 963, 0, 2048, 6144, 14336, 32707, 65475, 131011, 262143, 524287] (sy [0, 2, 3, 6, 7, 8, 11, 12, 13] (.dD 9 (.dD 14 (sy [1, 4, 5, 10, 15, 16, 17, 18, 19] .done))))), (2000000, .loop [(42, .c (.int .i64))])] Tryz.func180 h
theorem wN {b0 o0 : Nat} (h :
rI M b0 (o0 + 2) fun n1 =>
K (iV n1) M) :
 aa Tryz.prog 181 #[.pointer (some ⟨b0, o0, none⟩)] M K Kp := vw [] Tryz.func181 h
theorem uR {b0 o0 : Nat} {x1 : Int} (h :
∃ I1 : IT, (∃ k2, I1 k2 [(.slice none 0 0)] M) ∧
∀ (k3 : Nat) (_ : Nat → Value) (A5 : Option Addr) (k6 : Nat) (k7 : Nat) (M8 : Mem), (I1 k3 [(.slice A5 k6 k7)] M8) → aP (decide ((k6 : Int) < x1))
 (aa Tryz.prog 177 #[(.pointer (some ⟨b0, o0, none⟩))] M8 (fun v9 iE =>
 ∃ ig : Int, ∃ t12 : Bool, (v9 = (.tuple #[(iV ig), (.bool t12)])) ∧
 aP (!t12)
 (K (.slice A5 k6 k7) iE)
 (aX iE (cl [(iV ig)] 3) fun cX kD =>
 aA 36 A5 k6 k7 (some ⟨cX, 0, none⟩) 1 1 kD (fun C3 fL =>
 aB (some C3) fun ID fM jW =>
 ∃ iU : Nat, (iU < k3) ∧
 I1 iU [(.slice ID fM jW)] fL) Kp)) Kp)
 (K (.slice A5 k6 k7) M8)) :
 aa Tryz.prog 182 #[.pointer (some ⟨b0, o0, none⟩), .int .i64 x1] M K Kp := vw [(2000000, .loop [(5, .c .sl)])] Tryz.func182 h
theorem uS {b0 o0 : Nat} (h :
rS M b0 o0 fun A1 k2 k3 =>
K (iV (k2 : Int)) M) :
 aa Tryz.prog 183 #[.pointer (some ⟨b0, o0, none⟩)] M K Kp := vw [] Tryz.func183 h
theorem uT {b0 o0 : Nat} {x1 : Int} (h :
rI M b0 (o0 + 2) fun n1 =>
rS M b0 o0 fun A2 k3 k4 =>
aP (n1 == (k3 : Int))
 (K (.bool false) M)
 (rS M b0 o0 fun A5 k6 k7 =>
 rI M b0 (o0 + 1) fun n8 =>
 rI M b0 (o0 + 2) fun n9 =>
 rS M b0 o0 fun BR eu gJ =>
 ((eu : Int) ≠ 0) ∧
 ((0 : Int) ≤ (Int.tmod (IntKind.wrap .i64 (n8 + n9)) (eu : Int))) ∧
 (((Int.tmod (IntKind.wrap .i64 (n8 + n9)) (eu : Int)) : Int) < (k6 : Int)) ∧
 aE A5 fun cX gT =>
 sT M cX (gT + (Int.toNat (Int.tmod (IntKind.wrap .i64 (n8 + n9)) (eu : Int)))) (iV x1) fun uM =>
 rI uM b0 (o0 + 2) fun oH =>
 sT uM b0 (o0 + 2) (iV (IntKind.wrap .i64 (oH + 1))) fun ox =>
 K (.bool true) ox)) :
 aa Tryz.prog 184 #[.pointer (some ⟨b0, o0, none⟩), .int .i64 x1] M K Kp := vw [(1, .bS [0, 1, 3, 7, 0, 16, 48, 112, 240, 511] (sy [0, 1, 2, 4, 5, 6, 3, 7, 8, 9] .done)), (3, .bS [0, 1, 3, 7, 0, 16, 48, 112, 0, 256, 768, 1792, 4080, 0, 8192, 24576, 57344, 122880, 262128, 0, 1048575, 2097151] (sy [0, 1, 2, 4, 5, 6, 8, 9, 10, 13, 14, 15, 19, 3, 7, 11, 12, 16, 17, 18, 20, 21] .done))] Tryz.func184 h
theorem tO {b0 o0 : Nat} {x1 : Int} {b2 o2 : Nat} (h :
rP M b0 (o0 + 1) fun A1 =>
aa Tryz.prog 184 #[(.pointer A1), (iV x1)] M (fun v2 M3 =>
c7 (some v2) fun t4 =>
aP t4
 (K (iV 0) M3)
 (rP M3 b0 (o0 + 1) fun A5 =>
 rP M3 b0 (o0 + 1) fun A6 =>
 (True) ∧
 aa Tryz.prog 181 #[(.pointer A5)] M3 (fun v7 M8 =>
 aI (some v7) .i64 fun n9 =>
 ((Mem.ld M8 ⟨b0, (o0 + 1), none⟩) = (some (.pointer A6))) ∧
 ((2 : Int) ≠ 0) ∧
 (True) ∧
 aa Tryz.prog 182 #[(.pointer A6), (iV (IntKind.wrap .i64 (Int.tdiv n9 2)))] M8 (fun v10 lC =>
 aB (some v10) fun rz cX gT =>
 ((Mem.ld lC ⟨b0, (o0 + 1), none⟩) = (some (.pointer A6))) ∧
 aX lC (cl [(iV x1)] 3) fun iF fL =>
 aA 36 rz cX gT (some ⟨iF, 0, none⟩) 1 1 fL (fun T0 rD =>
 aB (some T0) fun yM iU fV =>
 ((Mem.ld rD ⟨b0, (o0 + 1), none⟩) = (some (.pointer A6))) ∧
 aa Tryz.prog 58 #[(.pointer (some ⟨b2, o2, none⟩)), (.slice yM iU fV)] rD (fun GK mD =>
 (GK = (.tuple #[])) ∧
 K (iV (iU : Int)) mD) Kp) Kp) Kp) Kp)) Kp) :
 aa Tryz.prog 185 #[.pointer (some ⟨b0, o0, none⟩), .int .i64 x1, .pointer (some ⟨b2, o2, none⟩)] M K Kp := vw [(3, .bS [0, 1, 3, 7, 0, 16, 48, 112, 240, 496, 1023, 0, 2048, 8191, 16383] (sy [0, 1, 2, 4, 5, 6, 11, 7] (.dD 3 (.late 8 (sy [9] (.late 10 (sy [12, 13, 14] .done)))))))] Tryz.func185 h
theorem so {b0 o0 : Nat} (h :
aB (Mem.ld M ⟨b0, o0, none⟩) fun A1 k2 k3 =>
K (.int .i64 ((k2 : Nat) : Int)) M) :
 aa Tryz.prog 202 ([.pointer (some ⟨b0, o0, none⟩)] : List Value).toArray M K Kp :=
 cz (C := Cx) good [] Tryz.func202 (by kernel_rfl) (by kernel_rfl) h
end Go.Proofs
namespace Go.Proofs
open Go.AF
set_option maxRecDepth 100000
variable {M : Mem} {K : Value → Mem → Prop} {Kp : List PanicEntry → Mem → Prop}
theorem Dc {iW : Option Addr} {iX iY : Nat} {iZ : Option Addr} {ja jb : Nat} {fD : Int} {g9 : Option Addr} {hG hH : Nat} {cL : Int} {cN : Int} {cR : Int} {eY : Int} {b2 o2 : Nat} (h :
aX M (cl [(.slice iW iX iY), (.slice iZ ja jb), (iV fD), (.slice g9 hG hH)] 39) fun k1 M2 =>
aX M2 (cl [(iV cL), (iV cN), (iV cR), (iV eY)] 29) fun k3 M4 =>
lZ M4 k1 0 fun A5 k6 k7 A8 k9 fR ig rz cX gT =>
bN M4 k3 0 fun lB oH jH lQ =>
aa Tryz.prog 56 #[(.agg #[(.slice A5 k6 k7), (.slice A8 k9 fR), (iV ig), (.slice rz cX gT)])] M4 (fun TY uE =>
cy (some TY) fun C2 =>
((Mem.fK uE ⟨k3, 0, none⟩ 0 4) = some [(iV lB), (iV oH), (iV jH), (iV lQ)]) ∧
aX uE (cl [(.pointer C2), (iV lB), (iV oH), (iV jH), (iV lQ), (.slice none 0 0), (.slice none 0 0), (.slice none 0 0), (.pointer (some ⟨b2, o2, none⟩)), (iV 0)] 137) fun gO mD =>
rI mD k3 0 fun wI =>
∃ Uh : IT, (∃ pM, Uh pM [(iV 0)] mD) ∧
∀ (lP : Nat) (_ : Nat → Value) (xI : Int) (ru : Mem), (Uh lP [(iV xI)] ru) → aP (decide (xI < wI))
 (∃ J31 : List Value → Mem → Prop, (rI ru k3 2 fun n32 =>
 (rS ru gO 5 fun GJ uF wB =>
 aa Tryz.prog 57 #[(iV n32)] ru (fun Yh xK =>
 cy (some Yh) fun Qu =>
 aX xK (cl [(.pointer Qu), (iV 0), (iV (-1))] 141) fun sV Qj =>
 aA 132 GJ uF wB (some ⟨sV, 0, none⟩) 1 1 Qj (fun Yp GU =>
 aB (some Yp) fun A43 IE F5 =>
 sT GU gO 5 (.slice A43 IE F5) fun BX =>
 J31 [] BX) Kp) Kp) ∧
 (aa Tryz.prog 57 #[(iV n32)] ru (fun Yq IC =>
 cy (some Yq) fun Ui =>
 rS IC gO 5 fun A50 Kj kS =>
 aX IC (cl [(.pointer Ui), (iV 0), (iV (-1))] 141) fun nR J5 =>
 aA 132 A50 Kj kS (some ⟨nR, 0, none⟩) 1 1 J5 (fun TR Lt =>
 aB (some TR) fun Qc xE MK =>
 sT Lt gO 5 (.slice Qc xE MK) fun vG =>
 J31 [] vG) Kp) Kp) ∧
 True) ∧
 ∀ junk61 : Nat → Value, ∀ vE : Mem, (J31 [] vE) → ∃ GY : Nat, (GY < lP) ∧
 Uh GY [(iV (IntKind.wrap .i64 (xI + 1)))] vE)
 (rI ru k3 1 fun n64 =>
 ∃ I65 : IT, (∃ DS, I65 DS [(iV 0)] ru) ∧
 ∀ (yl : Nat) (_ : Nat → Value) (SK : Int) (EM : Mem), (I65 yl [(iV SK)] EM) → aP (decide (SK < n64))
 (rS EM gO 6 fun G1 ES IQ =>
 aX EM (cl [(iV (-1)), (iV (-1)), (iV 0)] 143) fun Pw xL =>
 aA 133 G1 ES IQ (some ⟨Pw, 0, none⟩) 1 1 xL (fun Yr Qt =>
 aB (some Yr) fun Ys IP ET =>
 sT Qt gO 6 (.slice Ys IP ET) fun Nl =>
 ∃ GZ : Nat, (GZ < yl) ∧
 I65 GZ [(iV (IntKind.wrap .i64 (SK + 1)))] Nl) Kp)
 (aX EM Mv fun DU EU =>
 aa Tryz.prog 58 #[(.pointer (some ⟨gO, 7, none⟩)), (.slice (some ⟨DU, 0, none⟩) 1 1)] EU (fun Yt Qw =>
 (Yt = (.tuple #[])) ∧
 K (.pointer (some ⟨gO, 0, none⟩)) Qw) Kp))) Kp) :
 aa Tryz.prog 15 #[.agg #[.slice iW iX iY, .slice iZ ja jb, .int .i64 fD, .slice g9 hG hH], .agg #[.int .i64 cL, .int .i64 cN, .int .i64 cR, .int .i64 eY], .pointer (some ⟨b2, o2, none⟩)] M K Kp := vw [(1, .bS [0, 1, 0, 0, 15, 31, 63] (sy [3, 0] (.dD 2 (sy [1, 4, 5, 6] .done)))), (2000000, .loop [(16, .c (.int .i64))]), (4, .CS [0, 0, 2, 6, 14, 0, 32, 96, 224, 480, 1022, 2047, 4095, 8191] (sy [0, 1, 2, 3, 5, 6] (.fork 4 (sy [7, 8, 9, 10, 11, 12, 13] .done) (.fork 7 (sy [8, 4, 9, 10, 11, 12, 13] .done) .dead))) []), (2000002, .loop [(34, .c (.int .i64))])] Tryz.func15 h
theorem oU {b0 o0 : Nat} (h :
rP M b0 o0 fun A1 =>
aa Tryz.prog 28 #[(.pointer A1)] M (fun v2 M3 =>
∃ n4 n5 : Int, (v2 = (.tuple #[(iV n4), (iV n5)])) ∧
aP (n4 == 1)
 (K (iV 1) M3)
 (aP (n4 == 2)
 (K (iV 2) M3)
 (rP M3 b0 o0 fun A6 =>
 aa Tryz.prog 65 #[(.pointer A6)] M3 (fun v7 M8 =>
 c7 (some v7) fun t9 =>
 aP t9
 (K (iV 3) M8)
 (K (iV 0) M8)) Kp))) Kp) :
 aa Tryz.prog 22 #[.pointer (some ⟨b0, o0, none⟩)] M K Kp := vw [] Tryz.func22 h
theorem qg {b0 o0 : Nat} (h :
rI M b0 (o0 + 9) fun n1 =>
K (iV n1) M) :
 aa Tryz.prog 35 #[.pointer (some ⟨b0, o0, none⟩)] M K Kp := vw [] Tryz.func35 h
theorem sq {b0 o0 : Nat} (h :
aX M (.cells #[(.int .i64 0), (.int .i64 0), (.int .i64 0), (.slice none 0 0)] 43 (0, 0)) fun k1 M2 =>
aa Tryz.prog 22 #[(.pointer (some ⟨b0, o0, none⟩))] M2 (fun v3 M4 =>
aI (some v3) .i64 fun n5 =>
aP (n5 != 0)
 (aM M4 ⟨k1, 0, none⟩ (.int .i64 0) fun M6 =>
 aM M6 ⟨k1, (0 + 1), none⟩ (.int .i64 0) fun M7 =>
 aM M7 ⟨k1, (0 + 2), none⟩ (.int .i64 0) fun M8 =>
 aM M8 ⟨k1, (0 + 3), none⟩ (.slice none 0 0) fun M9 =>
 aI (Mem.ld M9 ⟨k1, 0, none⟩) .i64 fun lE =>
 aI (Mem.ld M9 ⟨k1, (0 + 1), none⟩) .i64 fun ig =>
 aI (Mem.ld M9 ⟨k1, (0 + 2), none⟩) .i64 fun j5 =>
 aB (Mem.ld M9 ⟨k1, (0 + 3), none⟩) fun F2 gT iF =>
 K (.agg #[(.int .i64 lE), (.int .i64 ig), (.int .i64 j5), (.slice F2 gT iF)]) M9)
 (cy (Mem.ld M4 ⟨b0, (o0 + 8), none⟩) fun Lv =>
 aI (Mem.ld M4 ⟨b0, ((o0 + 1) + 1), none⟩) .i64 fun jH =>
 aa Tryz.prog 107 #[(.pointer Lv), (.int .i64 1), (.int .i64 (IntKind.wrap .i64 (jH + 1)))] M4 (fun C0 jq =>
 aI (some C0) .i64 fun eR =>
 aX jq (.cells #[(.int .i64 0), (.int .i64 0), (.int .i64 0), (.slice none 0 0)] 43 (0, 0)) fun fV dK =>
 aI (Mem.ld dK ⟨b0, ((o0 + 1) + 1), none⟩) .i64 fun nS =>
 aP (eR == nS)
  (aa Tryz.prog 108 #[(.pointer (some ⟨b0, o0, none⟩))] dK (fun Ya DR =>
  ∃ oM : Int, ∃ wH : Int, ∃ xC : Int, ∃ SB : Option Addr, ∃ l9 : Nat, ∃ qR : Nat, (Ya = (.agg #[(.int .i64 oM), (.int .i64 wH), (.int .i64 xC), (.slice SB l9 qR)])) ∧
  aM DR ⟨fV, 0, none⟩ (.int .i64 oM) fun pN =>
  aM pN ⟨fV, (0 + 1), none⟩ (.int .i64 wH) fun sS =>
  aM sS ⟨fV, (0 + 2), none⟩ (.int .i64 xC) fun m5 =>
  aM m5 ⟨fV, (0 + 3), none⟩ (.slice SB l9 qR) fun vK =>
  aI (Mem.ld vK ⟨b0, (o0 + 9), none⟩) .i64 fun vI =>
  aM vK ⟨b0, (o0 + 9), none⟩ (.int .i64 (IntKind.wrap .i64 (vI + 1))) fun xK =>
  aI (Mem.ld xK ⟨fV, 0, none⟩) .i64 fun EE =>
  aI (Mem.ld xK ⟨fV, (0 + 1), none⟩) .i64 fun MI =>
  aI (Mem.ld xK ⟨fV, (0 + 2), none⟩) .i64 fun Pu =>
  aB (Mem.ld xK ⟨fV, (0 + 3), none⟩) fun Qm F4 ko =>
  aM xK ⟨k1, 0, none⟩ (.int .i64 EE) fun vJ =>
  aM vJ ⟨k1, (0 + 1), none⟩ (.int .i64 MI) fun pY =>
  aM pY ⟨k1, (0 + 2), none⟩ (.int .i64 Pu) fun BX =>
  aM BX ⟨k1, (0 + 3), none⟩ (.slice Qm F4 ko) fun pT =>
  aI (Mem.ld pT ⟨k1, 0, none⟩) .i64 fun yh =>
  aI (Mem.ld pT ⟨k1, (0 + 1), none⟩) .i64 fun Kn =>
  aI (Mem.ld pT ⟨k1, (0 + 2), none⟩) .i64 fun C7 =>
  aB (Mem.ld pT ⟨k1, (0 + 3), none⟩) fun Pp kS nR =>
  K (.agg #[(.int .i64 yh), (.int .i64 Kn), (.int .i64 C7), (.slice Pp kS nR)]) pT) Kp)
  (aB (Mem.ld dK ⟨b0, (o0 + 6), none⟩) fun Yc Yd IM =>
  ((0 : Int) ≤ eR) ∧
  ((eR : Int) < ((Yd : Nat) : Int)) ∧
  aE Yc fun wK xE =>
  aI (Mem.ld dK ⟨wK, (xE + ((Int.toNat eR) * 3)), none⟩) .i64 fun AB =>
  aP (AB == (-1))
   (aa Tryz.prog 109 #[(.pointer (some ⟨b0, o0, none⟩)), (.int .i64 eR)] dK (fun v60 wz =>
   ∃ IL : Int, ∃ yf : Int, ∃ n64 : Int, ∃ Qx : Option Addr, ∃ DS : Nat, ∃ yl : Nat, (v60 = (.agg #[(.int .i64 IL), (.int .i64 yf), (.int .i64 n64), (.slice Qx DS yl)])) ∧
   aM wz ⟨fV, 0, none⟩ (.int .i64 IL) fun Ub =>
   aM Ub ⟨fV, (0 + 1), none⟩ (.int .i64 yf) fun M69 =>
   aM M69 ⟨fV, (0 + 2), none⟩ (.int .i64 n64) fun EM =>
   aM EM ⟨fV, (0 + 3), none⟩ (.slice Qx DS yl) fun zC =>
   aI (Mem.ld zC ⟨b0, (o0 + 9), none⟩) .i64 fun X6 =>
   aM zC ⟨b0, (o0 + 9), none⟩ (.int .i64 (IntKind.wrap .i64 (X6 + 1))) fun DV =>
   aI (Mem.ld DV ⟨fV, 0, none⟩) .i64 fun Lx =>
   aI (Mem.ld DV ⟨fV, (0 + 1), none⟩) .i64 fun Qd =>
   aI (Mem.ld DV ⟨fV, (0 + 2), none⟩) .i64 fun MM =>
   aB (Mem.ld DV ⟨fV, (0 + 3), none⟩) fun Yn Kl IP =>
   aM DV ⟨k1, 0, none⟩ (.int .i64 Lx) fun jn =>
   aM jn ⟨k1, (0 + 1), none⟩ (.int .i64 Qd) fun Nl =>
   aM Nl ⟨k1, (0 + 2), none⟩ (.int .i64 MM) fun Qy =>
   aM Qy ⟨k1, (0 + 3), none⟩ (.slice Yn Kl IP) fun C9 =>
   aI (Mem.ld C9 ⟨k1, 0, none⟩) .i64 fun Kc =>
   aI (Mem.ld C9 ⟨k1, (0 + 1), none⟩) .i64 fun Nk =>
   aI (Mem.ld C9 ⟨k1, (0 + 2), none⟩) .i64 fun Yo =>
   aB (Mem.ld C9 ⟨k1, (0 + 3), none⟩) fun A87 Km k89 =>
   K (.agg #[(.int .i64 Kc), (.int .i64 Nk), (.int .i64 Yo), (.slice A87 Km k89)]) C9) Kp)
   (aB (Mem.ld dK ⟨b0, (o0 + 6), none⟩) fun W5 Nm Ko =>
   ((0 : Int) ≤ eR) ∧
   ((eR : Int) < ((Nm : Nat) : Int)) ∧
   aE W5 fun Nn Qq =>
   aI (Mem.ld dK ⟨Nn, ((Qq + ((Int.toNat eR) * 3)) + 1), none⟩) .i64 fun Kd =>
   aP (Kd == (-1))
    (aa Tryz.prog 110 #[(.pointer (some ⟨b0, o0, none⟩)), (.int .i64 eR)] dK (fun v96 F7 =>
    ∃ WZ : Int, ∃ Px : Int, ∃ uG : Int, ∃ Yu : Option Addr, ∃ ER : Nat, ∃ kH : Nat, (v96 = (.agg #[(.int .i64 WZ), (.int .i64 Px), (.int .i64 uG), (.slice Yu ER kH)])) ∧
    aM F7 ⟨fV, 0, none⟩ (.int .i64 WZ) fun Uj =>
    aM Uj ⟨fV, (0 + 1), none⟩ (.int .i64 Px) fun Qs =>
    aM Qs ⟨fV, (0 + 2), none⟩ (.int .i64 uG) fun Qz =>
    aM Qz ⟨fV, (0 + 3), none⟩ (.slice Yu ER kH) fun Dd =>
    aI (Mem.ld Dd ⟨b0, (o0 + 9), none⟩) .i64 fun De =>
    aM Dd ⟨b0, (o0 + 9), none⟩ (.int .i64 (IntKind.wrap .i64 (De + 1))) fun pO =>
    aI (Mem.ld pO ⟨fV, 0, none⟩) .i64 fun MP =>
    aI (Mem.ld pO ⟨fV, (0 + 1), none⟩) .i64 fun No =>
    aI (Mem.ld pO ⟨fV, (0 + 2), none⟩) .i64 fun zn =>
    aB (Mem.ld pO ⟨fV, (0 + 3), none⟩) fun Yv Np Yw =>
    aM pO ⟨k1, 0, none⟩ (.int .i64 MP) fun uU =>
    aM uU ⟨k1, (0 + 1), none⟩ (.int .i64 No) fun G2 =>
    aM G2 ⟨k1, (0 + 2), none⟩ (.int .i64 zn) fun nW =>
    aM nW ⟨k1, (0 + 3), none⟩ (.slice Yv Np Yw) fun yo =>
    aI (Mem.ld yo ⟨k1, 0, none⟩) .i64 fun zD =>
    aI (Mem.ld yo ⟨k1, (0 + 1), none⟩) .i64 fun wO =>
    aI (Mem.ld yo ⟨k1, (0 + 2), none⟩) .i64 fun Nq =>
    aB (Mem.ld yo ⟨k1, (0 + 3), none⟩) fun A123 EW Nr =>
    K (.agg #[(.int .i64 zD), (.int .i64 wO), (.int .i64 Nq), (.slice A123 EW Nr)]) yo) Kp)
    (aa Tryz.prog 111 #[(.pointer (some ⟨b0, o0, none⟩)), (.int .i64 eR)] dK (fun Uk QA =>
    ∃ yp : Int, ∃ Yx : Int, ∃ Yy : Int, ∃ EX : Option Addr, ∃ yq : Nat, ∃ EY : Nat, (Uk = (.agg #[(.int .i64 yp), (.int .i64 Yx), (.int .i64 Yy), (.slice EX yq EY)])) ∧
    aM QA ⟨fV, 0, none⟩ (.int .i64 yp) fun G3 =>
    aM G3 ⟨fV, (0 + 1), none⟩ (.int .i64 Yx) fun M135 =>
    aM M135 ⟨fV, (0 + 2), none⟩ (.int .i64 Yy) fun QB =>
    aM QB ⟨fV, (0 + 3), none⟩ (.slice EX yq EY) fun Kr =>
    aI (Mem.ld Kr ⟨b0, (o0 + 9), none⟩) .i64 fun n138 =>
    aM Kr ⟨b0, (o0 + 9), none⟩ (.int .i64 (IntKind.wrap .i64 (n138 + 1))) fun Df =>
    aI (Mem.ld Df ⟨fV, 0, none⟩) .i64 fun n140 =>
    aI (Mem.ld Df ⟨fV, (0 + 1), none⟩) .i64 fun n141 =>
    aI (Mem.ld Df ⟨fV, (0 + 2), none⟩) .i64 fun Ul =>
    aB (Mem.ld Df ⟨fV, (0 + 3), none⟩) fun A143 Um Un =>
    aM Df ⟨k1, 0, none⟩ (.int .i64 n140) fun QC =>
    aM QC ⟨k1, (0 + 1), none⟩ (.int .i64 n141) fun M147 =>
    aM M147 ⟨k1, (0 + 2), none⟩ (.int .i64 Ul) fun QD =>
    aM QD ⟨k1, (0 + 3), none⟩ (.slice A143 Um Un) fun EZ =>
    aI (Mem.ld EZ ⟨k1, 0, none⟩) .i64 fun Ns =>
    aI (Mem.ld EZ ⟨k1, (0 + 1), none⟩) .i64 fun Uo =>
    aI (Mem.ld EZ ⟨k1, (0 + 2), none⟩) .i64 fun Nt =>
    aB (Mem.ld EZ ⟨k1, (0 + 3), none⟩) fun A153 Nu k155 =>
    K (.agg #[(.int .i64 Ns), (.int .i64 Uo), (.int .i64 Nt), (.slice A153 Nu k155)]) EZ) Kp)))) Kp)) Kp) :
 aa Tryz.prog 54 ([.pointer (some ⟨b0, o0, none⟩)] : List Value).toArray M K Kp :=
 cz (C := Cx) good [(3, .bS [0, 1, 3, 7, 0, 16, 48, 112, 240, 496, 1023, 2047] (.step 0 (.step 1 (.step 2 (.step 4 (.step 5 (.step 6 (.step 7 (.step 3 (.step 8 (.step 9 (.step 10 (.step 11 .done)))))))))))))] Tryz.func54 (by kernel_rfl) (by kernel_rfl) h
theorem sr {b0 o0 : Nat} (h :
aX M wk fun k1 M2 =>
rP M2 b0 o0 fun A3 =>
aa Tryz.prog 120 #[(.pointer A3)] M2 (fun v4 M5 =>
aB (some v4) fun A6 k7 k8 =>
aa Tryz.prog 58 #[(.pointer (some ⟨b0, (o0 + 7), none⟩)), (.slice A6 k7 k8)] M5 (fun v9 iE =>
(v9 = (.tuple #[])) ∧
kQ iE k1 (iV 1) (iV (-1)) (iV (-1)) (.slice A6 k7 k8) fun kD =>
EB kD k1 0 fun lB oH jH Ki jW iU =>
K (.agg #[(iV lB), (iV oH), (iV jH), (.slice Ki jW iU)]) kD) Kp) Kp) :
 aa Tryz.prog 108 #[.pointer (some ⟨b0, o0, none⟩)] M K Kp := vw [] Tryz.func108 h
theorem su {b0 o0 : Nat} {x1 : Int} (h :
aX M wk fun k1 M2 =>
rS M2 b0 (o0 + 5) fun A3 k4 k5 =>
∃ I6 : IT, (∃ k7, I6 k7 [(iV 0)] M2) ∧
∀ (k8 : Nat) (_ : Nat → Value) (lE : Int) (lC : Mem), (I6 k8 [(iV lE)] lC) → aP (decide (lE < k4))
 (rS lC b0 (o0 + 5) fun rz cX gT =>
 (0 ≤ lE) ∧
 (lE < cX) ∧
 aE rz fun iF eX =>
 rI lC iF ((eX + ((Int.toNat lE) * 3)) + 2) fun jH =>
 aP (jH == (-1))
 (rS lC b0 (o0 + 5) fun Ki jW iU =>
 rS lC b0 (o0 + 6) fun C2 gO iM =>
 (0 ≤ lE) ∧
 (lE < jW) ∧
 aE Ki fun mX tr =>
 sT lC mX ((tr + ((Int.toNat lE) * 3)) + 2) (iV x1) fun wG =>
 ((0 : Int) ≤ x1) ∧
 ((x1 : Int) < gO) ∧
 aE C2 fun lP js =>
 sT wG lP (js + ((Int.toNat x1) * 3)) (iV lE) fun mY =>
 kQ mY k1 (iV 2) (iV x1) (iV (-1)) (.slice none 0 0) fun sS =>
 EB sS k1 0 fun Ps IK vI GX fW sV =>
 K (.agg #[(iV Ps), (iV IK), (iV vI), (.slice GX fW sV)]) sS)
 (∃ xD : Nat, (xD < k8) ∧
 I6 xD [(iV (IntKind.wrap .i64 (lE + 1)))] lC))
 (sT lC k1 0 (iV 3) fun C6 =>
 sT C6 k1 1 (iV x1) fun GU =>
 sT GU k1 2 (iV (-1)) fun wJ =>
 sT wJ k1 3 (.slice none 0 0) fun vJ =>
 EB vJ k1 0 fun tC EL AT Lw Kh ye =>
 K (.agg #[(iV tC), (iV EL), (iV AT), (.slice Lw Kh ye)]) vJ)) :
 aa Tryz.prog 109 #[.pointer (some ⟨b0, o0, none⟩), .int .i64 x1] M K Kp := vw [(2000000, .loop [(11, .c (.int .i64))]), (5, .bS [0, 1, 3, 7, 0, 0, 32, 96, 224, 0, 0, 0, 1535, 5631, 13823, 32767, 65535, 131071] (sy [0, 1, 2, 4, 5, 6, 7, 9, 10, 11, 3, 8, 12, 13, 14, 15, 16, 17] .done))] Tryz.func109 h
theorem sw {b0 o0 : Nat} {x1 : Int} (h :
aX M (.cells #[(.int .i64 0), (.int .i64 0), (.int .i64 0), (.slice none 0 0)] 43 (0, 0)) fun k1 M2 =>
aB (Mem.ld M2 ⟨b0, (o0 + 5), none⟩) fun A3 k4 k5 =>
aB (Mem.ld M2 ⟨b0, (o0 + 6), none⟩) fun A6 k7 k8 =>
((0 : Int) ≤ x1) ∧
((x1 : Int) < ((k7 : Nat) : Int)) ∧
aE A6 fun k9 fR =>
aI (Mem.ld M2 ⟨k9, (fR + ((Int.toNat x1) * 3)), none⟩) .i64 fun ig =>
((0 : Int) ≤ ig) ∧
((ig : Int) < ((k4 : Nat) : Int)) ∧
aE A3 fun gJ cX =>
aB (Mem.ld M2 ⟨b0, (o0 + 6), none⟩) fun qQ iF eX =>
((0 : Int) ≤ x1) ∧
((x1 : Int) < ((iF : Nat) : Int)) ∧
aE qQ fun dn fM =>
aI (Mem.ld M2 ⟨dn, ((fM + ((Int.toNat x1) * 3)) + 2), none⟩) .i64 fun xF =>
aP (decide ((xF : Int) > 0))
 (cy (Mem.ld M2 ⟨gJ, (cX + ((Int.toNat ig) * 3)), none⟩) fun W1 =>
 aa Tryz.prog 148 #[(.pointer W1)] M2 (fun Qo dK =>
 aI (some Qo) .i64 fun nS =>
 ∃ J24 : List Value → Mem → Prop, (aP (nS != (-1))
  (cy (Mem.ld dK ⟨gJ, (cX + ((Int.toNat ig) * 3)), none⟩) fun TQ =>
   aB (Mem.ld dK ⟨b0, (o0 + 6), none⟩) fun Bb lP js =>
   aa Tryz.prog 149 #[(.pointer TQ)] dK (fun v29 ru =>
   ∃ yL : Int, ∃ t32 : Bool, (v29 = (.tuple #[(.int .i64 yL), (.bool t32)])) ∧
   ((Mem.ld ru ⟨b0, (o0 + 6), none⟩) = (some (.slice Bb lP js))) ∧
   ((0 : Int) ≤ x1) ∧
   ((x1 : Int) < ((lP : Nat) : Int)) ∧
   aE Bb fun vH uF =>
   aM ru ⟨vH, ((uF + ((Int.toNat x1) * 3)) + 1), none⟩ (.int .i64 yL) fun vK =>
   ((Mem.ld vK ⟨b0, (o0 + 6), none⟩) = (some (.slice Bb lP js))) ∧
   aB (Mem.ld vK ⟨b0, (o0 + 6), none⟩) fun SG AG fW =>
   ((0 : Int) ≤ x1) ∧
   ((x1 : Int) < ((AG : Nat) : Int)) ∧
   aE SG fun sV xD =>
   aI (Mem.ld vK ⟨sV, ((xD + ((Int.toNat x1) * 3)) + 1), none⟩) .i64 fun W3 =>
   aM vK ⟨k1, 0, none⟩ (.int .i64 4) fun GU =>
   aM GU ⟨k1, (0 + 1), none⟩ (.int .i64 x1) fun wJ =>
   aM wJ ⟨k1, (0 + 2), none⟩ (.int .i64 W3) fun vJ =>
   aM vJ ⟨k1, (0 + 3), none⟩ (.slice none 0 0) fun pY =>
   aI (Mem.ld pY ⟨k1, 0, none⟩) .i64 fun EL =>
   aI (Mem.ld pY ⟨k1, (0 + 1), none⟩) .i64 fun AT =>
   aI (Mem.ld pY ⟨k1, (0 + 2), none⟩) .i64 fun yh =>
   aB (Mem.ld pY ⟨k1, (0 + 3), none⟩) fun Ui ye Kj =>
   K (.agg #[(.int .i64 EL), (.int .i64 AT), (.int .i64 yh), (.slice Ui ye Kj)]) pY) Kp)
  (J24 [] dK)) ∧
 ∀ junk52 : Nat → Value, ∀ GW : Mem, (J24 [] GW) → aa Tryz.prog 150 #[(.pointer (some ⟨b0, o0, none⟩)), (.pointer (some ⟨gJ, (cX + ((Int.toNat ig) * 3)), none⟩))] GW (fun Nv qS =>
 ∃ F8 : Int, ∃ t57 : Bool, (Nv = (.tuple #[(.int .i64 F8), (.bool t57)])) ∧
 aP (!t57)
  (aI (Mem.ld qS ⟨b0, (o0 + 1), none⟩) .i64 fun BT =>
  ∃ Up : List Value → Mem → Prop, (aP (decide ((BT : Int) > 1))
   (cy (Mem.ld qS ⟨b0, (o0 + 8), none⟩) fun Yl =>
    aI (Mem.ld qS ⟨b0, (o0 + 1), none⟩) .i64 fun Ka =>
    aa Tryz.prog 107 #[(.pointer Yl), (.int .i64 2), (.int .i64 Ka)] qS (fun TX AD =>
    aI (some TX) .i64 fun n64 =>
    cy (Mem.ld AD ⟨gJ, (cX + ((Int.toNat ig) * 3)), none⟩) fun Qx =>
    aB (Mem.ld AD ⟨b0, (o0 + 5), none⟩) fun Nw yl DT =>
    ((0 : Int) ≤ n64) ∧
    ((n64 : Int) < ((yl : Nat) : Int)) ∧
    aE Nw fun G0 BY =>
    cy (Mem.ld AD ⟨G0, (BY + ((Int.toNat n64) * 3)), none⟩) fun G1 =>
    aa Tryz.prog 151 #[(.pointer Qx), (.pointer G1)] AD (fun v72 DV =>
    ∃ Lx : Int, ∃ t75 : Bool, (v72 = (.tuple #[(.int .i64 Lx), (.bool t75)])) ∧
    Up [(.int .i64 5), (.int .i64 Lx), (.bool t75)] DV) Kp) Kp)
   (Up [(.int .i64 4), (.int .i64 F8), (.bool t57)] qS)) ∧
  ∀ Uq : Nat → Value, ∀ EG : Int, ∀ mF : Int, ∀ t79 : Bool, ∀ jn : Mem, (Up [(.int .i64 EG), (.int .i64 mF), (.bool t79)] jn) → aP (!t79)
   (aB (Mem.ld jn ⟨b0, (o0 + 6), none⟩) fun T4 GZ DU =>
   aM jn ⟨gJ, ((cX + ((Int.toNat ig) * 3)) + 2), none⟩ (.int .i64 (-1)) fun EU =>
   ((0 : Int) ≤ x1) ∧
   ((x1 : Int) < ((GZ : Nat) : Int)) ∧
   aE T4 fun IS DW =>
   aM EU ⟨IS, (DW + ((Int.toNat x1) * 3)), none⟩ (.int .i64 (-1)) fun E0 =>
   aM E0 ⟨IS, ((DW + ((Int.toNat x1) * 3)) + 1), none⟩ (.int .i64 (-1)) fun Ur =>
   aM Ur ⟨IS, ((DW + ((Int.toNat x1) * 3)) + 2), none⟩ (.int .i64 0) fun EP =>
   aM EP ⟨k1, 0, none⟩ (.int .i64 6) fun SL =>
   aM SL ⟨k1, (0 + 1), none⟩ (.int .i64 x1) fun mK =>
   aM mK ⟨k1, (0 + 2), none⟩ (.int .i64 (-1)) fun Yz =>
   aM Yz ⟨k1, (0 + 3), none⟩ (.slice none 0 0) fun Dg =>
   aI (Mem.ld Dg ⟨k1, 0, none⟩) .i64 fun Qe =>
   aI (Mem.ld Dg ⟨k1, (0 + 1), none⟩) .i64 fun Kd =>
   aI (Mem.ld Dg ⟨k1, (0 + 2), none⟩) .i64 fun Ke =>
   aB (Mem.ld Dg ⟨k1, (0 + 3), none⟩) fun YA Ks W6 =>
   K (.agg #[(.int .i64 Qe), (.int .i64 Kd), (.int .i64 Ke), (.slice YA Ks W6)]) Dg)
   (aI (Mem.ld jn ⟨gJ, ((cX + ((Int.toNat ig) * 3)) + 1), none⟩) .i64 fun uG =>
   aM jn ⟨gJ, ((cX + ((Int.toNat ig) * 3)) + 1), none⟩ (.int .i64 (IntKind.wrap .i64 (uG + 1))) fun gP =>
   aB (Mem.ld gP ⟨b0, (o0 + 6), none⟩) fun wP kH uV =>
   aB (Mem.ld gP ⟨b0, (o0 + 6), none⟩) fun zE uQ Bc =>
   aI (Mem.ld gP ⟨b0, ((o0 + 1) + 3), none⟩) .i64 fun De =>
   ((0 : Int) ≤ x1) ∧
   ((x1 : Int) < ((kH : Nat) : Int)) ∧
   aE wP fun Dh E1 =>
   aM gP ⟨Dh, ((E1 + ((Int.toNat x1) * 3)) + 1), none⟩ (.int .i64 mF) fun nX =>
   ((0 : Int) ≤ x1) ∧
   ((x1 : Int) < ((uQ : Nat) : Int)) ∧
   aE zE fun yu Di =>
   aM nX ⟨yu, ((Di + ((Int.toNat x1) * 3)) + 2), none⟩ (.int .i64 De) fun tP =>
   aM tP ⟨k1, 0, none⟩ (.int .i64 EG) fun G4 =>
   aM G4 ⟨k1, (0 + 1), none⟩ (.int .i64 x1) fun uU =>
   aM uU ⟨k1, (0 + 2), none⟩ (.int .i64 mF) fun G2 =>
   aM G2 ⟨k1, (0 + 3), none⟩ (.slice none 0 0) fun nW =>
   aI (Mem.ld nW ⟨k1, 0, none⟩) .i64 fun Nx =>
   aI (Mem.ld nW ⟨k1, (0 + 1), none⟩) .i64 fun zD =>
   aI (Mem.ld nW ⟨k1, (0 + 2), none⟩) .i64 fun wO =>
   aB (Mem.ld nW ⟨k1, (0 + 3), none⟩) fun G5 Dj EW =>
   K (.agg #[(.int .i64 Nx), (.int .i64 zD), (.int .i64 wO), (.slice G5 Dj EW)]) nW))
  (∃ Ny : List Value → Mem → Prop, (Ny [(.int .i64 4), (.int .i64 F8), (.bool t57)] qS) ∧
  ∀ QE : Nat → Value, ∀ Dk : Int, ∀ yp : Int, ∀ t129 : Bool, ∀ sD : Mem, (Ny [(.int .i64 Dk), (.int .i64 yp), (.bool t129)] sD) → aP (!t129)
   (aB (Mem.ld sD ⟨b0, (o0 + 6), none⟩) fun EX yq EY =>
   aM sD ⟨gJ, ((cX + ((Int.toNat ig) * 3)) + 2), none⟩ (.int .i64 (-1)) fun G3 =>
   ((0 : Int) ≤ x1) ∧
   ((x1 : Int) < ((yq : Nat) : Int)) ∧
   aE EX fun yw qh =>
   aM G3 ⟨yw, (qh + ((Int.toNat x1) * 3)), none⟩ (.int .i64 (-1)) fun Kr =>
   aM Kr ⟨yw, ((qh + ((Int.toNat x1) * 3)) + 1), none⟩ (.int .i64 (-1)) fun Us =>
   aM Us ⟨yw, ((qh + ((Int.toNat x1) * 3)) + 2), none⟩ (.int .i64 0) fun Df =>
   aM Df ⟨k1, 0, none⟩ (.int .i64 6) fun Ut =>
   aM Ut ⟨k1, (0 + 1), none⟩ (.int .i64 x1) fun Dl =>
   aM Dl ⟨k1, (0 + 2), none⟩ (.int .i64 (-1)) fun Nz =>
   aM Nz ⟨k1, (0 + 3), none⟩ (.slice none 0 0) fun zF =>
   aI (Mem.ld zF ⟨k1, 0, none⟩) .i64 fun NA =>
   aI (Mem.ld zF ⟨k1, (0 + 1), none⟩) .i64 fun NB =>
   aI (Mem.ld zF ⟨k1, (0 + 2), none⟩) .i64 fun NC =>
   aB (Mem.ld zF ⟨k1, (0 + 3), none⟩) fun ND E2 NF =>
   K (.agg #[(.int .i64 NA), (.int .i64 NB), (.int .i64 NC), (.slice ND E2 NF)]) zF)
   (aI (Mem.ld sD ⟨gJ, ((cX + ((Int.toNat ig) * 3)) + 1), none⟩) .i64 fun Ns =>
   aM sD ⟨gJ, ((cX + ((Int.toNat ig) * 3)) + 1), none⟩ (.int .i64 (IntKind.wrap .i64 (Ns + 1))) fun uW =>
   aB (Mem.ld uW ⟨b0, (o0 + 6), none⟩) fun NG NH Nu =>
   aB (Mem.ld uW ⟨b0, (o0 + 6), none⟩) fun Uu Uv Uw =>
   aI (Mem.ld uW ⟨b0, ((o0 + 1) + 3), none⟩) .i64 fun Ux =>
   ((0 : Int) ≤ x1) ∧
   ((x1 : Int) < ((NH : Nat) : Int)) ∧
   aE NG fun Uy Uz =>
   aM uW ⟨Uy, ((Uz + ((Int.toNat x1) * 3)) + 1), none⟩ (.int .i64 yp) fun wQ =>
   ((0 : Int) ≤ x1) ∧
   ((x1 : Int) < ((Uv : Nat) : Int)) ∧
   aE Uu fun NI NJ =>
   aM wQ ⟨NI, ((NJ + ((Int.toNat x1) * 3)) + 2), none⟩ (.int .i64 Ux) fun NK =>
   aM NK ⟨k1, 0, none⟩ (.int .i64 Dk) fun NL =>
   aM NL ⟨k1, (0 + 1), none⟩ (.int .i64 x1) fun NM =>
   aM NM ⟨k1, (0 + 2), none⟩ (.int .i64 yp) fun Kt =>
   aM Kt ⟨k1, (0 + 3), none⟩ (.slice none 0 0) fun zG =>
   aI (Mem.ld zG ⟨k1, 0, none⟩) .i64 fun NN =>
   aI (Mem.ld zG ⟨k1, (0 + 1), none⟩) .i64 fun NO =>
   aI (Mem.ld zG ⟨k1, (0 + 2), none⟩) .i64 fun NP =>
   aB (Mem.ld zG ⟨k1, (0 + 3), none⟩) fun UA Ku UB =>
   K (.agg #[(.int .i64 NN), (.int .i64 NO), (.int .i64 NP), (.slice UA Ku UB)]) zG))) Kp) Kp)
 (∃ YB : List Value → Mem → Prop, (YB [] M2) ∧
 ∀ junk176 : Nat → Value, ∀ YC : Mem, (YB [] YC) → aa Tryz.prog 150 #[(.pointer (some ⟨b0, o0, none⟩)), (.pointer (some ⟨gJ, (cX + ((Int.toNat ig) * 3)), none⟩))] YC (fun v178 Kv =>
 ∃ UC : Int, ∃ t181 : Bool, (v178 = (.tuple #[(.int .i64 UC), (.bool t181)])) ∧
 aP (!t181)
  (aI (Mem.ld Kv ⟨b0, (o0 + 1), none⟩) .i64 fun n182 =>
  ∃ UD : List Value → Mem → Prop, (aP (decide ((n182 : Int) > 1))
   (cy (Mem.ld Kv ⟨b0, (o0 + 8), none⟩) fun A184 =>
    aI (Mem.ld Kv ⟨b0, (o0 + 1), none⟩) .i64 fun UE =>
    aa Tryz.prog 107 #[(.pointer A184), (.int .i64 2), (.int .i64 UE)] Kv (fun v186 QF =>
    aI (some v186) .i64 fun G6 =>
    cy (Mem.ld QF ⟨gJ, (cX + ((Int.toNat ig) * 3)), none⟩) fun A189 =>
    aB (Mem.ld QF ⟨b0, (o0 + 5), none⟩) fun A190 k191 UF =>
    ((0 : Int) ≤ G6) ∧
    ((G6 : Int) < ((k191 : Nat) : Int)) ∧
    aE A190 fun k193 k194 =>
    cy (Mem.ld QF ⟨k193, (k194 + ((Int.toNat G6) * 3)), none⟩) fun A195 =>
    aa Tryz.prog 151 #[(.pointer A189), (.pointer A195)] QF (fun v196 NQ =>
    ∃ QG : Int, ∃ t199 : Bool, (v196 = (.tuple #[(.int .i64 QG), (.bool t199)])) ∧
    UD [(.int .i64 5), (.int .i64 QG), (.bool t199)] NQ) Kp) Kp)
   (UD [(.int .i64 4), (.int .i64 UC), (.bool t181)] Kv)) ∧
  ∀ junk200 : Nat → Value, ∀ QH : Int, ∀ NR : Int, ∀ t203 : Bool, ∀ NS : Mem, (UD [(.int .i64 QH), (.int .i64 NR), (.bool t203)] NS) → aP (!t203)
   (aB (Mem.ld NS ⟨b0, (o0 + 6), none⟩) fun UG UH YD =>
   aM NS ⟨gJ, ((cX + ((Int.toNat ig) * 3)) + 2), none⟩ (.int .i64 (-1)) fun M208 =>
   ((0 : Int) ≤ x1) ∧
   ((x1 : Int) < ((UH : Nat) : Int)) ∧
   aE UG fun UI UJ =>
   aM M208 ⟨UI, (UJ + ((Int.toNat x1) * 3)), none⟩ (.int .i64 (-1)) fun M211 =>
   aM M211 ⟨UI, ((UJ + ((Int.toNat x1) * 3)) + 1), none⟩ (.int .i64 (-1)) fun QI =>
   aM QI ⟨UI, ((UJ + ((Int.toNat x1) * 3)) + 2), none⟩ (.int .i64 0) fun UK =>
   aM UK ⟨k1, 0, none⟩ (.int .i64 6) fun M214 =>
   aM M214 ⟨k1, (0 + 1), none⟩ (.int .i64 x1) fun M215 =>
   aM M215 ⟨k1, (0 + 2), none⟩ (.int .i64 (-1)) fun M216 =>
   aM M216 ⟨k1, (0 + 3), none⟩ (.slice none 0 0) fun NT =>
   aI (Mem.ld NT ⟨k1, 0, none⟩) .i64 fun n218 =>
   aI (Mem.ld NT ⟨k1, (0 + 1), none⟩) .i64 fun n219 =>
   aI (Mem.ld NT ⟨k1, (0 + 2), none⟩) .i64 fun n220 =>
   aB (Mem.ld NT ⟨k1, (0 + 3), none⟩) fun A221 k222 UL =>
   K (.agg #[(.int .i64 n218), (.int .i64 n219), (.int .i64 n220), (.slice A221 k222 UL)]) NT)
   (aI (Mem.ld NS ⟨gJ, ((cX + ((Int.toNat ig) * 3)) + 1), none⟩) .i64 fun UM =>
   aM NS ⟨gJ, ((cX + ((Int.toNat ig) * 3)) + 1), none⟩ (.int .i64 (IntKind.wrap .i64 (UM + 1))) fun QJ =>
   aB (Mem.ld QJ ⟨b0, (o0 + 6), none⟩) fun UN UO k228 =>
   aB (Mem.ld QJ ⟨b0, (o0 + 6), none⟩) fun A229 UP k231 =>
   aI (Mem.ld QJ ⟨b0, ((o0 + 1) + 3), none⟩) .i64 fun n232 =>
   ((0 : Int) ≤ x1) ∧
   ((x1 : Int) < ((UO : Nat) : Int)) ∧
   aE UN fun k233 UQ =>
   aM QJ ⟨k233, ((UQ + ((Int.toNat x1) * 3)) + 1), none⟩ (.int .i64 NR) fun M235 =>
   ((0 : Int) ≤ x1) ∧
   ((x1 : Int) < ((UP : Nat) : Int)) ∧
   aE A229 fun k236 UR =>
   aM M235 ⟨k236, ((UR + ((Int.toNat x1) * 3)) + 2), none⟩ (.int .i64 n232) fun US =>
   aM US ⟨k1, 0, none⟩ (.int .i64 QH) fun UT =>
   aM UT ⟨k1, (0 + 1), none⟩ (.int .i64 x1) fun QK =>
   aM QK ⟨k1, (0 + 2), none⟩ (.int .i64 NR) fun M241 =>
   aM M241 ⟨k1, (0 + 3), none⟩ (.slice none 0 0) fun NU =>
   aI (Mem.ld NU ⟨k1, 0, none⟩) .i64 fun UU =>
   aI (Mem.ld NU ⟨k1, (0 + 1), none⟩) .i64 fun UW =>
   aI (Mem.ld NU ⟨k1, (0 + 2), none⟩) .i64 fun UX =>
   aB (Mem.ld NU ⟨k1, (0 + 3), none⟩) fun A246 k247 UY =>
   K (.agg #[(.int .i64 UU), (.int .i64 UW), (.int .i64 UX), (.slice A246 k247 UY)]) NU))
  (∃ YE : List Value → Mem → Prop, (YE [(.int .i64 4), (.int .i64 UC), (.bool t181)] Kv) ∧
  ∀ junk250 : Nat → Value, ∀ YF : Int, ∀ UZ : Int, ∀ t253 : Bool, ∀ NV : Mem, (YE [(.int .i64 YF), (.int .i64 UZ), (.bool t253)] NV) → aP (!t253)
   (aB (Mem.ld NV ⟨b0, (o0 + 6), none⟩) fun A255 U0 k257 =>
   aM NV ⟨gJ, ((cX + ((Int.toNat ig) * 3)) + 2), none⟩ (.int .i64 (-1)) fun M258 =>
   ((0 : Int) ≤ x1) ∧
   ((x1 : Int) < ((U0 : Nat) : Int)) ∧
   aE A255 fun U1 U2 =>
   aM M258 ⟨U1, (U2 + ((Int.toNat x1) * 3)), none⟩ (.int .i64 (-1)) fun M261 =>
   aM M261 ⟨U1, ((U2 + ((Int.toNat x1) * 3)) + 1), none⟩ (.int .i64 (-1)) fun M262 =>
   aM M262 ⟨U1, ((U2 + ((Int.toNat x1) * 3)) + 2), none⟩ (.int .i64 0) fun M263 =>
   aM M263 ⟨k1, 0, none⟩ (.int .i64 6) fun M264 =>
   aM M264 ⟨k1, (0 + 1), none⟩ (.int .i64 x1) fun M265 =>
   aM M265 ⟨k1, (0 + 2), none⟩ (.int .i64 (-1)) fun M266 =>
   aM M266 ⟨k1, (0 + 3), none⟩ (.slice none 0 0) fun E3 =>
   aI (Mem.ld E3 ⟨k1, 0, none⟩) .i64 fun U3 =>
   aI (Mem.ld E3 ⟨k1, (0 + 1), none⟩) .i64 fun U4 =>
   aI (Mem.ld E3 ⟨k1, (0 + 2), none⟩) .i64 fun U5 =>
   aB (Mem.ld E3 ⟨k1, (0 + 3), none⟩) fun A271 k272 k273 =>
   K (.agg #[(.int .i64 U3), (.int .i64 U4), (.int .i64 U5), (.slice A271 k272 k273)]) E3)
   (aI (Mem.ld NV ⟨gJ, ((cX + ((Int.toNat ig) * 3)) + 1), none⟩) .i64 fun U6 =>
   aM NV ⟨gJ, ((cX + ((Int.toNat ig) * 3)) + 1), none⟩ (.int .i64 (IntKind.wrap .i64 (U6 + 1))) fun QL =>
   aB (Mem.ld QL ⟨b0, (o0 + 6), none⟩) fun A276 k277 k278 =>
   aB (Mem.ld QL ⟨b0, (o0 + 6), none⟩) fun A279 k280 k281 =>
   aI (Mem.ld QL ⟨b0, ((o0 + 1) + 3), none⟩) .i64 fun U7 =>
   ((0 : Int) ≤ x1) ∧
   ((x1 : Int) < ((k277 : Nat) : Int)) ∧
   aE A276 fun k283 k284 =>
   aM QL ⟨k283, ((k284 + ((Int.toNat x1) * 3)) + 1), none⟩ (.int .i64 UZ) fun QM =>
   ((0 : Int) ≤ x1) ∧
   ((x1 : Int) < ((k280 : Nat) : Int)) ∧
   aE A279 fun k286 k287 =>
   aM QM ⟨k286, ((k287 + ((Int.toNat x1) * 3)) + 2), none⟩ (.int .i64 U7) fun M288 =>
   aM M288 ⟨k1, 0, none⟩ (.int .i64 YF) fun M289 =>
   aM M289 ⟨k1, (0 + 1), none⟩ (.int .i64 x1) fun M290 =>
   aM M290 ⟨k1, (0 + 2), none⟩ (.int .i64 UZ) fun M291 =>
   aM M291 ⟨k1, (0 + 3), none⟩ (.slice none 0 0) fun NW =>
   aI (Mem.ld NW ⟨k1, 0, none⟩) .i64 fun n293 =>
   aI (Mem.ld NW ⟨k1, (0 + 1), none⟩) .i64 fun U8 =>
   aI (Mem.ld NW ⟨k1, (0 + 2), none⟩) .i64 fun U9 =>
   aB (Mem.ld NW ⟨k1, (0 + 3), none⟩) fun A296 k297 k298 =>
   K (.agg #[(.int .i64 n293), (.int .i64 U8), (.int .i64 U9), (.slice A296 k297 k298)]) NW))) Kp)) :
 aa Tryz.prog 110 ([.pointer (some ⟨b0, o0, none⟩), .int .i64 x1] : List Value).toArray M K Kp :=
 cz (C := Cx) good [(1, .bS [0, 1, 3, 7, 0, 16, 48, 112, 0, 496, 1008, 2032, 4095, 8191] (.step 0 (.step 1 (.step 2 (.step 4 (.step 5 (.step 6 (.step 8 (.step 3 (.step 7 (.step 9 (.step 10 (.step 11 (.step 12 (.step 13 .done))))))))))))))), (3000039, .cut []), (3, .bS [0, 1, 3, 7, 0, 0, 32, 96, 224, 480, 992, 2016, 2016, 4095, 12287, 28671] (.step 0 (.step 1 (.step 2 (.step 4 (.step 5 (.step 6 (.step 7 (.step 8 (.dD 3 (.step 9 (.step 10 (.step 11 (.step 12 (.step 13 (.step 14 (.step 15 .done))))))))))))))))), (3000080, .cut [(6, .c (.int .i64)), (7, .c (.int .i64)), (8, .c .bool)]), (8, .bS [0, 1, 3, 7, 0, 16, 48, 112, 240, 511, 1023] (.step 0 (.step 1 (.step 2 (.step 4 (.step 5 (.step 6 (.step 7 (.step 3 (.step 8 (.step 9 (.step 10 .done)))))))))))), (10, .bS [0, 1, 3, 7, 0, 16, 48, 112, 0, 496, 1008, 2032, 4095, 8191, 16383, 16383, 32767, 131071] (.step 0 (.step 1 (.step 2 (.step 4 (.step 5 (.step 6 (.step 8 (.step 3 (.step 7 (.step 9 (.step 10 (.step 11 (.step 12 (.step 13 (.step 14 (.step 15 (.step 16 (.step 17 .done))))))))))))))))))), (15, .bS [0, 1, 3, 7, 0, 0, 32, 96, 224, 0, 0, 0, 2048, 6144, 14336, 30720, 65023, 130559, 261631, 524287, 1048575, 2097151] (.step 0 (.step 1 (.step 2 (.step 4 (.step 5 (.step 6 (.step 7 (.step 9 (.step 10 (.step 11 (.step 12 (.step 13 (.step 14 (.step 3 (.step 8 (.step 15 (.step 16 (.step 17 (.step 18 (.step 19 (.step 20 (.step 21 .done)))))))))))))))))))))))] Tryz.func110 (by kernel_rfl) (by kernel_rfl) h
theorem tQ {b0 o0 : Nat} {x1 : Int} (h :
aX M (.cells #[(.int .i64 0), (.int .i64 0), (.int .i64 0), (.slice none 0 0)] 43 (0, 0)) fun k1 M2 =>
aB (Mem.ld M2 ⟨b0, (o0 + 6), none⟩) fun A3 k4 k5 =>
((0 : Int) ≤ x1) ∧
((x1 : Int) < ((k4 : Nat) : Int)) ∧
aE A3 fun k6 k7 =>
aI (Mem.ld M2 ⟨k6, ((k7 + ((Int.toNat x1) * 3)) + 1), none⟩) .i64 fun n8 =>
cy (Mem.ld M2 ⟨b0, o0, none⟩) fun A9 =>
cy (Mem.ld M2 ⟨b0, (o0 + 8), none⟩) fun BR =>
(True) ∧
aa Tryz.prog 121 #[(.pointer A9), (.int .i64 n8), (.func (.func 107) #[(.pointer BR)] #[])] M2 (fun v11 oF =>
∃ t13 : Bool, ∃ qQ : Option Addr, ∃ iF : Nat, ∃ eX : Nat, (v11 = (.agg #[(.bool t13), (.slice qQ iF eX)])) ∧
aX oF (.cells #[(.bool false), (.slice none 0 0)] 250 (0, 0)) fun dn rD =>
aM rD ⟨dn, 0, none⟩ (.bool t13) fun jq =>
aM jq ⟨dn, (0 + 1), none⟩ (.slice qQ iF eX) fun uE =>
aB (Mem.ld uE ⟨dn, (0 + 1), none⟩) fun C2 gO iM =>
∃ Va : Nat → List Value → Mem → Prop, (∃ tr : Nat, Va tr [(.int .i64 0)] uE) ∧
∀ pM : Nat, ∀ Vb : Nat → Value, ∀ xC : Int, ∀ mY : Mem, (Va pM [(.int .i64 xC)] mY) → aP (decide ((xC : Int) < ((gO : Nat) : Int)))
 (((0 : Int) ≤ xC) ∧
 ((xC : Int) < ((gO : Nat) : Int)) ∧
 aE C2 fun l9 qR =>
 aI (Mem.ld mY ⟨l9, (qR + (Int.toNat xC)), none⟩) .i64 fun n32 =>
 aB (Mem.ld mY ⟨b0, (o0 + 5), none⟩) fun GJ uF wB =>
 aI (Mem.ld mY ⟨k6, (k7 + ((Int.toNat x1) * 3)), none⟩) .i64 fun vI =>
 ((0 : Int) ≤ vI) ∧
 ((vI : Int) < ((uF : Nat) : Int)) ∧
 aE GJ fun AG fW =>
 cy (Mem.ld mY ⟨AG, (fW + ((Int.toNat vI) * 3)), none⟩) fun Qa =>
 aa Tryz.prog 152 #[(.pointer Qa), (.int .i64 n32), (.pointer (some ⟨b0, (o0 + 7), none⟩))] mY (fun Kg C6 =>
 aI (some Kg) .i64 fun Pt =>
 ∃ ko : Nat, (ko < pM) ∧
 Va ko [(.int .i64 (IntKind.wrap .i64 (xC + 1)))] C6) Kp)
 (aI (Mem.ld mY ⟨k6, ((k7 + ((Int.toNat x1) * 3)) + 2), none⟩) .i64 fun AE =>
 aM mY ⟨k6, ((k7 + ((Int.toNat x1) * 3)) + 2), none⟩ (.int .i64 (IntKind.wrap .i64 (AE - 1))) fun pY =>
 c7 (Mem.ld pY ⟨dn, 0, none⟩) fun t46 =>
 aP (!t46)
  (aM pY ⟨k6, ((k7 + ((Int.toNat x1) * 3)) + 1), none⟩ (.int .i64 (-1)) fun pT =>
  cy (Mem.ld pT ⟨b0, o0, none⟩) fun Lw =>
  aa Tryz.prog 119 #[(.pointer Lw), (.int .i64 n8)] pT (fun GI qP =>
  aI (some GI) .i64 fun Ba =>
  aP (Ba == 1)
   (aX qP (.cells #[(.int .i64 n8)] 3 (0, 0)) fun kS GW =>
   aa Tryz.prog 58 #[(.pointer (some ⟨b0, (o0 + 7), none⟩)), (.slice (some ⟨kS, 0, none⟩) 1 1)] GW (fun Nv qS =>
   (Nv = (.tuple #[])) ∧
   aB (Mem.ld qS ⟨dn, (0 + 1), none⟩) fun Nj wK xE =>
   aM qS ⟨k1, 0, none⟩ (.int .i64 7) fun AH =>
   aM AH ⟨k1, (0 + 1), none⟩ (.int .i64 x1) fun vG =>
   aM vG ⟨k1, (0 + 2), none⟩ (.int .i64 n8) fun wz =>
   aM wz ⟨k1, (0 + 3), none⟩ (.slice Nj wK xE) fun vE =>
   aI (Mem.ld vE ⟨k1, 0, none⟩) .i64 fun yf =>
   aI (Mem.ld vE ⟨k1, (0 + 1), none⟩) .i64 fun n64 =>
   aI (Mem.ld vE ⟨k1, (0 + 2), none⟩) .i64 fun wA =>
   aB (Mem.ld vE ⟨k1, (0 + 3), none⟩) fun Nw yl DT =>
   K (.agg #[(.int .i64 yf), (.int .i64 n64), (.int .i64 wA), (.slice Nw yl DT)]) vE) Kp)
   (aB (Mem.ld qP ⟨dn, (0 + 1), none⟩) fun YG BY Kk =>
   aM qP ⟨k1, 0, none⟩ (.int .i64 7) fun Sz =>
   aM Sz ⟨k1, (0 + 1), none⟩ (.int .i64 x1) fun DV =>
   aM DV ⟨k1, (0 + 2), none⟩ (.int .i64 n8) fun EN =>
   aM EN ⟨k1, (0 + 3), none⟩ (.slice YG BY Kk) fun xL =>
   aI (Mem.ld xL ⟨k1, 0, none⟩) .i64 fun MM =>
   aI (Mem.ld xL ⟨k1, (0 + 1), none⟩) .i64 fun EG =>
   aI (Mem.ld xL ⟨k1, (0 + 2), none⟩) .i64 fun mF =>
   aB (Mem.ld xL ⟨k1, (0 + 3), none⟩) fun Ud ET Ni =>
   K (.agg #[(.int .i64 MM), (.int .i64 EG), (.int .i64 mF), (.slice Ud ET Ni)]) xL)) Kp)
  (aI (Mem.ld pY ⟨k6, ((k7 + ((Int.toNat x1) * 3)) + 2), none⟩) .i64 fun IF =>
  aP (IF == 0)
   (aM pY ⟨k6, ((k7 + ((Int.toNat x1) * 3)) + 1), none⟩ (.int .i64 (-1)) fun C9 =>
   cy (Mem.ld C9 ⟨b0, o0, none⟩) fun YH =>
   aa Tryz.prog 119 #[(.pointer YH), (.int .i64 n8)] C9 (fun Yt Qw =>
   aI (some Yt) .i64 fun YI =>
   aP (YI == 1)
    (aX Qw (.cells #[(.int .i64 n8)] 3 (0, 0)) fun Km EP =>
    aa Tryz.prog 58 #[(.pointer (some ⟨b0, (o0 + 7), none⟩)), (.slice (some ⟨Km, 0, none⟩) 1 1)] EP (fun Nh mK =>
    (Nh = (.tuple #[])) ∧
    aB (Mem.ld mK ⟨dn, (0 + 1), none⟩) fun T5 Nn Qq =>
    aM mK ⟨k1, 0, none⟩ (.int .i64 7) fun DX =>
    aM DX ⟨k1, (0 + 1), none⟩ (.int .i64 x1) fun M96 =>
    aM M96 ⟨k1, (0 + 2), none⟩ (.int .i64 n8) fun F7 =>
    aM F7 ⟨k1, (0 + 3), none⟩ (.slice T5 Nn Qq) fun DY =>
    aI (Mem.ld DY ⟨k1, 0, none⟩) .i64 fun Px =>
    aI (Mem.ld DY ⟨k1, (0 + 1), none⟩) .i64 fun uG =>
    aI (Mem.ld DY ⟨k1, (0 + 2), none⟩) .i64 fun MN =>
    aB (Mem.ld DY ⟨k1, (0 + 3), none⟩) fun wP kH uV =>
    K (.agg #[(.int .i64 Px), (.int .i64 uG), (.int .i64 MN), (.slice wP kH uV)]) DY) Kp)
    (aB (Mem.ld Qw ⟨dn, (0 + 1), none⟩) fun zE uQ Bc =>
    aM Qw ⟨k1, 0, none⟩ (.int .i64 7) fun Bd =>
    aM Bd ⟨k1, (0 + 1), none⟩ (.int .i64 x1) fun pO =>
    aM pO ⟨k1, (0 + 2), none⟩ (.int .i64 n8) fun Vc =>
    aM Vc ⟨k1, (0 + 3), none⟩ (.slice zE uQ Bc) fun nX =>
    aI (Mem.ld nX ⟨k1, 0, none⟩) .i64 fun zn =>
    aI (Mem.ld nX ⟨k1, (0 + 1), none⟩) .i64 fun MQ =>
    aI (Mem.ld nX ⟨k1, (0 + 2), none⟩) .i64 fun MR =>
    aB (Mem.ld nX ⟨k1, (0 + 3), none⟩) fun NX E4 G7 =>
    K (.agg #[(.int .i64 zn), (.int .i64 MQ), (.int .i64 MR), (.slice NX E4 G7)]) nX)) Kp)
   (aB (Mem.ld pY ⟨dn, (0 + 1), none⟩) fun Vd zH NY =>
   aM pY ⟨k1, 0, none⟩ (.int .i64 7) fun Ve =>
   aM Ve ⟨k1, (0 + 1), none⟩ (.int .i64 x1) fun Vf =>
   aM Vf ⟨k1, (0 + 2), none⟩ (.int .i64 n8) fun Kw =>
   aM Kw ⟨k1, (0 + 3), none⟩ (.slice Vd zH NY) fun sE =>
   aI (Mem.ld sE ⟨k1, 0, none⟩) .i64 fun G8 =>
   aI (Mem.ld sE ⟨k1, (0 + 1), none⟩) .i64 fun Vg =>
   aI (Mem.ld sE ⟨k1, (0 + 2), none⟩) .i64 fun Dk =>
   aB (Mem.ld sE ⟨k1, (0 + 3), none⟩) fun NZ G9 QN =>
   K (.agg #[(.int .i64 G8), (.int .i64 Vg), (.int .i64 Dk), (.slice NZ G9 QN)]) sE)))) Kp) :
 aa Tryz.prog 111 ([.pointer (some ⟨b0, o0, none⟩), .int .i64 x1] : List Value).toArray M K Kp :=
 cz (C := Cx) good [(3, .bS [0, 1, 3, 7, 0, 0, 32, 96, 224, 480, 1023, 0, 4095] (.step 0 (.step 1 (.step 2 (.step 4 (.step 5 (.step 6 (.step 7 (.step 3 (.step 8 (.step 9 (.late 10 (.step 11 (.step 12 .done)))))))))))))), (2000000, .loop [(34, .c (.int .i64))]), (7, .bS [0, 1, 3, 7, 0, 16, 48, 112, 255, 511, 1023, 0, 0, 4096, 12288, 32767] (.step 0 (.step 1 (.step 2 (.step 4 (.step 5 (.step 6 (.step 11 (.step 12 (.step 13 (.step 14 (.step 3 (.step 7 (.step 8 (.step 9 (.step 10 (.step 15 .done)))))))))))))))))] Tryz.func111 (by kernel_rfl) (by kernel_rfl) h
theorem tR {b0 o0 : Nat} {b1 o1 : Nat} (h :
rP M b1 o1 fun A1 =>
aa Tryz.prog 178 #[(.pointer A1), (.pointer (some ⟨b0, (o0 + 7), none⟩))] M (fun v2 M3 =>
aI (some v2) .i64 fun n4 =>
rI M3 b1 (o1 + 1) fun n5 =>
((7 : Int) ≠ 0) ∧
aP ((Int.tmod n5 7) == 6)
 (aa Tryz.prog 179 #[(.pointer (some ⟨b0, (o0 + 7), none⟩)), (iV 1)] M3 (fun v6 M7 =>
 aB (some v6) fun A8 k9 fR =>
 aP ((k9 : Int) == 1)
 (((0 : Int) ≤ 0) ∧
 ((0 : Int) < k9) ∧
 aE A8 fun eu gJ =>
 rI M7 eu (gJ + 0) fun j6 =>
 K (.tuple #[(iV j6), (.bool true)]) M7)
 (rP M7 b1 o1 fun qQ =>
 aa Tryz.prog 149 #[(.pointer qQ)] M7 (fun C3 fL =>
 ∃ jH : Int, ∃ t18 : Bool, (C3 = (.tuple #[(iV jH), (.bool t18)])) ∧
 aP t18
 (K (.tuple #[(iV jH), (.bool true)]) fL)
 (rP fL b1 o1 fun yM =>
 aa Tryz.prog 180 #[(.pointer yM), (.pointer (some ⟨b0, (o0 + 7), none⟩)), (iV 0)] fL (fun v20 kj =>
 ∃ rq : Int, ∃ t23 : Bool, (v20 = (.tuple #[(iV rq), (.bool t23)])) ∧
 K (.tuple #[(iV rq), (.bool t23)]) kj) Kp)) Kp)) Kp)
 (rP M3 b1 o1 fun Pq =>
 aa Tryz.prog 149 #[(.pointer Pq)] M3 (fun TW wG =>
 ∃ wH : Int, ∃ t28 : Bool, (TW = (.tuple #[(iV wH), (.bool t28)])) ∧
 aP t28
 (K (.tuple #[(iV wH), (.bool true)]) wG)
 (rP wG b1 o1 fun SB =>
 aa Tryz.prog 180 #[(.pointer SB), (.pointer (some ⟨b0, (o0 + 7), none⟩)), (iV 0)] wG (fun v30 Ql =>
 ∃ n32 : Int, ∃ t33 : Bool, (v30 = (.tuple #[(iV n32), (.bool t33)])) ∧
 K (.tuple #[(iV n32), (.bool t33)]) Ql) Kp)) Kp)) Kp) :
 aa Tryz.prog 150 #[.pointer (some ⟨b0, o0, none⟩), .pointer (some ⟨b1, o1, none⟩)] M K Kp := vw [(1, .bS [0, 1, 3, 7, 0, 16, 48, 127] (sy [0, 1, 2, 4, 5, 6, 3, 7] .done)), (9, .bS [0, 1, 3, 7, 0, 16, 48, 127, 255, 255, 1023, 2047] (sy [0, 1, 2, 4, 5, 6, 3, 7, 8, 9, 10, 11] .done))] Tryz.func150 h
end Go.Proofs
namespace Go.AF
theorem dc.two : ∀ (zs : List HP) (i j : Nat), i ≠ j → i < zs.length → j < zs.length → ∃ rest, ∀ P Q, ∃ l1, dc ((zs.set i P).set j Q) P l1 ∧ dc l1 Q rest
 | [], _, _, _, h, _ => by simp at h
 | z :: zs, 0, 0, h, _, _ => absurd rfl h
 | z :: zs, 0, j + 1, _, _, hj => ⟨zs.eraseIdx j, fun P Q => ⟨zs.set j Q, by simp only [List.set_cons_zero, List.set_cons_succ]; exact .here, dc.idx (by simpa using hj)⟩⟩
 | z :: zs, i + 1, 0, _, hi, _ => ⟨zs.eraseIdx i, fun P Q => ⟨Q :: zs.eraseIdx i, by simp only [List.set_cons_zero, List.set_cons_succ]; exact .there (dc.idx (by simpa using hi)), .here⟩⟩
 | z :: zs, i + 1, j + 1, h, hi, hj => by
  obtain ⟨rest, hr⟩ := dc.two zs i j (by omega) (by simpa using hi) (by simpa using hj)
  refine ⟨z :: rest, fun P Q => ?_⟩
  obtain ⟨l1, h1, h2⟩ := hr P Q
  exact ⟨z :: l1, by simp only [List.set_cons_succ]; exact .there h1, .there h2⟩
section
variable {α : Type} {r : tj α} {R : Mem} {L L' nJ : List HP} {M : Mem} {bs : List Nat} {cs : List α} {b b' i j : Nat} {c c' : α}
theorem Hp.N0 (h : Hp R L M) (r : tj α) {bs : List Nat} {cs : List α} [o : fS r L bs cs L'] (hij : i ≠ j) (hb : bs[i]? = some b) (hc : cs[i]? = some c) (hb' : bs[j]? = some b') (F6 : cs[j]? = some c') :
  ∃ X : HP, Hp R (ay r b c :: ay r b' c' :: X :: L') M ∧ ∀ {R' : Mem} {L2 : List HP} {M' : Mem} {d d' : α}, Hp R' (ay r b d :: ay r b' d' :: X :: L2) M' → Hp R' (bn r bs ((cs.set i d).set j d') :: L2) M' := by
 have hi := (List.getElem?_eq_some_iff.1 hb).1
 have hj := (List.getElem?_eq_some_iff.1 hb').1
 have N1 := (List.getElem?_eq_some_iff.1 hc).1
 have Lr := (List.getElem?_eq_some_iff.1 F6).1
 have hl : (List.zipWith (ay r) bs cs).length = min bs.length cs.length := List.length_zipWith
 obtain ⟨rest, hr⟩ := dc.two (List.zipWith (ay r) bs cs) i j hij (by omega) (by omega)
 refine ⟨sep rest, ?_, ?_⟩
 ·have h0 : Hp R (sep (List.zipWith (ay r) bs cs) :: L') M := h.pick o.pick
  obtain ⟨l1, p1, p2⟩ := hr (ay r b c) (ay r b' c')
  have e : ((List.zipWith (ay r) bs cs).set i (ay r b c)).set j (ay r b' c') = List.zipWith (ay r) bs cs := by
   rw [nT hb, nT hb']
   congr 1
   obtain ⟨_, e1⟩ := List.getElem?_eq_some_iff.1 hc
   obtain ⟨_, e2⟩ := List.getElem?_eq_some_iff.1 F6
   subst e1; subst e2
   rw [List.set_getElem_self, List.set_getElem_self]
  rw [e] at p1
  refine h0.map fun A hs => ?_
  have h1 := b6.pick p1.app (b6.aS.1 hs)
  exact h1.tail fun B PM => (b6.pick p2.app PM).tail fun C II => b6.aS.2 II
 ·intro R' L2 M' d d' h1
  obtain ⟨l1, p1, p2⟩ := hr (ay r b d) (ay r b' d')
  rw [nT hb, nT hb'] at p1
  show Hp R' (sep (List.zipWith (ay r) bs ((cs.set i d).set j d')) :: L2) M'
  refine h1.map fun A hs => b6.aS.2 (b6.nH p1.app ?_)
  exact hs.tail fun B PM => b6.nH p2.app (PM.tail fun C II => b6.aS.1 II)
end
end Go.AF
namespace Go.Proofs
open Go.AF
set_option maxRecDepth 100000
theorem qi {zq : Int} {zu : Int} {fD : Int} {YJ : Int} {M : Mem} {K : Value → Mem → Prop} {Kp : List PanicEntry → Mem → Prop} (h :
aX M (cl [(iV zq), (iV zu), (iV fD), (iV YJ)] 23) fun k1 M2 =>
aX M2 J1 fun k3 M4 =>
bN M4 k1 0 fun n5 n6 n7 n8 =>
aa Tryz.prog 55 #[(iV n5), (iV 5)] M4 (fun v9 iE =>
aI (some v9) .i64 fun ig =>
eI iE k1 3 n8 ∧
eI iE k1 2 n7 ∧
eI iE k1 1 n6 ∧
aa Tryz.prog 55 #[(iV n6), (iV 5)] iE (fun Ls mZ =>
aI (some Ls) .i64 fun nx =>
eI mZ k1 3 n8 ∧
eI mZ k1 2 n7 ∧
eI mZ k1 1 n6 ∧
aa Tryz.prog 55 #[(iV n7), (iV 5)] mZ (fun C3 fL =>
aI (some C3) .i64 fun jH =>
eI fL k1 3 n8 ∧
eI fL k1 2 n7 ∧
eI fL k1 1 n6 ∧
aa Tryz.prog 55 #[(iV n8), (iV 12)] fL (fun C0 jq =>
aI (some C0) .i64 fun eR =>
eI jq k1 3 n8 ∧
eI jq k1 2 n7 ∧
eI jq k1 1 n6 ∧
kQ jq k3 (iV (IntKind.wrap .i64 (1 + ig))) (iV (IntKind.wrap .i64 (1 + nx))) (iV (IntKind.wrap .i64 (2 + jH))) (iV (IntKind.wrap .i64 (1 + eR))) fun kF =>
eI kF k1 3 n8 ∧
eI kF k1 2 n7 ∧
eI kF k1 1 n6 ∧
bN kF k3 0 fun lR oM wH xC =>
K (.agg #[(iV lR), (iV oM), (iV wH), (iV xC)]) kF) Kp) Kp) Kp) Kp) :
 aa Tryz.prog 14 #[.agg #[.int .i64 zq, .int .i64 zu, .int .i64 fD, .int .i64 YJ]] M K Kp := vw [(2, .bS [0, 0, 2, 7, 15, 0, 0, 64, 239, 495, 0, 0, 2048, 7663, 15855, 0, 0, 65536, 245231, 507375, 1048575, 2097151] (sy [0, 1, 5, 6, 10, 11, 15, 16, 2] (.dD 7 (.dD 12 (.dD 17 (sy [3, 4, 8, 9, 13, 14, 18, 19, 20, 21] .done))))))] Tryz.func14 h
theorem nY {x0 : Int} {x1 : Int} {M : Mem} {K : Value → Mem → Prop} {Kp : List PanicEntry → Mem → Prop} (h :
((x1 : Int) ≠ 0) ∧
K (iV (Int.tmod (IntKind.wrap .i64 (((Nat.bitwise and (BitVec.ofInt IntKind.i64.bits x0).toNat (BitVec.ofInt IntKind.i64.bits 255).toNat) : Nat) : Int)) x1)) M) :
 aa Tryz.prog 55 #[.int .i64 x0, .int .i64 x1] M K Kp := vw [] Tryz.func55 h
end Go.Proofs
