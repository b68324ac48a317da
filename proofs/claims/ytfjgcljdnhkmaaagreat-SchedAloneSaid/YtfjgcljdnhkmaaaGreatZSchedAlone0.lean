/- A part of proofs about one program. -/
import Derived.Test.YtfjgcljdnhkmaaaGreatProg
import Derived.Test.YtfjgcljdnhkmaaaGreatZSchedAloneStC
import Derived.Test.YtfjgcljdnhkmaaaGreatZSchedAloneMod
set_option linter.unusedVariables false
namespace Go.Proofs
open Go.AF
noncomputable def Cx : Ctx := ⟨Tryz.prog, 228⟩
theorem good : Cx.Good := by
 refine ⟨?_, by kernel_rfl⟩
 have h : (List.range 226).all (fun g => mT Tryz.prog (g + 2)) = true := by kernel_rfl
 intro g hg
 have h1 : g < 228 := hg.2
 have := List.all_eq_true.1 h (g - 2) (List.mem_range.2 (by omega))
 have e : g - 2 + 2 = g := by omega
 simp only [e] at this
 exact this
def sy : List Nat → Ex → Ex
 | [], e => e
 | i :: l, e => .step i (sy l e)
abbrev aA (t : Nat) (A : Option Addr) (n c : Nat) (B : Option Addr) (m d : Nat) (M : Mem) (K : Value → Mem → Prop) (Kp : List PanicEntry → Mem → Prop) : Prop := aZ Tryz.prog (Go.Builtin.append_ #[t, t] t #[.slice A n c, .slice B m d]) M K Kp
theorem vw {f : FuncId} {fn : Func} {args : List Value} {M : Mem} {K : Value → Mem → Prop} {Kp : List PanicEntry → Mem → Prop} (H : List (Nat × Hint)) (hf : Cx.P.funcs[f]? = some fn) {vc : Prop} (h : vc) (h1 : uN fn args.length = true := by kernel_rfl)
  (h2 : vc = cJ Cx H Kp (dM fn) 0 (Fm Cx.P fn K) (eO args) M := by kernel_rfl) : aa Cx.P f args.toArray M K Kp := bX (C := Cx) good H hf h1 h2 h
end Go.Proofs
namespace Go.Proofs
open Go.AF
set_option maxRecDepth 100000
variable {M : Mem} {K : Value → Mem → Prop} {Kp : List PanicEntry → Mem → Prop}
theorem zj {x0 : Int} (h :
bg M (cl [(iV (if (16 : Int) < (if (0 : Int) > x0 then 0 else x0) then 16 else (if (0 : Int) > x0 then 0 else x0))), (.slice none 0 0), (.slice none 0 0), (.slice none 0 0), (.bool false)] 236) fun k1 M2 =>
K (.pointer (some ⟨k1, 0, none⟩)) M2) :
 aa Tryz.prog 72 #[.int .i64 x0] M K Kp := vw [] Tryz.func72 h
theorem lD {b0 o0 : Nat} {cK : Int} {cL : Int} {cN : Int} (h :
bg M (cl [(iV cK), (iV cL), (iV cN)] 298) fun k1 M2 =>
rS M2 b0 (o0 + 3) fun A3 k4 k5 =>
m8 M2 k1 0 fun n6 n7 n8 =>
bg M2 (cl [(iV n6), (iV n7), (iV n8)] 298) fun k9 js =>
aA 199 A3 k4 k5 (some ⟨k9, 0, none⟩) 1 1 js (fun v11 sw =>
aC (some v11) fun Kj iB gn =>
sT sw b0 (o0 + 3) (.slice Kj iB gn) fun eF =>
K (.tuple #[]) eF) Kp) :
 aa Tryz.prog 205 #[.pointer (some ⟨b0, o0, none⟩), .agg #[.int .i64 cK, .int .i64 cL, .int .i64 cN]] M K Kp := vw [(1, .bL [0, 0, 2, 6, 14, 0, 32, 126, 255, 511, 1023] (sy [0, 1, 2, 3, 4, 5, 6, 7, 8, 9, 10] .done))] Tryz.func205 h
theorem lE {b0 o0 : Nat} {cK : Int} {cL : Int} {cN : Int} (h :
bg M (cl [(iV cK), (iV cL), (iV cN)] 298) fun k1 M2 =>
rS M2 b0 (o0 + 2) fun A3 k4 k5 =>
m8 M2 k1 0 fun n6 n7 n8 =>
bg M2 (cl [(iV n6), (iV n7), (iV n8)] 298) fun k9 js =>
aA 199 A3 k4 k5 (some ⟨k9, 0, none⟩) 1 1 js (fun v11 sw =>
aC (some v11) fun Kj iB gn =>
sT sw b0 (o0 + 2) (.slice Kj iB gn) fun eF =>
K (.tuple #[]) eF) Kp) :
 aa Tryz.prog 206 #[.pointer (some ⟨b0, o0, none⟩), .agg #[.int .i64 cK, .int .i64 cL, .int .i64 cN]] M K Kp := vw [(1, .bL [0, 0, 2, 6, 14, 0, 32, 126, 255, 511, 1023] (sy [0, 1, 2, 3, 4, 5, 6, 7, 8, 9, 10] .done))] Tryz.func206 h
theorem pV {b0 o0 : Nat} {x1 : Int} (h :
bg M iR fun k1 M2 =>
rB M2 b0 (o0 + 4) fun t3 =>
aQ t3
 (sT M2 k1 0 (iV 0) fun M4 =>
 sT M4 k1 1 (iV 0) fun M5 =>
 sT M5 k1 2 (iV 0) fun M6 =>
 m8 M6 k1 0 fun n7 n8 n9 =>
 K (.tuple #[(.agg #[(iV n7), (iV n8), (iV n9)]), (.bool false), (iV 10)]) M6)
 (rS M2 b0 (o0 + 3) fun Cc ei fO =>
 aQ (decide ((ei : Int) > 0))
 (bg M2 iR fun dx ox =>
 rS ox b0 (o0 + 3) fun uQ fU eG =>
 aa Tryz.prog 222 #[(.slice uQ fU eG)] ox (fun CN jV =>
 ∃ hG qI ux : Int, ∃ TG : Option Addr, ∃ sS uR : Nat, (CN = (.tuple #[(.agg #[(iV hG), (iV qI), (iV ux)]), (.slice TG sS uR)])) ∧
 HS jV dx (iV hG) (iV qI) (iV ux) fun zZ =>
 sT zZ b0 (o0 + 3) (.slice TG sS uR) fun mO =>
 sT mO dx 2 (iV x1) fun vA =>
 m8 vA dx 0 fun uS n32 Ee =>
 HS vA k1 (iV uS) (iV n32) (iV Ee) fun MQ =>
 m8 MQ k1 0 fun Of FC GM =>
 K (.tuple #[(.agg #[(iV Of), (iV FC), (iV GM)]), (.bool true), (iV 0)]) MQ) Kp)
 (rS M2 b0 (o0 + 1) fun Zd KT Og =>
 rI M2 b0 o0 fun GN =>
 aQ (decide ((KT : Int) < GN))
 (rS M2 b0 (o0 + 1) fun A44 KU KV =>
 bg M2 (cl [(iV x1)] 2) fun RH QB =>
 aA 59 A44 KU KV (some ⟨RH, 0, none⟩) 1 1 QB (fun H9 w5 =>
 aC (some H9) fun Oh sA rj =>
 sT w5 b0 (o0 + 1) (.slice Oh sA rj) fun GO =>
 HS GO k1 (iV 0) (iV 0) (iV 0) fun Ia =>
 m8 Ia k1 0 fun Ib FD KW =>
 K (.tuple #[(.agg #[(iV Ib), (iV FD), (iV KW)]), (.bool false), (iV 0)]) Ia) Kp)
 (sT M2 k1 0 (iV 0) fun CO =>
 sT CO k1 1 (iV 0) fun qJ =>
 sT qJ k1 2 (iV 0) fun zk =>
 m8 zk k1 0 fun n64 yo QC =>
 K (.tuple #[(.agg #[(iV n64), (iV yo), (iV QC)]), (.bool false), (iV 6)]) zk)))) :
 aa Tryz.prog 207 #[.pointer (some ⟨b0, o0, none⟩), .int .i64 x1] M K Kp := vw [(8, .bL [0, 1, 3, 7, 15, 0, 32, 96, 224, 511, 1023] (sy [0, 1, 2, 5, 6, 7, 3, 4, 8, 9, 10] .done))] Tryz.func207 h
theorem pW {b0 o0 : Nat} (h :
bg M lC fun k1 M2 =>
bg M2 lC fun k3 M4 =>
rS M4 b0 (o0 + 2) fun A5 k6 k7 =>
∃ J8 : List Value → Mem → Prop, (aQ (decide ((k6 : Int) > 0))
 (rS M4 b0 (o0 + 2) fun A9 eM ei =>
 aa Tryz.prog 222 #[(.slice A9 eM ei)] M4 (fun GK ku =>
 ∃ mj jt oy : Int, ∃ Kk : Option Addr, ∃ fV iw : Nat, (GK = (.tuple #[(.agg #[(iV mj), (iV jt), (iV oy)]), (.slice Kk fV iw)])) ∧
 sT ku k3 2 (iV mj) fun rm =>
 sT rm k3 (2 + 1) (iV jt) fun tS =>
 sT tS k3 (2 + 2) (iV oy) fun oL =>
 sT oL b0 (o0 + 2) (.slice Kk fV iw) fun l8 =>
 sT l8 k3 5 (.bool true) fun iS =>
 rS iS b0 (o0 + 1) fun KX rq zl =>
 rI iS k3 (2 + 2) fun tT =>
 bg iS (cl [(iV tT)] 2) fun tU vA =>
 aA 59 KX rq zl (some ⟨tU, 0, none⟩) 1 1 vA (fun Oi pK =>
 aC (some Oi) fun Ic yp w6 =>
 sT pK b0 (o0 + 1) (.slice Ic yp w6) fun MQ =>
 J8 [] MQ) Kp) Kp)
 (J8 [] M4)) ∧
∀ UZ : Nat → Value, ∀ kV : Mem, (J8 [] kV) → rS kV b0 (o0 + 1) fun TH Ef KT =>
aQ (decide ((Ef : Int) > 0))
 (rS kV b0 (o0 + 1) fun QD w7 Oj =>
 ((0 : Int) ≤ 0) ∧
 ((0 : Int) < w7) ∧
 aD QD fun KU KV =>
 rI kV KU (KV + 0) fun z0 =>
 UU kV k3 (iV z0) (.bool true) fun vB =>
 bg vB (cl [] 2) fun Kl Ze =>
 rS Ze b0 (o0 + 1) fun A52 rj MR =>
 ((0 : Int) ≤ MR) ∧
 ((MR : Int) ≤ MR) ∧
 ((0 : Int) ≤ rj) ∧
 ((rj : Int) ≤ MR) ∧
 ((0 : Int) ≤ 1) ∧
 ((1 : Int) ≤ rj) ∧
 aZ Tryz.prog (Go.Builtin.append_ #[59, 59] 59 #[(.slice (some ⟨Kl, 0, none⟩) 0 0), (.slice (kU A52 1 (Int.toNat (MR : Int)) 1) ((Int.toNat (rj : Int)) - 1) ((Int.toNat (MR : Int)) - 1))]) Ze (fun RI Ol =>
 aC (some RI) fun U0 FE U1 =>
 sT Ol b0 (o0 + 1) (.slice U0 FE U1) fun AV =>
 uO AV k3 0 fun Ie t62 GP n64 yo t66 =>
 TD AV k1 (iV Ie) (.bool t62) (iV GP) (iV n64) (iV yo) (.bool t66) fun z8 =>
 uO z8 k1 0 fun Om t74 KY KZ sU t78 =>
 K (.tuple #[(.agg #[(iV Om), (.bool t74), (iV KY), (iV KZ), (iV sU), (.bool t78)]), (iV 0)]) z8) Kp)
 (rB kV b0 (o0 + 4) fun t79 =>
 aQ t79
 (rI kV k3 0 fun CP =>
 rB kV k3 1 fun t81 =>
 rI kV k3 2 fun GQ =>
 rI kV k3 3 fun QE =>
 rI kV k3 4 fun MS =>
 rB kV k3 5 fun t85 =>
 TD kV k1 (iV CP) (.bool t81) (iV GQ) (iV QE) (iV MS) (.bool t85) fun pX =>
 uO pX k1 0 fun U2 t93 On K0 Oo t97 =>
 K (.tuple #[(.agg #[(iV U2), (.bool t93), (iV On), (iV K0), (iV Oo), (.bool t97)]), (iV 0)]) pX)
 (rI kV k3 0 fun TI =>
 rB kV k3 1 fun t99 =>
 rI kV k3 2 fun ru =>
 rI kV k3 3 fun Ig =>
 rI kV k3 4 fun U3 =>
 rB kV k3 5 fun t103 =>
 TD kV k1 (iV TI) (.bool t99) (iV ru) (iV Ig) (iV U3) (.bool t103) fun uy =>
 uO uy k1 0 fun Oq t111 CQ Ih Ii t115 =>
 K (.tuple #[(.agg #[(iV Oq), (.bool t111), (iV CQ), (iV Ih), (iV Ii), (.bool t115)]), (iV 5)]) uy))) :
 aa Tryz.prog 209 #[.pointer (some ⟨b0, o0, none⟩)] M K Kp := vw [(3000010, .cut []), (5, .bL [0, 0, 2, 6, 14, 0, 32, 96, 224, 510, 1023, 2047, 4095] (sy [0, 1, 2, 3, 5, 6, 4, 7, 8, 9, 10, 11, 12] .done))] Tryz.func209 h
theorem oM {b0 o0 : Nat} (h :
rB M b0 (o0 + 4) fun t1 =>
aQ t1
 (K (.tuple #[(.slice none 0 0), (.slice none 0 0), (iV 10)]) M)
 (rS M b0 (o0 + 3) fun A2 k3 k4 =>
 rS M b0 (o0 + 2) fun A5 k6 k7 =>
 sT M b0 (o0 + 4) (.bool true) fun M8 =>
 sT M8 b0 (o0 + 3) (.slice none 0 0) fun M9 =>
 sT M9 b0 (o0 + 2) (.slice none 0 0) fun js =>
 K (.tuple #[(.slice A2 k3 k4), (.slice A5 k6 k7), (iV 0)]) js)) :
 aa Tryz.prog 213 #[.pointer (some ⟨b0, o0, none⟩)] M K Kp := vw [(3, .bL [0, 1, 3, 7, 0, 16, 48, 112, 15, 511] (sy [0, 1, 2, 4, 5, 6, 3, 8, 7, 9] .done))] Tryz.func213 h
theorem mo {b0 o0 : Nat} (h :
rB M b0 (o0 + 4) fun t1 =>
aQ t1
 (K (.bool true) M)
 (rS M b0 (o0 + 2) fun A2 k3 k4 =>
 aQ (decide ((k3 : Int) > 0))
 (K (.bool true) M)
 (rS M b0 (o0 + 1) fun A5 k6 k7 =>
 K (.bool (decide ((k6 : Int) > 0))) M))) :
 aa Tryz.prog 220 #[.pointer (some ⟨b0, o0, none⟩)] M K Kp := vw [] Tryz.func220 h
theorem mq {b0 o0 : Nat} (h :
rB M b0 (o0 + 4) fun t1 =>
aQ t1
 (K (.bool true) M)
 (rS M b0 (o0 + 3) fun A2 k3 k4 =>
 aQ (decide ((k3 : Int) > 0))
 (K (.bool true) M)
 (rS M b0 (o0 + 1) fun A5 k6 k7 =>
 rI M b0 o0 fun n8 =>
 K (.bool (decide ((k6 : Int) < n8))) M))) :
 aa Tryz.prog 221 #[.pointer (some ⟨b0, o0, none⟩)] M K Kp := vw [(1, .bL [0, 1, 3, 7, 15, 31, 63, 127, 255, 511, 1023, 2047, 4095, 8191, 16383, 32767, 65535, 131071, 8191, 270335, 794623, 1843199, 4194303, 8388607, 16777215] (sy [0, 1, 2, 3, 4, 5, 6, 7, 8, 9, 10, 11, 12, 13, 14, 15, 18, 19, 20, 16, 17, 21, 22, 23, 24] .done))] Tryz.func221 h
theorem vC {B0 : Option Addr} {m0 c0 : Nat} (h :
bg M iR fun k1 M2 =>
((0 : Int) ≤ 0) ∧
((0 : Int) < m0) ∧
aD B0 fun k3 k4 =>
((0 : Int) ≤ c0) ∧
((c0 : Int) ≤ c0) ∧
((0 : Int) ≤ m0) ∧
((m0 : Int) ≤ c0) ∧
((0 : Int) ≤ 1) ∧
((1 : Int) ≤ m0) ∧
m8 M2 k3 (k4 + 0) fun n5 n6 n7 =>
bg M2 (cl [] 298) fun k8 M9 =>
aZ Tryz.prog (Go.Builtin.append_ #[199, 199] 199 #[(.slice (some ⟨k8, 0, none⟩) 0 0), (.slice (kU B0 1 (Int.toNat (c0 : Int)) 3) ((Int.toNat (m0 : Int)) - 1) ((Int.toNat (c0 : Int)) - 1))]) M9 (fun v10 jG =>
aC (some v10) fun w8 dx iB =>
((Mem.gh jG ⟨k3, (k4 + 0), none⟩ 0 3) = some [(iV n5), (iV n6), (iV n7)]) ∧
HS jG k1 (iV n5) (iV n6) (iV n7) fun oN =>
((Mem.gh oN ⟨k3, (k4 + 0), none⟩ 0 3) = some [(iV n5), (iV n6), (iV n7)]) ∧
m8 oN k1 0 fun mu zm hG =>
K (.tuple #[(.agg #[(iV mu), (iV zm), (iV hG)]), (.slice w8 dx iB)]) oN) Kp) :
 aa Tryz.prog 222 #[.slice B0 m0 c0] M K Kp := vw [(1, .bL [0, 1, 3, 0, 0, 16, 56, 127, 255] (sy [0, 1, 4, 5] (.fK 2 (sy [3, 6, 7, 8] .done))))] Tryz.func222 h
theorem pY {b0 o0 : Nat} {x1 : Int} (h :
rS M b0 (o0 + 2) fun A1 k2 k3 =>
(aa Tryz.prog 227 #[(.slice A1 k2 k3), (iV x1)] M (fun v4 M5 =>
 aC (some v4) fun A6 k7 k8 =>
 rS M5 b0 (o0 + 3) fun A9 eM ei =>
 aa Tryz.prog 227 #[(.slice A9 eM ei), (iV x1)] M5 (fun GK ku =>
 aC (some GK) fun mP gn fU =>
 sT ku b0 (o0 + 2) (.slice A6 k7 k8) fun oN =>
 sT oN b0 (o0 + 3) (.slice mP gn fU) fun pZ =>
 K (.tuple #[]) pZ) Kp) Kp) ∧
(rS M b0 (o0 + 3) fun Eg jy eY =>
 aa Tryz.prog 227 #[(.slice A1 k2 k3), (iV x1)] M (fun FF l8 =>
 aC (some FF) fun K2 uR rq =>
 aa Tryz.prog 227 #[(.slice Eg jy eY), (iV x1)] l8 (fun Ij zZ =>
 aC (some Ij) fun GR lF pL =>
 sT zZ b0 (o0 + 2) (.slice K2 uR rq) fun pK =>
 sT pK b0 (o0 + 3) (.slice GR lF pL) fun Cd =>
 K (.tuple #[]) Cd) Kp) Kp) ∧
True) :
 aa Tryz.prog 226 #[.pointer (some ⟨b0, o0, none⟩), .int .i64 x1] M K Kp := vw [(0, .bL [0, 0, 0, 4, 12, 28, 0, 124, 0, 256, 768, 1792, 0, 8188, 16381, 32765, 65533, 131071, 262143, 524287] (sy [0, 1, 2, 3, 4, 6, 8, 9, 10, 12, 5] (.fork 7 (sy [11, 13, 14, 15, 16, 17, 18, 19] .done) (.fork 11 (sy [7, 13, 14, 15, 16, 17, 18, 19] .done) .dead))))] Tryz.func226 h
theorem sV {B0 : Option Addr} {m0 c0 : Nat} {x1 : Int} (h :
∃ I1 : IT, (∃ k2, I1 k2 [(.slice none 0 0), (iV 0)] M) ∧
∀ (k3 : Nat) (_ : Nat → Value) (A5 : Option Addr) (k6 : Nat) (k7 : Nat) (n8 : Int) (M9 : Mem), (I1 k3 [(.slice A5 k6 k7), (iV n8)] M9) → aQ (decide (n8 < m0))
 ((0 ≤ n8) ∧
 (n8 < m0) ∧
 aD B0 fun eM ei =>
 m8 M9 eM (ei + ((Int.toNat n8) * 3)) fun iy ju mj =>
 bg M9 iR fun gn eF =>
 HS eF gn (iV iy) (iV ju) (iV mj) fun jV =>
 rI jV gn 0 fun hG =>
 aQ (hG != x1)
 (rI jV gn 0 fun qI =>
 rI jV gn 1 fun ux =>
 rI jV gn 2 fun zn =>
 bg jV (cl [(iV qI), (iV ux), (iV zn)] 298) fun sS Eh =>
 aA 199 A5 k6 k7 (some ⟨sS, 0, none⟩) 1 1 Eh (fun RJ tV =>
 aC (some RJ) fun FG tU lF =>
 ∃ pL : Nat, (pL < k3) ∧
 I1 pL [(.slice FG tU lF), (iV (IntKind.wrap .i64 (n8 + 1)))] tV) Kp)
 (∃ w9 : Nat, (w9 < k3) ∧
 I1 w9 [(.slice A5 k6 k7), (iV (IntKind.wrap .i64 (n8 + 1)))] jV))
 (K (.slice A5 k6 k7) M9)) :
 aa Tryz.prog 227 #[.slice B0 m0 c0, .int .i64 x1] M K Kp := vw [(2000000, .loop [(5, .c .sl), (10, .c (.int .i64))])] Tryz.func227 h
end Go.Proofs
namespace Go.Proofs
open Go.AF
set_option maxRecDepth 100000
set_option maxHeartbeats 1000000
attribute [local irreducible] aG c6 fD cj aC eU aD aF bg aZ bD aQ
theorem vD : bu Tryz.prog 59 2 1 8 [.int .i64 0] := bu.mk' (zv := .int .i64 0) (by kernel_rfl) (by kernel_rfl) rfl (by omega)
theorem uT : bu Tryz.prog 199 298 3 24 [.int .i64 0, .int .i64 0, .int .i64 0] := bu.mk' (zv := .agg #[.int .i64 0, .int .i64 0, .int .i64 0]) (by kernel_rfl) (by kernel_rfl) rfl (by omega)
abbrev ry (A : Option Addr) (c : Nat) (l : List Int) : HP := ct bN 2 A c l
abbrev rz (A : Option Addr) (c : Nat) (l : List Wt) : HP := ct gT 298 A c l
abbrev gp (c : aK) (Ab : Option Addr) (cb : Nat) (As : Option Addr) (cs : Nat) (Ar : Option Addr) (cr : Nat) : List Value :=
 [.int .i64 (c.room : Int), .slice Ab c.buf.length cb, .slice As c.snd.length cs, .slice Ar c.dI.length cr, .bool c.closed]
def bq : qH aK := ⟨fun b c => exs fun Ab : Option Addr => exs fun cb : Nat => exs fun As : Option Addr => exs fun cs : Nat => exs fun Ar : Option Addr => exs fun cr : Nat =>
 sep [pt b (gp c Ab cb As cs Ar cr) 236, ry Ab cb c.buf, rz As cs c.snd, rz Ar cr c.dI]⟩
section
variable {R : Mem} {L L' : List HP} {M : Mem} {K : Value → Mem → Prop} {Kp : List PanicEntry → Mem → Prop} {b : Nat} {c : aK}
theorem gq (h : Hp R L M) [o : bW bq b L c L'] : ∃ Ab cb As cs Ar cr, Hp R (pt b (gp c Ab cb As cs Ar cr) 236 :: ry Ab cb c.buf :: rz As cs c.snd :: rz Ar cr c.dI :: L') M := by
 have := h.obj bq b
 simpa only [bq, Hp.cX, Hp.aO, List.cons_append, List.nil_append] using this
theorem Ei {Ab As Ar : Option Addr} {cb cs cr : Nat} (h : Hp R (pt b (gp c Ab cb As cs Ar cr) 236 :: ry Ab cb c.buf :: rz As cs c.snd :: rz Ar cr c.dI :: L) M) : Hp R (ax bq b c :: L) M := by
 refine Hp.uu ?_
 simp only [bq, Hp.cX, Hp.aO, List.cons_append, List.nil_append]
 exact ⟨_, _, _, _, _, _, h⟩
theorem cB {Ab As Ar : Option Addr} {nb cb ns cs nr cr room : Nat} {closed : Bool} {buf : List Int} {snd dI : List Wt} {L1 L2 L3 L4 : List HP} (h : Hp R L M) (b : Nat)
  [p : jx b L [.int .i64 (room : Int), .slice Ab nb cb, .slice As ns cs, .slice Ar nr cr, .bool closed] 236 L1] [p1 : b9 Ab L1 Int bN 2 cb buf L2] [p2 : b9 As L2 Wt gT 298 cs snd L3] [p3 : b9 Ar L3 Wt gT 298 cr dI L4]
  (e1 : nb = buf.length := by first | rfl | simp) (e2 : ns = snd.length := by first | rfl | simp) (e3 : nr = dI.length := by first | rfl | simp) : Hp R (ax bq b ⟨room, buf, snd, dI, closed⟩ :: L4) M := by
 subst e1; subst e2; subst e3
 exact Ei (h.sub (.cons p.pick (.cons p1.pick (.cons p2.pick (.cons p3.pick .refl)))))
theorem yq {room : Int} (h : Hp R L M) (k : ∀ b M', Hp R (ax bq b (.new room) :: L) M' → K (.pointer (some ⟨b, 0, none⟩)) M') :
  aa Tryz.prog 72 #[.int .i64 room] M K Kp := by
 refine zj ?_
 rw [HW]
 refine aj h fun b M' h => k b M' (Ei ((((h.cw gT _).cw gT _).cw bN _).sub bQ))
theorem tW {B : Option Addr} {m c : Nat} {w : Wt} {r : List Wt} (h : Hp R L M) (hB : Src R L B (gT.cells (w :: r))) (hm : m = r.length + 1) (hc : m ≤ c) (hn : m ≤ 1000000000)
  (k : ∀ A' c' M', Hp R (rz A' c' r :: L) M' → K (.tuple #[.agg #[.int .i64 w.g, .int .i64 w.cs, .int .i64 w.v], .slice A' r.length c']) M') :
  aa Tryz.prog 222 #[.slice B m c] M K Kp := by
 refine vC ?_
 obtain ⟨b, o, rfl⟩ := hB.lZ h (by simp) (by decide)
 repeat (first|(refine aj h ?_;clear h;intro kb M h)|(refine aq h ?_;clear h;intro M h)|refine St.to h ?_|(apply Exists.intro;(repeat apply Exists.intro);refine And.intro rfl ?_)|refine au ?_|refine af ?_|refine ai ?_)
 refine br (hB.cons.at h (i := 0) (j := 0) rfl rfl (by omega)) ?_
 refine br (hB.cons.at h (i := 0) (j := 1) rfl rfl (by omega)) ?_
 refine br (hB.cons.at h (i := 0) (j := 2) rfl rfl (by omega)) ?_
 repeat (first|(refine aj h ?_;clear h;intro kb M h)|(refine aq h ?_;clear h;intro M h)|refine St.to h ?_|(apply Exists.intro;(repeat apply Exists.intro);refine And.intro rfl ?_)|refine au ?_|refine af ?_|refine ai ?_)
 have s2 := hB.drop (m := 1) (c := c) (by simp; omega)
 simp only [Int.toNat_natCast]
 refine h.lB gT uT r s2.cons.cons (by omega) (by omega) ?_
 clear h
 intro A' c' M h
 repeat (first|(refine aj h ?_;clear h;intro kb M h)|(refine aq h ?_;clear h;intro M h)|refine St.to h ?_|(apply Exists.intro;(repeat apply Exists.intro);refine And.intro rfl ?_)|refine au ?_|refine af ?_|refine ai ?_)
 refine ⟨hB.cons.cons.gh h (i := 0) rfl (by omega), ?_⟩
 repeat (first|(refine aj h ?_;clear h;intro kb M h)|(refine aq h ?_;clear h;intro M h)|refine St.to h ?_|(apply Exists.intro;(repeat apply Exists.intro);refine And.intro rfl ?_)|refine au ?_|refine af ?_|refine ai ?_)
 refine ⟨hB.cons.cons.gh h (i := 0) rfl (by omega), ?_⟩
 repeat (first|(refine aj h ?_;clear h;intro kb M h)|(refine aq h ?_;clear h;intro M h)|refine St.to h ?_|(apply Exists.intro;(repeat apply Exists.intro);refine And.intro rfl ?_)|refine au ?_|refine af ?_|refine ai ?_)
 exact k _ _ _ h.vz
theorem xu (h : Hp R L M) [o : bW bq b L c L'] (k : K (.bool c.qX) M) : aa Tryz.prog 221 #[.pointer (some ⟨b, 0, none⟩)] M K Kp := by
 refine mq ?_
 have h' := gq h (b := b)
 clear h
 obtain ⟨Ab, cb, As, cs, Ar, cr, h⟩ := h'
 repeat (first|(refine aj h ?_;clear h;intro kb M h)|(refine aq h ?_;clear h;intro M h)|refine St.to h ?_|(apply Exists.intro;(repeat apply Exists.intro);refine And.intro rfl ?_)|refine au ?_|refine af ?_|refine ai ?_)
 refine fF.2 ⟨fun hc => ?_, fun hc => ?_⟩
 ·rwa [aK.qX, hc] at k
 ·repeat (first|(refine aj h ?_;clear h;intro kb M h)|(refine aq h ?_;clear h;intro M h)|refine St.to h ?_|(apply Exists.intro;(repeat apply Exists.intro);refine And.intro rfl ?_)|refine au ?_|refine af ?_|refine ai ?_)
  refine aL.2 ⟨fun hr => ?_, fun hr => ?_⟩
  ·have : c.dI.isEmpty = false := by cases hc : c.dI <;> simp_all
   rwa [aK.qX, hc, this] at k
  ·repeat (first|(refine aj h ?_;clear h;intro kb M h)|(refine aq h ?_;clear h;intro M h)|refine St.to h ?_|(apply Exists.intro;(repeat apply Exists.intro);refine And.intro rfl ?_)|refine au ?_|refine af ?_|refine ai ?_)
   have : c.dI.isEmpty = true := by cases hc : c.dI <;> simp_all
   rw [aK.qX, hc, this] at k
   simpa using k
theorem xw (h : Hp R L M) [o : bW bq b L c L'] (k : K (.bool c.qY) M) : aa Tryz.prog 220 #[.pointer (some ⟨b, 0, none⟩)] M K Kp := by
 refine mo ?_
 have h' := gq h (b := b)
 clear h
 obtain ⟨Ab, cb, As, cs, Ar, cr, h⟩ := h'
 repeat (first|(refine aj h ?_;clear h;intro kb M h)|(refine aq h ?_;clear h;intro M h)|refine St.to h ?_|(apply Exists.intro;(repeat apply Exists.intro);refine And.intro rfl ?_)|refine au ?_|refine af ?_|refine ai ?_)
 refine fF.2 ⟨fun hc => ?_, fun hc => ?_⟩
 ·rwa [aK.qY, hc] at k
 ·repeat (first|(refine aj h ?_;clear h;intro kb M h)|(refine aq h ?_;clear h;intro M h)|refine St.to h ?_|(apply Exists.intro;(repeat apply Exists.intro);refine And.intro rfl ?_)|refine au ?_|refine af ?_|refine ai ?_)
  refine aL.2 ⟨fun hr => ?_, fun hr => ?_⟩
  ·have : c.snd.isEmpty = false := by cases hc : c.snd <;> simp_all
   rwa [aK.qY, hc, this] at k
  ·repeat (first|(refine aj h ?_;clear h;intro kb M h)|(refine aq h ?_;clear h;intro M h)|refine St.to h ?_|(apply Exists.intro;(repeat apply Exists.intro);refine And.intro rfl ?_)|refine au ?_|refine af ?_|refine ai ?_)
   have : c.snd.isEmpty = true := by cases hc : c.snd <;> simp_all
   rw [aK.qY, hc, this] at k
   have e : (!c.buf.isEmpty) = decide ((c.buf.length : Int) > 0) := by cases c.buf <;> simp
   rw [← e]; simpa using k
theorem ng {w : Wt} (h : Hp R L M) [o : bW bq b L c L'] (hs : c.Small 1000000000) (k : ∀ M', Hp R (ax bq b { c with snd := c.snd ++ [w] } :: L') M' → K (.tuple #[]) M') :
  aa Tryz.prog 206 #[.pointer (some ⟨b, 0, none⟩), .agg #[.int .i64 w.g, .int .i64 w.cs, .int .i64 w.v]] M K Kp := by
 refine lE ?_
 have h' := gq h (b := b)
 clear h
 obtain ⟨Ab, cb, As, cs, Ar, cr, h⟩ := h'
 obtain ⟨h1, h2, h3⟩ := hs
 repeat (first|(refine aj h ?_;clear h;intro kb M h)|(refine aq h ?_;clear h;intro M h)|refine St.to h ?_|(apply Exists.intro;(repeat apply Exists.intro);refine And.intro rfl ?_)|refine au ?_|refine af ?_|refine ai ?_)
 refine h.bE uT [w] rfl rfl (by simp; omega) ?_
 clear h
 intro A' c' M h
 repeat (first|(refine aj h ?_;clear h;intro kb M h)|(refine aq h ?_;clear h;intro M h)|refine St.to h ?_|(apply Exists.intro;(repeat apply Exists.intro);refine And.intro rfl ?_)|refine au ?_|refine af ?_|refine ai ?_)
 exact k _ (cB h b).bM
theorem nh {w : Wt} (h : Hp R L M) [o : bW bq b L c L'] (hs : c.Small 1000000000) (k : ∀ M', Hp R (ax bq b { c with dI := c.dI ++ [w] } :: L') M' → K (.tuple #[]) M') :
  aa Tryz.prog 205 #[.pointer (some ⟨b, 0, none⟩), .agg #[.int .i64 w.g, .int .i64 w.cs, .int .i64 w.v]] M K Kp := by
 refine lD ?_
 have h' := gq h (b := b)
 clear h
 obtain ⟨Ab, cb, As, cs, Ar, cr, h⟩ := h'
 obtain ⟨h1, h2, h3⟩ := hs
 repeat (first|(refine aj h ?_;clear h;intro kb M h)|(refine aq h ?_;clear h;intro M h)|refine St.to h ?_|(apply Exists.intro;(repeat apply Exists.intro);refine And.intro rfl ?_)|refine au ?_|refine af ?_|refine ai ?_)
 refine h.bE uT [w] rfl rfl (by simp; omega) ?_
 clear h
 intro A' c' M h
 repeat (first|(refine aj h ?_;clear h;intro kb M h)|(refine aq h ?_;clear h;intro M h)|refine St.to h ?_|(apply Exists.intro;(repeat apply Exists.intro);refine And.intro rfl ?_)|refine au ?_|refine af ?_|refine ai ?_)
 exact k _ (cB h b).bM
def MT (x : Wt × Bool × Int) : Value := .tuple #[.agg #[.int .i64 x.1.g, .int .i64 x.1.cs, .int .i64 x.1.v], .bool x.2.1, .int .i64 x.2.2]
theorem CR {v : Int} (h : Hp R L M) [o : bW bq b L c L'] (hs : c.Small 1000000000) (k : ∀ M', Hp R (ax bq b (c.send v).1 :: L') M' → K (MT (c.send v).2) M') :
  aa Tryz.prog 207 #[.pointer (some ⟨b, 0, none⟩), .int .i64 v] M K Kp := by
 refine pV ?_
 obtain ⟨room, buf, snd, dI, closed⟩ := c
 obtain ⟨h1, h2, h3⟩ := hs
 have h' := gq h (b := b)
 clear h
 obtain ⟨Ab, cb, As, cs, Ar, cr, h⟩ := h'
 dsimp only [gp] at h1 h2 h3 h
 repeat (first|(refine aj h ?_;clear h;intro kb M h)|(refine aq h ?_;clear h;intro M h)|refine St.to h ?_|(apply Exists.intro;(repeat apply Exists.intro);refine And.intro rfl ?_)|refine au ?_|refine af ?_|refine ai ?_)
 refine fF.2 ⟨fun hc => ?_, fun hc => ?_⟩
 ·subst hc
  repeat (first|(refine aj h ?_;clear h;intro kb M h)|(refine aq h ?_;clear h;intro M h)|refine St.to h ?_|(apply Exists.intro;(repeat apply Exists.intro);refine And.intro rfl ?_)|refine au ?_|refine af ?_|refine ai ?_)
  exact k _ (cB h b).bM
 subst hc
 repeat (first|(refine aj h ?_;clear h;intro kb M h)|(refine aq h ?_;clear h;intro M h)|refine St.to h ?_|(apply Exists.intro;(repeat apply Exists.intro);refine And.intro rfl ?_)|refine au ?_|refine af ?_|refine ai ?_)
 refine aL.2 ⟨fun hr => ?_, fun hr => ?_⟩
 ·cases dI with
  | nil => simp at hr
  | cons w r =>
   repeat (first|(refine aj h ?_;clear h;intro kb M h)|(refine aq h ?_;clear h;intro M h)|refine St.to h ?_|(apply Exists.intro;(repeat apply Exists.intro);refine And.intro rfl ?_)|refine au ?_|refine af ?_|refine ai ?_)
   refine tW h (h.src (A := Ar)) rfl (h.iz Ar) (by simpa using h3) ?_
   clear h
   intro A' c' M h
   repeat (first|(refine aj h ?_;clear h;intro kb M h)|(refine aq h ?_;clear h;intro M h)|refine St.to h ?_|(apply Exists.intro;(repeat apply Exists.intro);refine And.intro rfl ?_)|refine au ?_|refine af ?_|refine ai ?_)
   exact k _ (cB h b).bM
 cases dI with
 | cons w r => simp at hr
 | nil =>
 simp only [aK.send, Bool.false_eq_true, if_false] at k
 repeat (first|(refine aj h ?_;clear h;intro kb M h)|(refine aq h ?_;clear h;intro M h)|refine St.to h ?_|(apply Exists.intro;(repeat apply Exists.intro);refine And.intro rfl ?_)|refine au ?_|refine af ?_|refine ai ?_)
 refine aL.2 ⟨fun hl => ?_, fun hl => ?_⟩
 ·rw [if_pos (by omega)] at k
  repeat (first|(refine aj h ?_;clear h;intro kb M h)|(refine aq h ?_;clear h;intro M h)|refine St.to h ?_|(apply Exists.intro;(repeat apply Exists.intro);refine And.intro rfl ?_)|refine au ?_|refine af ?_|refine ai ?_)
  refine h.bE vD [v] rfl rfl (by simp; omega) ?_
  clear h
  intro A' c' M h
  repeat (first|(refine aj h ?_;clear h;intro kb M h)|(refine aq h ?_;clear h;intro M h)|refine St.to h ?_|(apply Exists.intro;(repeat apply Exists.intro);refine And.intro rfl ?_)|refine au ?_|refine af ?_|refine ai ?_)
  exact k _ (cB h b).bM
 ·rw [if_neg (by omega)] at k
  repeat (first|(refine aj h ?_;clear h;intro kb M h)|(refine aq h ?_;clear h;intro M h)|refine St.to h ?_|(apply Exists.intro;(repeat apply Exists.intro);refine And.intro rfl ?_)|refine au ?_|refine af ?_|refine ai ?_)
  exact k _ (cB h b).bM
def MU (x : Int × Bool × Wt × Bool × Int) : Value := .tuple #[.agg #[.int .i64 x.1, .bool x.2.1, .int .i64 x.2.2.1.g, .int .i64 x.2.2.1.cs, .int .i64 x.2.2.1.v, .bool x.2.2.2.1], .int .i64 x.2.2.2.2]
theorem CS (h : Hp R L M) [o : bW bq b L c L'] (hs : c.Small 1000000000) (k : ∀ M', Hp R (ax bq b c.recv.1 :: L') M' → K (MU c.recv.2) M') :
  aa Tryz.prog 209 #[.pointer (some ⟨b, 0, none⟩)] M K Kp := by
 refine pW ?_
 obtain ⟨room, buf, snd, dI, closed⟩ := c
 obtain ⟨h1, h2, h3⟩ := hs
 have h' := gq h (b := b)
 clear h
 obtain ⟨Ab, cb, As, cs, Ar, cr, h⟩ := h'
 dsimp only [gp] at h1 h2 h3 h
 refine aj h ?_
 clear h
 intro kr M h
 refine aj h ?_
 clear h
 intro kg M h
 repeat (first|(refine aj h ?_;clear h;intro kb M h)|(refine aq h ?_;clear h;intro M h)|refine St.to h ?_|(apply Exists.intro;(repeat apply Exists.intro);refine And.intro rfl ?_)|refine au ?_|refine af ?_|refine ai ?_)
 refine ⟨fun vs M => vs = [] ∧ ∃ Ab cb As cs, Hp R (pt kr [.int .i64 0, .bool false, .int .i64 0, .int .i64 0, .int .i64 0, .bool false] 335 ::
  pt kg [.int .i64 0, .bool false, .int .i64 (snd.headD .zero).g, .int .i64 (snd.headD .zero).cs, .int .i64 (snd.headD .zero).v, .bool (!snd.isEmpty)] 335 ::
  pt b (gp ⟨room, aK.all ⟨room, buf, snd, dI, closed⟩, snd.tail, dI, closed⟩ Ab cb As cs Ar cr) 236 :: ry Ab cb (aK.all ⟨room, buf, snd, dI, closed⟩) :: rz As cs snd.tail :: rz Ar cr dI :: L') M, ?_, ?_⟩
 ·refine aL.2 ⟨fun hr => ?_, fun hr => ?_⟩
  ·cases snd with
   | nil => simp at hr
   | cons w r =>
    repeat (first|(refine aj h ?_;clear h;intro kb M h)|(refine aq h ?_;clear h;intro M h)|refine St.to h ?_|(apply Exists.intro;(repeat apply Exists.intro);refine And.intro rfl ?_)|refine au ?_|refine af ?_|refine ai ?_)
    refine tW h (h.src (A := As)) rfl (h.iz As) (by simpa using h2) ?_
    clear h
    intro A' c' M h
    repeat (first|(refine aj h ?_;clear h;intro kb M h)|(refine aq h ?_;clear h;intro M h)|refine St.to h ?_|(apply Exists.intro;(repeat apply Exists.intro);refine And.intro rfl ?_)|refine au ?_|refine af ?_|refine ai ?_)
    refine h.bE vD [w.v] rfl rfl (by simp; omega) ?_
    clear h
    intro A2 c2 M h
    repeat (first|(refine aj h ?_;clear h;intro kb M h)|(refine aq h ?_;clear h;intro M h)|refine St.to h ?_|(apply Exists.intro;(repeat apply Exists.intro);refine And.intro rfl ?_)|refine au ?_|refine af ?_|refine ai ?_)
    exact ⟨A2, c2, A', c', h.sub bQ⟩
  ·cases snd with
   | cons w r => simp at hr
   | nil => exact ⟨rfl, Ab, cb, As, cs, h.sub bQ⟩
 clear h
 rintro _ M ⟨_, Ab, cb, As, cs, h⟩
 unfold aK.recv at k
 dsimp only at k
 have gu : (aK.all ⟨room, buf, snd, dI, closed⟩).length ≤ 1000000001 := by unfold aK.all; split <;> simp <;> omega
 have KH : aK.all ⟨room, buf, snd, dI, closed⟩ = [] → snd = [] ∧ buf = [] := by unfold aK.all; dsimp only; cases snd <;> simp
 generalize aK.all ⟨room, buf, snd, dI, closed⟩ = all at h k gu KH
 dsimp only [gp] at h
 repeat (first|(refine aj h ?_;clear h;intro kb M h)|(refine aq h ?_;clear h;intro M h)|refine St.to h ?_|(apply Exists.intro;(repeat apply Exists.intro);refine And.intro rfl ?_)|refine au ?_|refine af ?_|refine ai ?_)
 refine aL.2 ⟨fun hr => ?_, fun hr => ?_⟩
 ·cases all with
  | nil => simp at hr
  | cons v l =>
   dsimp only at k
   repeat (first|(refine aj h ?_;clear h;intro kb M h)|(refine aq h ?_;clear h;intro M h)|refine St.to h ?_|(apply Exists.intro;(repeat apply Exists.intro);refine And.intro rfl ?_)|refine au ?_|refine af ?_|refine ai ?_)
   obtain ⟨x, rfl⟩ := h.bt (A := Ab) (by simp) (by decide)
   repeat (first|(refine aj h ?_;clear h;intro kb M h)|(refine aq h ?_;clear h;intro M h)|refine St.to h ?_|(apply Exists.intro;(repeat apply Exists.intro);refine And.intro rfl ?_)|refine au ?_|refine af ?_|refine ai ?_)
   refine br ((h.src (A := some ⟨x, 0, none⟩)).at h (i := 0) (j := 0) rfl rfl (by omega)) ?_
   have hcap := h.iz (some ⟨x, 0, none⟩)
   have hlen : l.length + 1 ≤ 1000000001 := by simpa using gu
   repeat (first|(refine aj h ?_;clear h;intro kb M h)|(refine aq h ?_;clear h;intro M h)|refine St.to h ?_|(apply Exists.intro;(repeat apply Exists.intro);refine And.intro rfl ?_)|refine au ?_|refine af ?_|refine ai ?_)
   simp only [Int.toNat_natCast]
   refine h.lB bN vD l ((h.src (A := some ⟨x, 0, none⟩)).drop (m := 1) hcap) (by simp) (by omega) ?_
   clear h
   intro A' c' M h
   repeat (first|(refine aj h ?_;clear h;intro kb M h)|(refine aq h ?_;clear h;intro M h)|refine St.to h ?_|(apply Exists.intro;(repeat apply Exists.intro);refine And.intro rfl ?_)|refine au ?_|refine af ?_|refine ai ?_)
   exact k _ (cB h b).bM
 ·cases all with
  | cons v l => simp at hr
  | nil =>
  obtain ⟨rfl, rfl⟩ := KH rfl
  repeat (first|(refine aj h ?_;clear h;intro kb M h)|(refine aq h ?_;clear h;intro M h)|refine St.to h ?_|(apply Exists.intro;(repeat apply Exists.intro);refine And.intro rfl ?_)|refine au ?_|refine af ?_|refine ai ?_)
  refine fF.2 ⟨fun hc => ?_, fun hc => ?_⟩
  ·subst hc
   repeat (first|(refine aj h ?_;clear h;intro kb M h)|(refine aq h ?_;clear h;intro M h)|refine St.to h ?_|(apply Exists.intro;(repeat apply Exists.intro);refine And.intro rfl ?_)|refine au ?_|refine af ?_|refine ai ?_)
   exact k _ (cB h b).bM
  ·subst hc
   repeat (first|(refine aj h ?_;clear h;intro kb M h)|(refine aq h ?_;clear h;intro M h)|refine St.to h ?_|(apply Exists.intro;(repeat apply Exists.intro);refine And.intro rfl ?_)|refine au ?_|refine af ?_|refine ai ?_)
   exact k _ (cB h b).bM
theorem AX (h : Hp R L M) [o : bW bq b L c L']
  (k : ∀ A ca B cb M', Hp R (ax bq b c.close.1 :: rz B cb c.close.2.2.1 :: rz A ca c.close.2.1 :: L') M' → K (.tuple #[.slice A c.close.2.1.length ca, .slice B c.close.2.2.1.length cb, .int .i64 c.close.2.2.2]) M') :
  aa Tryz.prog 213 #[.pointer (some ⟨b, 0, none⟩)] M K Kp := by
 refine oM ?_
 obtain ⟨room, buf, snd, dI, closed⟩ := c
 have h' := gq h (b := b)
 clear h
 obtain ⟨Ab, cb, As, cs, Ar, cr, h⟩ := h'
 dsimp only [gp] at h
 repeat (first|(refine aj h ?_;clear h;intro kb M h)|(refine aq h ?_;clear h;intro M h)|refine St.to h ?_|(apply Exists.intro;(repeat apply Exists.intro);refine And.intro rfl ?_)|refine au ?_|refine af ?_|refine ai ?_)
 refine fF.2 ⟨fun hc => ?_, fun hc => ?_⟩
 ·subst hc
  have h := cB ((h.cw gT 298).cw gT 298) b
  exact k none 0 none 0 _ h
 ·subst hc
  repeat (first|(refine aj h ?_;clear h;intro kb M h)|(refine aq h ?_;clear h;intro M h)|refine St.to h ?_|(apply Exists.intro;(repeat apply Exists.intro);refine And.intro rfl ?_)|refine au ?_|refine af ?_|refine ai ?_)
  have h := (h.cw gT 298).cw gT 298
  exact k _ _ _ _ _ ((cB h b).sub bQ)
theorem hH {B : Option Addr} {n cc : Nat} {g : Int} {l : List Wt} (h : Hp R L M) (hB : Src R L B (gT.cells l)) (hn : n = l.length) (hs : l.length ≤ 1000000000)
  (k : ∀ A' c' M', Hp R (rz A' c' (wo g l) :: L) M' → K (.slice A' (wo g l).length c') M') :
  aa Tryz.prog 227 #[.slice B n cc, .int .i64 g] M K Kp := by
 subst hn
 refine sV ⟨fun d vs M => ∃ i A c, vs = [.slice A (wo g (l.take i)).length c, .int .i64 (i : Int)] ∧ d = l.length - i ∧ i ≤ l.length ∧ Hp R (rz A c (wo g (l.take i)) :: L) M,
  ⟨_, 0, none, 0, rfl, rfl, by omega, h.cw _ _⟩, ?_⟩
 clear h
 rintro d _ A n c' ii M ⟨i, _, _, he, hd, hi, h⟩
 simp only [List.cons.injEq, Value.slice.injEq, Value.int.injEq, and_true, true_and] at he
 obtain ⟨⟨rfl, rfl, rfl⟩, rfl⟩ := he
 refine aL.2 ⟨fun hlt => ?_, fun hge => ?_⟩
 ·obtain ⟨w, hw⟩ := aN (l := l) (i := i) (by omega)
  obtain ⟨b, o, rfl⟩ := hB.cons.lZ h (by omega) (by decide)
  have e1 : IntKind.wrap .i64 ((i : Int) + 1) = ((i + 1 : Nat) : Int) := bk (by omega)
  have hl := CL g (l.take i)
  have jW := List.length_take_le i l
  rw [e1]
  repeat (first|(refine aj h ?_;clear h;intro kb M h)|(refine aq h ?_;clear h;intro M h)|refine St.to h ?_|(apply Exists.intro;(repeat apply Exists.intro);refine And.intro rfl ?_)|refine au ?_|refine af ?_|refine ai ?_)
  refine br (hB.cons.at h (j := 0) hw rfl (by simp [gT])) ?_
  refine br (hB.cons.at h (j := 1) hw rfl (by simp [gT]; omega)) ?_
  refine br (hB.cons.at h (j := 2) hw rfl (by simp [gT]; omega)) ?_
  repeat (first|(refine aj h ?_;clear h;intro kb M h)|(refine aq h ?_;clear h;intro M h)|refine St.to h ?_|(apply Exists.intro;(repeat apply Exists.intro);refine And.intro rfl ?_)|refine au ?_|refine af ?_|refine ai ?_)
  refine eo.2 ⟨fun hne => ?_, fun heq => ?_⟩
  ·have e2 : wo g (l.take (i + 1)) = wo g (l.take i) ++ [w] := by rw [dB hw, HY]; simp [wo, hne]
   repeat (first|(refine aj h ?_;clear h;intro kb M h)|(refine aq h ?_;clear h;intro M h)|refine St.to h ?_|(apply Exists.intro;(repeat apply Exists.intro);refine And.intro rfl ?_)|refine au ?_|refine af ?_|refine ai ?_)
   refine h.bE uT [w] rfl rfl (by simp; omega) ?_
   clear h
   intro A' c' M h
   repeat (first|(refine aj h ?_;clear h;intro kb M h)|(refine aq h ?_;clear h;intro M h)|refine St.to h ?_|(apply Exists.intro;(repeat apply Exists.intro);refine And.intro rfl ?_)|refine au ?_|refine af ?_|refine ai ?_)
   exact ⟨l.length - (i + 1), by omega, i + 1, A', c', by rw [e2], rfl, by omega, by rw [e2]; exact h.bM⟩
  ·have e2 : wo g (l.take (i + 1)) = wo g (l.take i) := by rw [dB hw, HY]; simp [wo, heq]
   exact ⟨l.length - (i + 1), by omega, i + 1, A, c', by rw [e2], rfl, by omega, by rw [e2]; exact h.vz⟩
 ·have : i = l.length := by omega
  subst this
  rw [List.take_length] at h ⊢
  exact k _ _ _ h
theorem CT {g : Int} (h : Hp R L M) [o : bW bq b L c L'] (hs : c.Small 1000000000) (k : ∀ M', Hp R (ax bq b (c.drop g) :: L') M' → K (.tuple #[]) M') :
  aa Tryz.prog 226 #[.pointer (some ⟨b, 0, none⟩), .int .i64 g] M K Kp := by
 refine pY ?_
 have h' := gq h (b := b)
 clear h
 obtain ⟨Ab, cb, As, cs, Ar, cr, h⟩ := h'
 obtain ⟨h1, h2, h3⟩ := hs
 repeat (first|(refine aj h ?_;clear h;intro kb M h)|(refine aq h ?_;clear h;intro M h)|refine St.to h ?_|(apply Exists.intro;(repeat apply Exists.intro);refine And.intro rfl ?_)|refine au ?_|refine af ?_|refine ai ?_)
 refine ⟨?_, ?_, trivial⟩
 ·refine hH h (h.src (A := As)) rfl h2 ?_
  clear h
  intro A' c' M h
  repeat (first|(refine aj h ?_;clear h;intro kb M h)|(refine aq h ?_;clear h;intro M h)|refine St.to h ?_|(apply Exists.intro;(repeat apply Exists.intro);refine And.intro rfl ?_)|refine au ?_|refine af ?_|refine ai ?_)
  refine hH h (h.src (A := Ar)) rfl h3 ?_
  clear h
  intro B' d' M h
  repeat (first|(refine aj h ?_;clear h;intro kb M h)|(refine aq h ?_;clear h;intro M h)|refine St.to h ?_|(apply Exists.intro;(repeat apply Exists.intro);refine And.intro rfl ?_)|refine au ?_|refine af ?_|refine ai ?_)
  exact k _ (cB h b).bM
 ·repeat (first|(refine aj h ?_;clear h;intro kb M h)|(refine aq h ?_;clear h;intro M h)|refine St.to h ?_|(apply Exists.intro;(repeat apply Exists.intro);refine And.intro rfl ?_)|refine au ?_|refine af ?_|refine ai ?_)
  refine hH h (h.src (A := As)) rfl h2 ?_
  clear h
  intro A' c' M h
  repeat (first|(refine aj h ?_;clear h;intro kb M h)|(refine aq h ?_;clear h;intro M h)|refine St.to h ?_|(apply Exists.intro;(repeat apply Exists.intro);refine And.intro rfl ?_)|refine au ?_|refine af ?_|refine ai ?_)
  refine hH h (h.src (A := Ar)) rfl h3 ?_
  clear h
  intro B' d' M h
  repeat (first|(refine aj h ?_;clear h;intro kb M h)|(refine aq h ?_;clear h;intro M h)|refine St.to h ?_|(apply Exists.intro;(repeat apply Exists.intro);refine And.intro rfl ?_)|refine au ?_|refine af ?_|refine ai ?_)
  exact k _ (cB h b).bM
end
end Go.Proofs
namespace Go.AF
theorem lG {α β γ : Type} {f : α → β → γ} : ∀ {l : List α} {m : List β} {i : Nat} {a : α} {b : β}, l[i]? = some a → (List.zipWith f l m).set i (f a b) = List.zipWith f l (m.set i b)
 | [], _, _, _, _, h => by simp at h
 | x :: l, [], i, a, b, h => by simp
 | x :: l, y :: m, 0, a, b, h => by simp at h; subst h; rfl
 | x :: l, y :: m, i + 1, a, b, h => by
  have := lG (f := f) (m := m) (b := b) (show l[i]? = some a from by simpa using h)
  simp [this]
theorem CU {α β γ : Type} {f : α → β → γ} : ∀ {l : List α} {m : List β} {i : Nat} {a : α} {b : β}, l[i]? = some a → m[i]? = some b → (List.zipWith f l m)[i]? = some (f a b)
 | [], _, _, _, _, h, _ => by simp at h
 | x :: l, [], i, a, b, h, g => by simp at g
 | x :: l, y :: m, 0, a, b, h, g => by simp at h g; subst h; subst g; rfl
 | x :: l, y :: m, i + 1, a, b, h, g => by simpa using CU (f := f) (show l[i]? = some a from by simpa using h) (show m[i]? = some b from by simpa using g)
theorem cu.RK {P : HP} {L : List HP} : ∀ (l : List HP), cu (l ++ P :: L) P (l ++ L)
 | [] => .here
 | Q :: l => .there (cu.RK l)
section
variable {α : Type} {r : qH α} {R : Mem} {L L' lY : List HP} {M : Mem} {bs : List Nat} {cs : List α} {b i : Nat} {c : α}
def aR (r : qH α) (bs : List Nat) (cs : List α) : HP := sep (List.zipWith (ax r) bs cs)
def jH (r : qH α) (bs : List Nat) (cs : List α) (i : Nat) : HP := sep ((List.zipWith (ax r) bs cs).eraseIdx i)
class eC (r : qH α) (L : List HP) (bs : outParam (List Nat)) (cs : outParam (List α)) (L' : outParam (List HP)) : Prop where
 pick : cu L (aR r bs cs) L'
instance eC.here : eC r (aR r bs cs :: L) bs cs L := ⟨.here⟩
instance (priority := low) eC.there {P : HP} [h : eC r L bs cs L'] : eC r (P :: L) bs cs (P :: L') := ⟨.there h.pick⟩
class tX (r : qH α) (L : List HP) (bs : outParam (List Nat)) (cs : outParam (List α)) (i : outParam Nat) (L' : outParam (List HP)) : Prop where
 pick : cu L (jH r bs cs i) L'
instance tX.here : tX r (jH r bs cs i :: L) bs cs i L := ⟨.here⟩
instance (priority := low) tX.there {P : HP} [h : tX r L bs cs i L'] : tX r (P :: L) bs cs i (P :: L') := ⟨.there h.pick⟩
theorem Hp.lH (h : Hp R L M) (r : qH α) {bs : List Nat} {cs : List α} [o : eC r L bs cs L'] : Hp R (aR r bs cs :: L') M := h.pick o.pick
theorem Hp.rA (h : Hp R L M) (r : qH α) : Hp R (aR r [] [] :: L) M := Hp.aO.2 h
theorem Hp.cz (h : Hp R L M) (r : qH α) {bs : List Nat} {cs : List α} [o : eC r L bs cs L'] (hb : bs[i]? = some b) (hc : cs[i]? = some c) : Hp R (ax r b c :: jH r bs cs i :: L') M :=
 (h.pick o.pick).focus (CU hb hc)
theorem Hp.cY (h : Hp R L M) (r : qH α) (b : Nat) {bs : List Nat} {cs : List α} {i : Nat} {c : α} [o : bW r b L c L'] [x : tX r L' bs cs i lY] (hb : bs[i]? = some b) (hc : i < cs.length) : Hp R (aR r bs (cs.set i c) :: lY) M := by
 have h1 : Hp R (ax r b c :: jH r bs cs i :: lY) M := (h.pick o.pick).map fun _ hs => hs.tail (fun _ => bK.pick x.pick)
 have h2 := Hp.KO (ls := List.zipWith (ax r) bs cs) h1 (by rw [List.length_zipWith]; have := (List.getElem?_eq_some_iff.1 hb).1; omega)
 rw [lG hb] at h2
 exact h2
theorem Hp.sW (h : Hp R L M) (r : qH α) (b : Nat) {bs : List Nat} {cs : List α} {i : Nat} {c : α} [o : bW r b L c L'] [x : tX r L' bs cs i lY] (hb : bs[i]? = some b) (hc : cs[i]? = some c) : Hp R (aR r bs cs :: lY) M := by
 have := h.cY r b hb (List.getElem?_eq_some_iff.1 hc).1
 obtain ⟨hi, rfl⟩ := List.getElem?_eq_some_iff.1 hc
 rwa [List.set_getElem_self] at this
theorem Hp.iT (h : Hp R L M) (r : qH α) (b : Nat) {bs : List Nat} {cs : List α} {c : α} [o : bW r b L c L'] [x : eC r L' bs cs lY] (hl : bs.length = cs.length) : Hp R (aR r (bs ++ [b]) (cs ++ [c]) :: lY) M := by
 have h1 : Hp R (ax r b c :: aR r bs cs :: lY) M := (h.pick o.pick).map fun _ hs => hs.tail (fun _ => bK.pick x.pick)
 refine Hp.aO.2 ?_
 rw [List.zipWith_append hl, List.append_assoc]
 refine Hp.lu (P := ax r b c) ?_ (cu.RK _)
 exact h1.map fun _ hs => hs.tail fun _ hb => bK.aO.1 hb
end
end Go.AF
namespace Go.Proofs
open Go.AF
set_option maxRecDepth 100000
variable {M : Mem} {K : Value → Mem → Prop} {Kp : List PanicEntry → Mem → Prop}
theorem sX {B0 : Option Addr} {m0 c0 : Nat} {B1 : Option Addr} {m1 c1 : Nat} (h :
∃ I1 : IT, (∃ k2, I1 k2 [(.slice none 0 0), (iV 0)] M) ∧
∀ (k3 : Nat) (_ : Nat → Value) (A5 : Option Addr) (k6 : Nat) (k7 : Nat) (n8 : Int) (M9 : Mem), (I1 k3 [(.slice A5 k6 k7), (iV n8)] M9) → aQ (decide (n8 < m0))
 ((0 ≤ n8) ∧
 (n8 < m0) ∧
 aD B0 fun eM ei =>
 m8 M9 eM (ei + ((Int.toNat n8) * 3)) fun iy ju mj =>
 bg M9 ou fun gn eF =>
 HS eF gn (iV iy) (iV ju) (iV mj) fun jV =>
 m8 jV gn 0 fun hG qI ux =>
 aa Tryz.prog 204 #[(.agg #[(iV hG), (iV qI), (iV ux)]), (.slice B1 m1 c1)] jV (fun RL iS =>
 c6 (some RL) fun t25 =>
 aQ t25
 (bg iS (cl [(iV n8)] 3) fun rq tV =>
 aA 38 A5 k6 k7 (some ⟨rq, 0, none⟩) 1 1 tV (fun Ot mO =>
 aC (some Ot) fun RM pL w9 =>
 ∃ zo : Nat, (zo < k3) ∧
 I1 zo [(.slice RM pL w9), (iV (IntKind.wrap .i64 (n8 + 1)))] mO) Kp)
 (∃ yp : Nat, (yp < k3) ∧
 I1 yp [(.slice A5 k6 k7), (iV (IntKind.wrap .i64 (n8 + 1)))] iS)) Kp)
 (K (.slice A5 k6 k7) M9)) :
 aa Tryz.prog 155 #[.slice B0 m0 c0, .slice B1 m1 c1] M K Kp := vw [(2000000, .loop [(5, .c .sl), (10, .c (.int .i64))])] Tryz.func155 h
theorem xy {B0 : Option Addr} {m0 c0 : Nat} (h :
∃ I1 : IT, (∃ k2, I1 k2 [(iV 0)] M) ∧
∀ (k3 : Nat) (_ : Nat → Value) (n5 : Int) (M6 : Mem), (I1 k3 [(iV n5)] M6) → aQ (decide (n5 < m0))
 ((0 ≤ n5) ∧
 (n5 < m0) ∧
 aD B0 fun k7 k8 =>
 m8 M6 k7 (k8 + ((Int.toNat n5) * 3)) fun n9 jX gQ =>
 bg M6 ou fun fO ku =>
 HS ku fO (iV n9) (iV jX) (iV gQ) fun eF =>
 rI eF fO 0 fun jY =>
 aQ (jY == 2)
 (K (.tuple #[(iV n5), (.bool true)]) eF)
 (∃ fV : Nat, (fV < k3) ∧
 I1 fV [(iV (IntKind.wrap .i64 (n5 + 1)))] eF))
 (K (.tuple #[(iV 0), (.bool false)]) M6)) :
 aa Tryz.prog 156 #[.slice B0 m0 c0] M K Kp := vw [(2000000, .loop [(8, .c (.int .i64))])] Tryz.func156 h
theorem xz {x0 : Int} {B1 : Option Addr} {m1 c1 : Nat} {B2 : Option Addr} {m2 c2 : Nat} {B3 : Option Addr} {m3 c3 : Nat} (h :
∃ I1 : IT, (∃ k2, I1 k2 [(iV 0)] M) ∧
∀ (k3 : Nat) (_ : Nat → Value) (n5 : Int) (M6 : Mem), (I1 k3 [(iV n5)] M6) → aQ (decide (n5 < m1))
 ((0 ≤ n5) ∧
 (n5 < m1) ∧
 aD B1 fun k7 k8 =>
 m8 M6 k7 (k8 + ((Int.toNat n5) * 3)) fun n9 jX gQ =>
 bg M6 ou fun fO ku =>
 HS ku fO (iV n9) (iV jX) (iV gQ) fun eF =>
 rI eF fO 0 fun jY =>
 aQ (jY == 0)
 (rI eF fO 1 fun mu =>
 (0 ≤ mu) ∧
 (mu < m3) ∧
 aD B3 fun iw jy =>
 rP eF iw (jy + (Int.toNat mu)) fun xA =>
 aa Tryz.prog 205 #[(.pointer xA), (.agg #[(iV x0), (iV n5), (iV 0)])] eF (fun FF l8 =>
 (FF = (.tuple #[])) ∧
 ∃ sS : Nat, (sS < k3) ∧
 I1 sS [(iV (IntKind.wrap .i64 (n5 + 1)))] l8) Kp)
 (aQ (jY == 1)
 (rI eF fO 1 fun sY =>
 (0 ≤ sY) ∧
 (sY < m3) ∧
 aD B3 fun rq zl =>
 rP eF rq (zl + (Int.toNat sY)) fun FG =>
 rI eF fO 2 fun AY =>
 (0 ≤ AY) ∧
 (AY < m2) ∧
 aD B2 fun lF pL =>
 rI eF lF (pL + (Int.toNat AY)) fun n32 =>
 aa Tryz.prog 206 #[(.pointer FG), (.agg #[(iV x0), (iV n5), (iV n32)])] eF (fun v33 sB =>
 (v33 = (.tuple #[])) ∧
 ∃ w6 : Nat, (w6 < k3) ∧
 I1 w6 [(iV (IntKind.wrap .i64 (n5 + 1)))] sB) Kp)
 (∃ Ej : Nat, (Ej < k3) ∧
 I1 Ej [(iV (IntKind.wrap .i64 (n5 + 1)))] eF)))
 (K (.tuple #[]) M6)) :
 aa Tryz.prog 157 #[.int .i64 x0, .slice B1 m1 c1, .slice B2 m2 c2, .slice B3 m3 c3] M K Kp := vw [(2000000, .loop [(12, .c (.int .i64))]), (7, .bL [0, 0, 2, 7, 15, 0, 0, 0, 0, 256, 896, 1920, 4064, 8191] (sy [0, 1, 5, 6, 7, 8, 2, 3, 4, 9, 10, 11, 12, 13] .done))] Tryz.func157 h
theorem rC {AZ : Int} {Ba : Int} {rD : Int} {B1 : Option Addr} {m1 c1 : Nat} (h :
bg M (cl [(iV AZ), (iV Ba), (iV rD)] 172) fun k1 M2 =>
rI M2 k1 0 fun n3 =>
aQ (n3 == 0)
 (rI M2 k1 1 fun n4 =>
 (0 ≤ n4) ∧
 (n4 < m1) ∧
 aD B1 fun k5 k6 =>
 rP M2 k5 (k6 + (Int.toNat n4)) fun A7 =>
 aa Tryz.prog 220 #[(.pointer A7)] M2 (fun v8 M9 =>
 c6 (some v8) fun t10 =>
 K (.bool t10) M9) Kp)
 (aQ (n3 == 1)
 (rI M2 k1 1 fun gQ =>
 (0 ≤ gQ) ∧
 (gQ < m1) ∧
 aD B1 fun fO dx =>
 rP M2 fO (dx + (Int.toNat gQ)) fun mP =>
 aa Tryz.prog 221 #[(.pointer mP)] M2 (fun CV eF =>
 c6 (some CV) fun t17 =>
 K (.bool t17) eF) Kp)
 (K (.bool false) M2))) :
 aa Tryz.prog 204 #[.agg #[.int .i64 AZ, .int .i64 Ba, .int .i64 rD], .slice B1 m1 c1] M K Kp := vw [] Tryz.func204 h
theorem vE {x0 : Int} {B1 : Option Addr} {m1 c1 : Nat} (h :
∃ I1 : IT, (∃ k2, I1 k2 [(iV 0)] M) ∧
∀ (k3 : Nat) (_ : Nat → Value) (n5 : Int) (M6 : Mem), (I1 k3 [(iV n5)] M6) → aQ (decide (n5 < m1))
 ((0 ≤ n5) ∧
 (n5 < m1) ∧
 aD B1 fun k7 k8 =>
 rP M6 k7 (k8 + (Int.toNat n5)) fun A9 =>
 aa Tryz.prog 226 #[(.pointer A9), (iV x0)] M6 (fun v10 jG =>
 (v10 = (.tuple #[])) ∧
 ∃ fO : Nat, (fO < k3) ∧
 I1 fO [(iV (IntKind.wrap .i64 (n5 + 1)))] jG) Kp)
 (K (.tuple #[]) M6)) :
 aa Tryz.prog 225 #[.int .i64 x0, .slice B1 m1 c1] M K Kp := vw [(2000000, .loop [(8, .c (.int .i64))])] Tryz.func225 h
end Go.Proofs
namespace Go.Proofs
open Go.AF
set_option maxRecDepth 100000
set_option maxHeartbeats 1000000
attribute [local irreducible] aG c6 fD cj aC eU aD aF bg aZ bD aQ
structure oz where
 way : Int
 ch : Int
 bL : Int
 deriving DecidableEq
def vF : jv oz := ⟨3, fun w => [.int .i64 w.way, .int .i64 w.ch, .int .i64 w.bL], fun _ => rfl, fun w v hv => by
 simp only [List.mem_cons, List.not_mem_nil, or_false] at hv; obtain rfl | rfl | rfl := hv <;> rfl⟩
def oz.Ok (n : Nat) (c : oz) : Prop := 0 ≤ c.way ∧ c.way ≤ 2 ∧ (c.way ≠ 2 → 0 ≤ c.ch ∧ c.ch < n ∧ 0 ≤ c.bL ∧ c.bL < 8)
instance (n : Nat) (c : oz) : Decidable (c.Ok n) := by unfold oz.Ok; infer_instance
def cO (cs : List aK) (k : Int) : aK := cs.getD k.toNat ⟨0, [], [], [], false⟩
def can (cs : List aK) (c : oz) : Bool := if c.way = 0 then (cO cs c.ch).qY else if c.way = 1 then (cO cs c.ch).qX else false
def Ik (cases : List oz) (cs : List aK) (j : Nat) : Bool := match cases[j]? with
 | some c => can cs c
 | none => false
def zp (cases : List oz) (cs : List aK) (i : Nat) : List Int := ((List.range i).filter (Ik cases cs)).map Int.ofNat
def enabled (cases : List oz) (cs : List aK) : List Int := zp cases cs cases.length
theorem Bb (cases : List oz) (cs : List aK) (i : Nat) : (zp cases cs i).length ≤ i := by
 unfold zp; rw [List.length_map]; exact Nat.le_trans (List.length_filter_le ..) (by simp)
theorem yu {cases : List oz} {cs : List aK} {i : Nat} {c : oz} (h : cases[i]? = some c) : zp cases cs (i + 1) = zp cases cs i ++ (if can cs c then [(i : Int)] else []) := by
 unfold zp
 rw [List.range_succ, List.filter_append, List.map_append]
 simp only [List.filter_cons, Ik, h, List.filter_nil]
 split <;> simp_all
def els (cases : List oz) : Option Nat := cases.findIdx? (fun c => c.way == 2)
def iL (g : Int) (eD : List Int) (i : Nat) (c : oz) (cs : List aK) : List aK :=
 if c.way = 0 then cs.set c.ch.toNat { cO cs c.ch with dI := (cO cs c.ch).dI ++ [⟨g, i, 0⟩] }
 else if c.way = 1 then cs.set c.ch.toNat { cO cs c.ch with snd := (cO cs c.ch).snd ++ [⟨g, i, eD.getD c.bL.toNat 0⟩] } else cs
def de (g : Int) (eD : List Int) (cases : List oz) (cs : List aK) : Nat → List aK
 | 0 => cs
 | i + 1 => match cases[i]? with
  | some c => iL g eD i c (de g eD cases cs i)
  | none => de g eD cases cs i
theorem Bc (g : Int) (eD : List Int) (i : Nat) (c : oz) (cs : List aK) : (iL g eD i c cs).length = cs.length := by
 unfold iL; split
 ·simp
 ·split <;> simp
theorem jh (g : Int) (eD : List Int) (cases : List oz) (cs : List aK) : ∀ i, (de g eD cases cs i).length = cs.length
 | 0 => rfl
 | i + 1 => by
  unfold de; split
  ·rw [Bc, jh _ _ _ _ i]
  ·exact jh _ _ _ _ i
theorem mem_set {α : Type} {l : List α} {i : Nat} {x y : α} (h : y ∈ l.set i x) : y ∈ l ∨ y = x := by
 rcases List.mem_or_eq_of_mem_set h with h | h
 ·exact .inl h
 ·exact .inr h
theorem rE {cs : List aK} {k : Int} (h0 : 0 ≤ k) (h : k < cs.length) : cO cs k ∈ cs := by
 unfold cO; rw [List.getD_eq_getElem?_getD, List.getElem?_eq_getElem (by omega)]; exact List.getElem_mem _
theorem xB {g : Int} {eD : List Int} {i : Nat} {c : oz} {cs : List aK} {N : Nat} (hs : ∀ x ∈ cs, x.Small N) (hc : c.Ok cs.length) : ∀ x ∈ iL g eD i c cs, x.Small (N + 1) := by
 obtain ⟨_, _, kk⟩ := hc
 intro x hm
 unfold iL at hm
 split at hm
 ·rename_i hw
  have hx := hs _ (rE (kk (by omega)).1 (kk (by omega)).2.1)
  rcases mem_set hm with h | rfl
  ·exact (hs x h).mono (by omega)
  ·exact hx.wr _
 split at hm
 ·rename_i hw
  have hx := hs _ (rE (kk (by omega)).1 (kk (by omega)).2.1)
  rcases mem_set hm with h | rfl
  ·exact (hs x h).mono (by omega)
  ·exact hx.ws _
 ·exact (hs x hm).mono (by omega)
theorem lI {g : Int} {eD : List Int} {cases : List oz} {cs : List aK} {N : Nat} (hs : ∀ x ∈ cs, x.Small N) (hok : ∀ c ∈ cases, c.Ok cs.length) : ∀ i, ∀ x ∈ de g eD cases cs i, x.Small (N + i)
 | 0 => hs
 | i + 1 => by
  unfold de; split
  ·rename_i c hc
   exact xB (lI hs hok i) (by rw [jh]; exact hok c (List.mem_of_getElem? hc))
  ·exact fun x hx => (lI hs hok i x hx).mono (by omega)
section
variable {R : Mem} {L L' : List HP} {M : Mem} {K : Value → Mem → Prop} {Kp : List PanicEntry → Mem → Prop} {bs : List Nat} {cs : List aK}
theorem zq : bu Tryz.prog 38 3 1 8 [.int .i64 0] := bu.mk' (zv := .int .i64 0) (by kernel_rfl) (by kernel_rfl) rfl (by omega)
theorem Il {cases : List oz} {i : Nat} {c : oz} (hc : cases[i]? = some c) (hw : c.way = 2) (hp : ∀ j c, j < i → cases[j]? = some c → c.way ≠ 2) : els cases = some i := by
 obtain ⟨hi, e⟩ := List.getElem?_eq_some_iff.1 hc
 refine List.findIdx?_eq_some_iff_getElem.2 ⟨hi, by rw [e]; simpa using hw, fun j hj => ?_⟩
 have := hp j _ hj (List.getElem?_eq_getElem (by omega))
 simpa using this
theorem Im {cases : List oz} (hp : ∀ j c, j < cases.length → cases[j]? = some c → c.way ≠ 2) : els cases = none := by
 refine List.findIdx?_eq_none_iff.2 fun c hc => ?_
 obtain ⟨j, hj, e⟩ := List.getElem_of_mem hc
 have := hp j c hj (by rw [← e]; exact List.getElem?_eq_getElem hj)
 simpa using this
theorem CW {B : Option Addr} {m cc : Nat} {cases : List oz} (h : Hp R L M) (hB : Src R L B (vF.cells cases)) (hm : m = cases.length) (hb : cases.length ≤ 1000000000)
  (k : ∀ M', Hp R L M' → K (.tuple #[.int .i64 (match els cases with | some i => (i : Int) | none => 0), .bool (els cases).isSome]) M') :
  aa Tryz.prog 156 #[.slice B m cc] M K Kp := by
 subst hm
 refine xy ⟨fun d ws M => ∃ i : Nat, ws = [.int .i64 (i : Int)] ∧ d = cases.length - i ∧ i ≤ cases.length ∧ (∀ j c, j < i → cases[j]? = some c → c.way ≠ 2) ∧ Hp R L M, ⟨_, 0, rfl, rfl, by omega, fun j c hj => by omega, h⟩, ?_⟩
 clear h
 rintro d _ ii M ⟨i, he, hd, hi, hp, h⟩
 simp only [List.cons.injEq, Value.int.injEq, and_true, true_and] at he
 subst he
 refine aL.2 ⟨fun hlt => ?_, fun hge => ?_⟩
 ·obtain ⟨c, hc⟩ := aN (l := cases) (i := i) (by omega)
  obtain ⟨b, o, rfl⟩ := hB.lZ h (by omega) (by decide)
  repeat (first|(refine aj h ?_;clear h;intro kb M h)|(refine aq h ?_;clear h;intro M h)|refine St.to h ?_|(apply Exists.intro;(repeat apply Exists.intro);refine And.intro rfl ?_)|refine au ?_|refine af ?_|refine ai ?_)
  simp only [Int.toNat_natCast]
  refine br (hB.at h (i := i) (j := 0) hc rfl rfl) ?_
  refine br (hB.at h (i := i) (j := 1) hc rfl rfl) ?_
  refine br (hB.at h (i := i) (j := 2) hc rfl rfl) ?_
  repeat (first|(refine aj h ?_;clear h;intro kb M h)|(refine aq h ?_;clear h;intro M h)|refine St.to h ?_|(apply Exists.intro;(repeat apply Exists.intro);refine And.intro rfl ?_)|refine au ?_|refine af ?_|refine ai ?_)
  refine bP.2 ⟨fun e => ?_, fun e => ?_⟩
  ·have := Il hc e hp
   rw [this] at k
   exact k _ h.vz
  ·rw [bk (by omega)]
   refine ⟨cases.length - (i + 1), by omega, i + 1, rfl, rfl, by omega, fun j c' hj Ce => ?_, h.vz⟩
   rcases Nat.lt_or_ge j i with iu | iu
   ·exact hp j c' iu Ce
   ·obtain rfl : j = i := by omega
    rw [hc] at Ce; cases Ce; exact e
 ·obtain rfl : i = cases.length := by omega
  rw [Im hp] at k
  exact k _ h
theorem FH {c : oz} {B : Option Addr} {m cc : Nat} (h : Hp R L M) [o : eC bq L bs cs L'] (hB : Src R L' B (jU.cells bs)) (hm : m = bs.length) (hl : bs.length = cs.length) (hc : c.way ≠ 2 → 0 ≤ c.ch ∧ c.ch < cs.length) (CX : 0 ≤ c.way ∧ c.way ≤ 2)
  (k : ∀ M', Hp R (aR bq bs cs :: L') M' → K (.bool (can cs c)) M') : aa Tryz.prog 204 #[.agg #[.int .i64 c.way, .int .i64 c.ch, .int .i64 c.bL], .slice B m cc] M K Kp := by
 subst hm
 replace h := h.lH bq
 obtain ⟨way, ch, bL⟩ := c
 dsimp only at *
 by_cases TJ : way = 2
 ·subst TJ
  refine rC ?_
  repeat (first|(refine aj h ?_;clear h;intro kb M h)|(refine aq h ?_;clear h;intro M h)|refine St.to h ?_|(apply Exists.intro;(repeat apply Exists.intro);refine And.intro rfl ?_)|refine au ?_|refine af ?_|refine ai ?_)
  exact k _ h.vz
 replace hc := hc TJ
 obtain ⟨q, rfl⟩ := Int.eq_ofNat_of_zero_le hc.1
 obtain ⟨x, hx⟩ := aN (l := cs) (i := q) (by omega)
 obtain ⟨b, hb⟩ := aN (l := bs) (i := q) (by omega)
 have U4 : cO cs (q : Int) = x := by simp [cO, hx]
 obtain ⟨b0, o0, rfl⟩ := hB.cons.lZ h (by omega) (by decide)
 simp only [can, U4] at k
 refine rC ?_
 repeat (first|(refine aj h ?_;clear h;intro kb M h)|(refine aq h ?_;clear h;intro M h)|refine St.to h ?_|(apply Exists.intro;(repeat apply Exists.intro);refine And.intro rfl ?_)|refine au ?_|refine af ?_|refine ai ?_)
 refine bP.2 ⟨fun e => ?_, fun e => ?_⟩
 ·rw [if_pos e] at k
  repeat (first|(refine aj h ?_;clear h;intro kb M h)|(refine aq h ?_;clear h;intro M h)|refine St.to h ?_|(apply Exists.intro;(repeat apply Exists.intro);refine And.intro rfl ?_)|refine au ?_|refine af ?_|refine ai ?_)
  refine kq (hB.cons.cons.at h (i := q) (j := 0) hb rfl (by simp [jU])) ?_
  replace h := h.cz bq hb hx
  refine xw h ?_
  repeat (first|(refine aj h ?_;clear h;intro kb M h)|(refine aq h ?_;clear h;intro M h)|refine St.to h ?_|(apply Exists.intro;(repeat apply Exists.intro);refine And.intro rfl ?_)|refine au ?_|refine af ?_|refine ai ?_)
  exact k _ (h.sW bq b hb hx).bM
 rw [if_neg e] at k
 refine bP.2 ⟨fun e => ?_, fun e => ?_⟩
 ·rw [if_pos e] at k
  repeat (first|(refine aj h ?_;clear h;intro kb M h)|(refine aq h ?_;clear h;intro M h)|refine St.to h ?_|(apply Exists.intro;(repeat apply Exists.intro);refine And.intro rfl ?_)|refine au ?_|refine af ?_|refine ai ?_)
  refine kq (hB.cons.cons.at h (i := q) (j := 0) hb rfl (by simp [jU])) ?_
  replace h := h.cz bq hb hx
  refine xu h ?_
  repeat (first|(refine aj h ?_;clear h;intro kb M h)|(refine aq h ?_;clear h;intro M h)|refine St.to h ?_|(apply Exists.intro;(repeat apply Exists.intro);refine And.intro rfl ?_)|refine au ?_|refine af ?_|refine ai ?_)
  exact k _ (h.sW bq b hb hx).bM
 ·rw [if_neg e] at k
  exact k _ h.vz
theorem xC {B A : Option Addr} {m cc n ca : Nat} {cases : List oz} (h : Hp R L M) [o : eC bq L bs cs L'] (hB : Src R L' B (vF.cells cases)) (hA : Src R L' A (jU.cells bs)) (hm : m = cases.length) (hn : n = bs.length)
  (hb : cases.length ≤ 1000000000) (hl : bs.length = cs.length) (hok : ∀ c ∈ cases, c.Ok cs.length)
  (k : ∀ A' c' M', Hp R (ct bN 3 A' c' (enabled cases cs) :: aR bq bs cs :: L') M' → K (.slice A' (enabled cases cs).length c') M') :
  aa Tryz.prog 155 #[.slice B m cc, .slice A n ca] M K Kp := by
 subst hm
 replace h := h.lH bq
 refine sX ⟨fun d ws M => ∃ (i : Nat) (X : Option Addr) (cx : Nat), ws = [.slice X (zp cases cs i).length cx, .int .i64 (i : Int)] ∧ d = cases.length - i ∧ i ≤ cases.length ∧ Hp R (ct bN 3 X cx (zp cases cs i) :: aR bq bs cs :: L') M, ⟨_, 0, none, 0, rfl, rfl, by omega, h.cw bN _⟩, ?_⟩
 clear h
 rintro d _ X n1 cx ii M ⟨i, _, _, he, hd, hi, h⟩
 simp only [List.cons.injEq, Value.int.injEq, Value.slice.injEq, and_true, true_and] at he
 obtain ⟨⟨rfl, rfl, rfl⟩, rfl⟩ := he
 refine aL.2 ⟨fun hlt => ?_, fun hge => ?_⟩
 ·obtain ⟨c, hc⟩ := aN (l := cases) (i := i) (by omega)
  obtain ⟨b, o, rfl⟩ := hB.cons.cons.lZ h (by omega) (by decide)
  repeat (first|(refine aj h ?_;clear h;intro kb M h)|(refine aq h ?_;clear h;intro M h)|refine St.to h ?_|(apply Exists.intro;(repeat apply Exists.intro);refine And.intro rfl ?_)|refine au ?_|refine af ?_|refine ai ?_)
  simp only [Int.toNat_natCast]
  refine br (hB.cons.cons.at h (i := i) (j := 0) hc rfl rfl) ?_
  refine br (hB.cons.cons.at h (i := i) (j := 1) hc rfl rfl) ?_
  refine br (hB.cons.cons.at h (i := i) (j := 2) hc rfl rfl) ?_
  repeat (first|(refine aj h ?_;clear h;intro kb M h)|(refine aq h ?_;clear h;intro M h)|refine St.to h ?_|(apply Exists.intro;(repeat apply Exists.intro);refine And.intro rfl ?_)|refine au ?_|refine af ?_|refine ai ?_)
  have hco := hok c (List.mem_of_getElem? hc)
  obtain ⟨w1, w2, k1⟩ := hco
  refine FH (c := c) h hA.cons.cons hn hl (fun e => ⟨(k1 e).1, (k1 e).2.1⟩) ⟨w1, w2⟩ ?_
  clear h
  intro M h
  repeat (first|(refine aj h ?_;clear h;intro kb M h)|(refine aq h ?_;clear h;intro M h)|refine St.to h ?_|(apply Exists.intro;(repeat apply Exists.intro);refine And.intro rfl ?_)|refine au ?_|refine af ?_|refine ai ?_)
  have hlen := Bb cases cs i
  refine fF.2 ⟨fun hb => ?_, fun hb => ?_⟩
  ·have e := yu (cs := cs) hc
   rw [if_pos hb] at e
   repeat (first|(refine aj h ?_;clear h;intro kb M h)|(refine aq h ?_;clear h;intro M h)|refine St.to h ?_|(apply Exists.intro;(repeat apply Exists.intro);refine And.intro rfl ?_)|refine au ?_|refine af ?_|refine ai ?_)
   refine h.bE zq [(i : Int)] rfl rfl (by simp; omega) ?_
   clear h
   intro A' c' M h
   repeat (first|(refine aj h ?_;clear h;intro kb M h)|(refine aq h ?_;clear h;intro M h)|refine St.to h ?_|(apply Exists.intro;(repeat apply Exists.intro);refine And.intro rfl ?_)|refine au ?_|refine af ?_|refine ai ?_)
   rw [bk (by omega)]
   rw [← e] at h
   refine ⟨cases.length - (i + 1), by omega, i + 1, A', c', ?_, rfl, by omega, h.bM⟩
   rw [e]
  ·have e := yu (cs := cs) hc
   rw [if_neg (by simp [hb]), List.append_nil] at e
   rw [bk (by omega)]
   refine ⟨cases.length - (i + 1), by omega, i + 1, X, cx, by rw [e], rfl, by omega, ?_⟩
   rw [e]; exact h.sub bQ
 ·obtain rfl : i = cases.length := by omega
  exact k _ _ _ h
theorem Bd {g : Int} {A : Option Addr} {n ca : Nat} (h : Hp R L M) [o : eC bq L bs cs L'] (hA : Src R L' A (jU.cells bs)) (hn : n = bs.length) (hb : bs.length ≤ 1000000000) (hl : bs.length = cs.length) (hs : ∀ c ∈ cs, c.Small 1000000000)
  (k : ∀ M', Hp R (aR bq bs (cs.map (·.drop g)) :: L') M' → K (.tuple #[]) M') :
  aa Tryz.prog 225 #[.int .i64 g, .slice A n ca] M K Kp := by
 subst hn
 replace h := h.lH bq
 refine vE ⟨fun d ws M => ∃ (i : Nat), ws = [.int .i64 (i : Int)] ∧ d = bs.length - i ∧ i ≤ bs.length ∧ Hp R (aR bq bs ((cs.take i).map (·.drop g) ++ cs.drop i) :: L') M, ⟨_, 0, rfl, rfl, by omega, h⟩, ?_⟩
 clear h
 rintro d _ ii M ⟨i, he, hd, hi, h⟩
 simp only [List.cons.injEq, Value.int.injEq, and_true, true_and] at he
 subst he
 refine aL.2 ⟨fun hlt => ?_, fun hge => ?_⟩
 ·obtain ⟨c, hc⟩ := aN (l := cs) (i := i) (by omega)
  obtain ⟨b, w4⟩ := aN (l := bs) (i := i) (by omega)
  obtain ⟨b0, o0, rfl⟩ := hA.cons.lZ h (by omega) (by decide)
  have MW : ((cs.take i).map (·.drop g) ++ cs.drop i)[i]? = some c := by
   rw [List.getElem?_append_right (by simp; omega)]; simp [List.length_take, Nat.min_eq_left (show i ≤ cs.length by omega), hc]
  repeat (first|(refine aj h ?_;clear h;intro kb M h)|(refine aq h ?_;clear h;intro M h)|refine St.to h ?_|(apply Exists.intro;(repeat apply Exists.intro);refine And.intro rfl ?_)|refine au ?_|refine af ?_|refine ai ?_)
  refine kq (hA.cons.at h (i := i) (j := 0) w4 rfl (by simp [jU])) ?_
  replace h := h.cz bq w4 MW
  refine CT h (hs c (List.mem_of_getElem? hc)) ?_
  clear h
  intro M h
  repeat (first|(refine aj h ?_;clear h;intro kb M h)|(refine aq h ?_;clear h;intro M h)|refine St.to h ?_|(apply Exists.intro;(repeat apply Exists.intro);refine And.intro rfl ?_)|refine au ?_|refine af ?_|refine ai ?_)
  rw [bk (by omega)]
  refine ⟨bs.length - (i + 1), by omega, i + 1, rfl, rfl, by omega, ?_⟩
  have := (h.cY bq b w4 (by simp; omega)).bM (T := L')
  rw [List.set_append_right _ _ (by simp; omega)] at this
  rw [dB hc, List.map_append, List.append_assoc]
  have e : (cs.drop i).set (i - ((cs.take i).map (·.drop g)).length) (c.drop g) = [c.drop g] ++ cs.drop (i + 1) := by
   rw [show i - ((cs.take i).map (·.drop g)).length = 0 from by simp; omega]
   obtain ⟨hi', e'⟩ := List.getElem?_eq_some_iff.1 hc
   rw [List.drop_eq_getElem_cons hi']; rfl
  rw [e] at this
  exact this
 ·obtain rfl : i = bs.length := by omega
  rw [hl, List.take_length, List.drop_length, List.append_nil] at h
  exact k _ h
theorem CY {g : Int} {B A D : Option Addr} {m cc n ca r cr : Nat} {cases : List oz} {eD : List Int} (h : Hp R L M) [o : eC bq L bs cs L'] (hB : Src R L' B (vF.cells cases)) (hA : Src R L' A (jU.cells bs)) (hD : Src R L' D (bN.cells eD))
  (hm : m = cases.length) (hn : n = bs.length) (hr : r = 8) (hr8 : eD.length = 8) (hb : cases.length ≤ 1000000) (hl : bs.length = cs.length) (hok : ∀ c ∈ cases, c.Ok cs.length) (hs : ∀ c ∈ cs, c.Small 1000000)
  (k : ∀ M', Hp R (aR bq bs (de g eD cases cs cases.length) :: L') M' → K (.tuple #[]) M') :
  aa Tryz.prog 157 #[.int .i64 g, .slice B m cc, .slice D r cr, .slice A n ca] M K Kp := by
 subst hm
 subst hn
 subst hr
 replace h := h.lH bq
 refine xz ⟨fun d ws M => ∃ (i : Nat), ws = [.int .i64 (i : Int)] ∧ d = cases.length - i ∧ i ≤ cases.length ∧ Hp R (aR bq bs (de g eD cases cs i) :: L') M, ⟨_, 0, rfl, rfl, by omega, h⟩, ?_⟩
 clear h
 rintro d _ ii M ⟨i, he, hd, hi, h⟩
 simp only [List.cons.injEq, Value.int.injEq, and_true, true_and] at he
 subst he
 refine aL.2 ⟨fun hlt => ?_, fun hge => ?_⟩
 ·obtain ⟨c, hc⟩ := aN (l := cases) (i := i) (by omega)
  obtain ⟨w1, w2, kk⟩ := hok c (List.mem_of_getElem? hc)
  obtain ⟨b, o, rfl⟩ := hB.cons.lZ h (by omega) (by decide)
  by_cases TJ : c.way = 2
  ·have e : de g eD cases cs (i + 1) = de g eD cases cs i := by
    rw [de, hc]; dsimp only; unfold iL; rw [if_neg (by omega), if_neg (by omega)]
   repeat (first|(refine aj h ?_;clear h;intro kb M h)|(refine aq h ?_;clear h;intro M h)|refine St.to h ?_|(apply Exists.intro;(repeat apply Exists.intro);refine And.intro rfl ?_)|refine au ?_|refine af ?_|refine ai ?_)
   simp only [Int.toNat_natCast]
   refine br (hB.cons.at h (i := i) (j := 0) hc rfl rfl) ?_
   refine br (hB.cons.at h (i := i) (j := 1) hc rfl rfl) ?_
   refine br (hB.cons.at h (i := i) (j := 2) hc rfl rfl) ?_
   repeat (first|(refine aj h ?_;clear h;intro kb M h)|(refine aq h ?_;clear h;intro M h)|refine St.to h ?_|(apply Exists.intro;(repeat apply Exists.intro);refine And.intro rfl ?_)|refine au ?_|refine af ?_|refine ai ?_)
   refine bP.2 ⟨fun e => by omega, fun _ => ?_⟩
   refine bP.2 ⟨fun e => by omega, fun _ => ?_⟩
   rw [bk (by omega)]
   refine ⟨cases.length - (i + 1), by omega, i + 1, rfl, rfl, by omega, ?_⟩
   rw [e]
   exact h.vz
  obtain ⟨k1, k2, k3, k4⟩ := kk TJ
  obtain ⟨b2, o2, rfl⟩ := hA.cons.lZ h (by omega) (by decide)
  obtain ⟨b3, o3, rfl⟩ := hD.cons.lZ h (by omega) (by decide)
  have hlen := jh g eD cases cs i
  have Ek := lI (g := g) (eD := eD) hs hok i
  have e : de g eD cases cs (i + 1) = iL g eD i c (de g eD cases cs i) := by rw [de, hc]
  generalize hw : de g eD cases cs i = ws at h hlen Ek e
  obtain ⟨way, ch, bL⟩ := c
  dsimp only at k1 k2 k3 k4
  obtain ⟨q, rfl⟩ := Int.eq_ofNat_of_zero_le k1
  obtain ⟨q2, rfl⟩ := Int.eq_ofNat_of_zero_le k3
  obtain ⟨b1, w4⟩ := aN (l := bs) (i := q) (by omega)
  obtain ⟨x, hx⟩ := aN (l := ws) (i := q) (by omega)
  obtain ⟨v, hv⟩ := aN (l := eD) (i := q2) (by omega)
  have U4 : cO ws (q : Int) = x := by simp [cO, hx]
  have hvv : eD.getD q2 0 = v := by simp [hv]
  have hxs := Ek x (List.mem_of_getElem? hx)
  simp only [iL, U4, Int.toNat_natCast, hvv] at e
  repeat (first|(refine aj h ?_;clear h;intro kb M h)|(refine aq h ?_;clear h;intro M h)|refine St.to h ?_|(apply Exists.intro;(repeat apply Exists.intro);refine And.intro rfl ?_)|refine au ?_|refine af ?_|refine ai ?_)
  simp only [Int.toNat_natCast]
  refine br (hB.cons.at h (i := i) (j := 0) hc rfl rfl) ?_
  refine br (hB.cons.at h (i := i) (j := 1) hc rfl rfl) ?_
  refine br (hB.cons.at h (i := i) (j := 2) hc rfl rfl) ?_
  dsimp only
  repeat (first|(refine aj h ?_;clear h;intro kb M h)|(refine aq h ?_;clear h;intro M h)|refine St.to h ?_|(apply Exists.intro;(repeat apply Exists.intro);refine And.intro rfl ?_)|refine au ?_|refine af ?_|refine ai ?_)
  refine bP.2 ⟨fun hw => ?_, fun hw => ?_⟩
  ·rw [if_pos hw] at e
   repeat (first|(refine aj h ?_;clear h;intro kb M h)|(refine aq h ?_;clear h;intro M h)|refine St.to h ?_|(apply Exists.intro;(repeat apply Exists.intro);refine And.intro rfl ?_)|refine au ?_|refine af ?_|refine ai ?_)
   refine kq (hA.cons.cons.at h (i := q) (j := 0) w4 rfl (by simp [jU])) ?_
   have Kf := w4
   replace h := h.pick (.there .here)
   replace h := h.cz bq w4 hx
   refine nh (w := ⟨g, i, 0⟩) h (hxs.mono (by omega)) ?_
   clear h
   intro M h
   repeat (first|(refine aj h ?_;clear h;intro kb M h)|(refine aq h ?_;clear h;intro M h)|refine St.to h ?_|(apply Exists.intro;(repeat apply Exists.intro);refine And.intro rfl ?_)|refine au ?_|refine af ?_|refine ai ?_)
   rw [bk (by omega)]
   refine ⟨cases.length - (i + 1), by omega, i + 1, rfl, rfl, by omega, ?_⟩
   rw [e]
   exact (h.cY bq b1 w4 (by omega)).bM
  rw [if_neg hw] at e
  refine bP.2 ⟨fun hw => ?_, fun hw => ?_⟩
  ·rw [if_pos hw] at e
   repeat (first|(refine aj h ?_;clear h;intro kb M h)|(refine aq h ?_;clear h;intro M h)|refine St.to h ?_|(apply Exists.intro;(repeat apply Exists.intro);refine And.intro rfl ?_)|refine au ?_|refine af ?_|refine ai ?_)
   refine kq (hA.cons.cons.at h (i := q) (j := 0) w4 rfl (by simp [jU])) ?_
   repeat (first|(refine aj h ?_;clear h;intro kb M h)|(refine aq h ?_;clear h;intro M h)|refine St.to h ?_|(apply Exists.intro;(repeat apply Exists.intro);refine And.intro rfl ?_)|refine au ?_|refine af ?_|refine ai ?_)
   refine br (hD.cons.cons.at h (i := q2) (j := 0) hv rfl (by simp [bN])) ?_
   replace h := h.pick (.there .here)
   replace h := h.cz bq w4 hx
   refine ng (w := ⟨g, i, v⟩) h (hxs.mono (by omega)) ?_
   clear h
   intro M h
   repeat (first|(refine aj h ?_;clear h;intro kb M h)|(refine aq h ?_;clear h;intro M h)|refine St.to h ?_|(apply Exists.intro;(repeat apply Exists.intro);refine And.intro rfl ?_)|refine au ?_|refine af ?_|refine ai ?_)
   rw [bk (by omega)]
   refine ⟨cases.length - (i + 1), by omega, i + 1, rfl, rfl, by omega, ?_⟩
   rw [e]
   exact (h.cY bq b1 w4 (by omega)).bM
  ·rw [if_neg hw] at e
   rw [bk (by omega)]
   refine ⟨cases.length - (i + 1), by omega, i + 1, rfl, rfl, by omega, ?_⟩
   rw [e]
   exact h.vz
 ·obtain rfl : i = cases.length := by omega
  exact k _ h
end
end Go.Proofs
namespace Go.Proofs
open Go.AF
structure cQ where
 op : Int
 a : Int
 b : Int
 c : Int
 deriving DecidableEq
def cQ.zero : cQ := ⟨0, 0, 0, 0⟩
def xD : jv cQ := ⟨4, fun x => [.int .i64 x.op, .int .i64 x.a, .int .i64 x.b, .int .i64 x.c], fun _ => rfl, fun w v hv => by
 simp only [List.mem_cons, List.not_mem_nil, or_false] at hv; obtain rfl | rfl | rfl | rfl := hv <;> rfl⟩
structure e7 where
 fn : Int
 pc : Int
 r : List Int
 eE : Int
 deriving DecidableEq
def e7.bL (f : e7) (q : Int) : Int := f.r.getD q.toNat 0
def e7.set (f : e7) (q v : Int) : e7 := { f with r := (List.range 8).map fun i => if i = q.toNat then v else f.r.getD i 0 }
def e7.next (f : e7) : e7 := { f with pc := f.pc + 1 }
def e7.begin (fn v : Int) : e7 := ⟨fn, 0, [v, 0, 0, 0, 0, 0, 0, 0], 0⟩
def RN (f : e7) : List Value := [.int .i64 f.fn, .int .i64 f.pc, .int .i64 (f.r.getD 0 0), .int .i64 (f.r.getD 1 0), .int .i64 (f.r.getD 2 0), .int .i64 (f.r.getD 3 0), .int .i64 (f.r.getD 4 0), .int .i64 (f.r.getD 5 0), .int .i64 (f.r.getD 6 0), .int .i64 (f.r.getD 7 0), .int .i64 f.eE]
def iM : jv e7 := ⟨11, RN, fun _ => rfl, fun w v hv => by
 simp only [RN, List.mem_cons, List.not_mem_nil, or_false] at hv
 obtain rfl | rfl | rfl | rfl | rfl | rfl | rfl | rfl | rfl | rfl | rfl := hv <;> rfl⟩
theorem RO {q : Int} (h0 : 0 ≤ q) (h8 : q < 8) : q = 0 ∨ q = 1 ∨ q = 2 ∨ q = 3 ∨ q = 4 ∨ q = 5 ∨ q = 6 ∨ q = 7 := by omega
theorem Ou {f : e7} {q : Int} (h0 : 0 ≤ q) (h8 : q < 8) : (iM.f f)[2 + q.toNat]? = some (.int .i64 (f.bL q)) := by
 obtain rfl | rfl | rfl | rfl | rfl | rfl | rfl | rfl := RO h0 h8 <;> rfl
theorem K3 {f : e7} {q v : Int} (h0 : 0 ≤ q) (h8 : q < 8) : (iM.f f).set (2 + q.toNat) (.int .i64 v) = iM.f (f.set q v) := by
 obtain rfl | rfl | rfl | rfl | rfl | rfl | rfl | rfl := RO h0 h8 <;> rfl
theorem Ov {f : e7} {v : Int} : (iM.f f).set 1 (.int .i64 v) = iM.f { f with pc := v } := rfl
def e7.pure (f : e7) (x : cQ) : e7 :=
 if x.op = 0 then f
 else if x.op = 1 then f.set x.a x.b
 else if x.op = 2 then f.set x.a (f.bL x.b)
 else if x.op = 3 then f.set x.a (IntKind.wrap .i64 (f.bL x.b + f.bL x.c))
 else if x.op = 4 then f.set x.a (IntKind.wrap .i64 (f.bL x.b - f.bL x.c))
 else if x.op = 5 then f.set x.a (IntKind.wrap .i64 (f.bL x.b * f.bL x.c))
 else if x.op = 6 then f.set x.a (if f.bL x.b < f.bL x.c then 1 else 0)
 else if x.op = 7 then { f with pc := x.a }
 else if f.bL x.a ≠ 0 then { f with pc := x.b } else f
def bn (q : Int) : Prop := 0 ≤ q ∧ q < 8
instance (q : Int) : Decidable (bn q) := by unfold bn; infer_instance
def cQ.jZ (x : cQ) : Prop :=
 (x.op ∈ [1, 8] → bn x.a) ∧ (x.op = 2 → bn x.a ∧ bn x.b) ∧ (x.op ∈ [3, 4, 5, 6] → bn x.a ∧ bn x.b ∧ bn x.c)
instance (x : cQ) : Decidable x.jZ := by unfold cQ.jZ; infer_instance
structure dD where
 st : Int
 fs : List e7
 wt : cQ
 deriving DecidableEq
structure Lk where
 owner : Int
 waits : List Int
 deriving DecidableEq
structure bh where
 t : Int
 seq : Int
 id : Int
 deriving DecidableEq
def rF : jv bh := ⟨3, fun x => [.int .u64 x.t, .int .u64 x.seq, .int .i64 x.id], fun _ => rfl, fun w v hv => by
 simp only [List.mem_cons, List.not_mem_nil, or_false] at hv; obtain rfl | rfl | rfl := hv <;> rfl⟩
structure cf where
 funcs : List (List cQ)
 oA : List Int
 aP : Int
 cases : List oz
structure Wd where
 gs : List dD
 clock : Int
 az : List aK
 aP : List Lk
 hl : List bh
 kz : Int
 out : List Int
 end_ : Int
 code : Int
 ready : List Int
 deriving DecidableEq
def ae (x : Wd) (g : Int) : dD := x.gs.getD g.toNat ⟨0, [], .zero⟩
def Wd.aY (x : Wd) (g : Int) (y : dD) : Wd := { x with gs := x.gs.set g.toNat y }
def dD.top (y : dD) : e7 := y.fs.getD (y.fs.length - 1) ⟨0, 0, [], 0⟩
def dD.bS (y : dD) (f : e7) : dD := { y with fs := y.fs.set (y.fs.length - 1) f }
def Wd.aX (x : Wd) (g q v : Int) : Wd := x.aY g ((ae x g).bS ((ae x g).top.set q v))
def Wd.dN (x : Wd) (g : Int) : Wd := { x.aY g { ae x g with st := 1 } with ready := x.ready ++ [g] }
def Wd.block (x : Wd) (g : Int) (i : cQ) : Wd := x.aY g { ae x g with st := 2, wt := i }
def Wd.leave (x : Wd) (g : Int) : Wd := { x with az := x.az.map fun c => c.drop g }
def Wd.fq (x : Wd) (g k : Int) : Wd := (x.aX g (ae x g).wt.c k).leave g
def ni (p : cf) (k : Int) : oz := p.cases.getD k.toNat ⟨0, 0, 0⟩
def Wd.received (p : cf) (x : Wd) (v : Wt) (some : Int) : Wd :=
 let i := (ae x v.g).wt
 (if i.op = 16 then ((x.aX v.g (ni p (i.a + v.cs)).bL v.v).fq v.g v.cs)
  else (x.aX v.g i.b v.v).aX v.g i.c some).dN v.g
def Wd.sent (x : Wd) (v : Wt) : Wd := (if (ae x v.g).wt.op = 16 then x.fq v.g v.cs else x).dN v.g
inductive Out (α : Type) where
 | on (a : α)
 | dy (code : Int) (x : Wd)
 | cG (l : List PanicEntry) (x : Wd)
def Wd.bT (x : Wd) (k : Int) (c : aK) : Wd := { x with az := x.az.set k.toNat c }
def Wd.put (p : cf) (x : Wd) (k v : Int) : Out (Wd × Bool) :=
 let s := (cO x.az k).send v
 if s.2.2.2 = 10 then .dy (-1) (x.bT k s.1)
 else .on ((if s.2.2.1 then (x.bT k s.1).received p s.2.1 1 else x.bT k s.1), s.2.2.2 == 0)
def Wd.get (x : Wd) (k : Int) : Wd × Int × Int × Bool :=
 let s := (cO x.az k).recv
 let y := if s.2.2.2.2.1 then (x.bT k s.1).sent s.2.2.2.1 else x.bT k s.1
 if s.2.2.1 then (y, s.2.1, 1, true) else (y, 0, 0, s.2.2.2.2.2 == 0)
def aS (x : Wd) (g : Int) : Prop := 0 ≤ g ∧ g < x.gs.length ∧ 0 < (ae x g).fs.length ∧ (ae x g).fs.length ≤ 1000
instance (x : Wd) (g : Int) : Decidable (aS x g) := by unfold aS; infer_instance
def nj (p : cf) (x : Wd) (v : Wt) : Prop := aS x v.g ∧
 if (ae x v.g).wt.op = 16 then 0 ≤ (ae x v.g).wt.a + v.cs ∧ (ae x v.g).wt.a + v.cs < p.cases.length ∧ p.cases.length ≤ 1000 ∧ bn (ni p ((ae x v.g).wt.a + v.cs)).bL ∧ bn (ae x v.g).wt.c
 else bn (ae x v.g).wt.b ∧ bn (ae x v.g).wt.c
instance (p : cf) (x : Wd) (v : Wt) : Decidable (nj p x v) := by unfold nj; infer_instance
def tY (x : Wd) (v : Wt) : Prop := aS x v.g ∧ ((ae x v.g).wt.op = 16 → bn (ae x v.g).wt.c)
instance (x : Wd) (v : Wt) : Decidable (tY x v) := by unfold tY; infer_instance
def Wd.Sm (x : Wd) : Prop := (∀ c ∈ x.az, c.Small 1000000) ∧ x.az.length ≤ 1000 ∧ x.gs.length ≤ 1000 ∧ x.ready.length ≤ 1000000 ∧ x.out.length ≤ 1000000 ∧ (∀ l ∈ x.aP, l.waits.length ≤ 1000000) ∧ x.aP.length ≤ 1000 ∧ x.hl.length ≤ 1000000
instance (x : Wd) : Decidable x.Sm := by unfold Wd.Sm; infer_instance
theorem fG {x : Wd} {g : Int} {y : dD} (h0 : 0 ≤ g) (hg : g < x.gs.length) : ae (x.aY g y) g = y := by
 have : g.toNat < x.gs.length := by omega
 simp [ae, Wd.aY, this]
end Go.Proofs
namespace Go.Proofs
open Go.AF
set_option maxRecDepth 100000
variable {M : Mem} {K : Value → Mem → Prop} {Kp : List PanicEntry → Mem → Prop}
theorem qb {B0 : Option Addr} {m0 c0 : Nat} (h :
aQ ((m0 : Int) == 0)
 (K (.pointer none) M)
 (((0 : Int) ≤ (IntKind.wrap .i64 ((m0 : Int) - 1))) ∧
 (((IntKind.wrap .i64 ((m0 : Int) - 1)) : Int) < (m0 : Int)) ∧
 aD B0 fun k1 k2 =>
 K (.pointer (some ⟨k1, (k2 + ((Int.toNat (IntKind.wrap .i64 ((m0 : Int) - 1))) * 11)), none⟩)) M)) :
 aa Tryz.prog 120 #[.slice B0 m0 c0] M K Kp := vw [] Tryz.func120 h
theorem mw {b0 o0 : Nat} {x1 : Int} (h :
aQ (decide ((x1 : Int) < 0))
 (K (.int .i64 0) M)
 (aC (Mem.ld M ⟨b0, (o0 + 4), none⟩) fun A1 k2 k3 =>
 aQ (decide ((x1 : Int) ≥ ((k2 : Nat) : Int)))
  (K (.int .i64 0) M)
  (aC (Mem.ld M ⟨b0, (o0 + 4), none⟩) fun A4 k5 k6 =>
  ((0 : Int) ≤ x1) ∧
  ((x1 : Int) < ((k5 : Nat) : Int)) ∧
  aD A4 fun k7 k8 =>
  cj (Mem.ld M ⟨k7, (k8 + (Int.toNat x1)), none⟩) fun A9 =>
  aD A9 fun eM ei =>
  aG (Mem.ld M ⟨eM, ei, none⟩) .i64 fun iy =>
  K (.int .i64 iy) M))) :
 aa Tryz.prog 65 ([.pointer (some ⟨b0, o0, none⟩), .int .i64 x1] : List Value).toArray M K Kp :=
 bX (C := Cx) good [] Tryz.func65 (by kernel_rfl) (by kernel_rfl) h
theorem qc {b0 o0 : Nat} (h :
rI M b0 (o0 + 11) fun n1 =>
rI M b0 (o0 + 12) fun n2 =>
K (.tuple #[(iV n1), (iV n2)]) M) :
 aa Tryz.prog 60 #[.pointer (some ⟨b0, o0, none⟩)] M K Kp := vw [(1, .bL [0, 1, 3, 7, 0, 16, 48, 112, 15, 511] (sy [0, 1, 2, 4, 5, 6, 3, 8, 7, 9] .done))] Tryz.func60 h
theorem oO {b0 o0 : Nat} (h :
aG (Mem.ld M ⟨b0, (o0 + 11), none⟩) .i64 fun n1 =>
aQ (n1 != 0)
 (K (.slice none 0 0) M)
 (aG (Mem.ld M ⟨b0, (o0 + 5), none⟩) .u64 fun n2 =>
 aF M ⟨b0, (o0 + 5), none⟩ (.int .u64 (IntKind.wrap .u64 (n2 + 1))) fun M3 =>
 aF M3 ⟨b0, (o0 + 13), none⟩ (.slice none 0 0) fun M4 =>
 aG (Mem.ld M4 ⟨b0, (o0 + 5), none⟩) .u64 fun n5 =>
 aa Tryz.prog 89 #[(.pointer (some ⟨b0, (o0 + 8), none⟩)), (.int .u64 n5)] M4 (fun v6 M7 =>
 aC (some v6) fun A8 k9 eM =>
 ∃ U5 : Nat → List Value → Mem → Prop, (∃ fO : Nat, U5 fO [(.int .i64 0)] M7) ∧
 ∀ dx : Nat, ∀ U6 : Nat → Value, ∀ jt : Int, ∀ eF : Mem, (U5 dx [(.int .i64 jt)] eF) → aQ (decide ((jt : Int) < ((k9 : Nat) : Int)))
  (((0 : Int) ≤ jt) ∧
  ((jt : Int) < ((k9 : Nat) : Int)) ∧
  aD A8 fun eG fV =>
  aG (Mem.ld eF ⟨eG, (fV + ((Int.toNat jt) * 3)), none⟩) .u64 fun zm =>
  aG (Mem.ld eF ⟨eG, ((fV + ((Int.toNat jt) * 3)) + 1), none⟩) .u64 fun hG =>
  aG (Mem.ld eF ⟨eG, ((fV + ((Int.toNat jt) * 3)) + 2), none⟩) .i64 fun qI =>
  bg eF (.cells #[(.int .u64 0), (.int .u64 0), (.int .i64 0)] 205 (0, 0)) fun gO l8 =>
  aF l8 ⟨gO, 0, none⟩ (.int .u64 zm) fun iS =>
  aF iS ⟨gO, (0 + 1), none⟩ (.int .u64 hG) fun Eh =>
  aF Eh ⟨gO, (0 + 2), none⟩ (.int .i64 qI) fun tZ =>
  aG (Mem.ld tZ ⟨gO, (0 + 2), none⟩) .i64 fun xE =>
  aa Tryz.prog 90 #[(.pointer (some ⟨b0, o0, none⟩)), (.int .i64 xE)] tZ (fun Ot mO =>
  (Ot = (.tuple #[])) ∧
  ∃ lF : Nat, (lF < dx) ∧
  U5 lF [(.int .i64 (IntKind.wrap .i64 (jt + 1)))] mO) Kp)
  (aC (Mem.ld eF ⟨b0, (o0 + 13), none⟩) fun RP w9 zo =>
  K (.slice RP w9 zo) eF)) Kp)) :
 aa Tryz.prog 43 ([.pointer (some ⟨b0, o0, none⟩)] : List Value).toArray M K Kp :=
 bX (C := Cx) good [(5, .bL [0, 1, 3, 0, 8, 24, 56, 127, 255, 0] (.step 0 (.step 1 (.step 2 (.step 3 (.step 4 (.step 5 (.step 9 (.step 6 (.step 7 (.step 8 .done))))))))))), (2000000, .loop [(29, .c (.int .i64))])] Tryz.func43 (by kernel_rfl) (by kernel_rfl) h
theorem qd {b0 o0 : Nat} (h :
bg M (cl [] 2) fun k1 M2 =>
rS M2 b0 (o0 + 10) fun A3 k4 k5 =>
aA 59 (some ⟨k1, 0, none⟩) 0 0 A3 k4 k5 M2 (fun v6 M7 =>
aC (some v6) fun A8 k9 eM =>
K (.slice A8 k9 eM) M7) Kp) :
 aa Tryz.prog 22 #[.pointer (some ⟨b0, o0, none⟩)] M K Kp := vw [] Tryz.func22 h
theorem vG {x0 : Int} {x1 : Int} (h :
bg M (cl [(iV x0), (iV 0), (iV x1), (iV 0), (iV 0), (iV 0), (iV 0), (iV 0), (iV 0), (iV 0), (iV 0)] 234) fun k1 M2 =>
K (.slice (some ⟨k1, 0, none⟩) 1 1) M2) :
 aa Tryz.prog 71 #[.int .i64 x0, .int .i64 x1] M K Kp := vw [] Tryz.func71 h
theorem zu  (h :
bg M (cl [(iV (-1)), (.slice none 0 0)] 238) fun k1 M2 =>
K (.pointer (some ⟨k1, 0, none⟩)) M2) :
 aa Tryz.prog 73 #[] M K Kp := vw [] Tryz.func73 h
theorem rG {b0 o0 : Nat} {x1 : Int} (h :
∃ I1 : Nat → List Value → Mem → Prop, (∃ k2 : Nat, I1 k2 [(.slice none 0 0)] M) ∧
∀ k3 : Nat, ∀ MX : Nat → Value, ∀ A5 : Option Addr, ∀ k6 : Nat, ∀ k7 : Nat, ∀ M8 : Mem, (I1 k3 [(.slice A5 k6 k7)] M8) → aC (Mem.ld M8 ⟨b0, o0, none⟩) fun A9 eM ei =>
aQ (decide ((((eM : Nat) : Int) : Int) > 0))
 (aC (Mem.ld M8 ⟨b0, o0, none⟩) fun w8 dx iB =>
 ((0 : Int) ≤ 0) ∧
 ((0 : Int) < ((dx : Nat) : Int)) ∧
 aD w8 fun gn fU =>
 aG (Mem.ld M8 ⟨gn, (fU + 0), none⟩) .u64 fun jY =>
 aQ (decide ((jY : Int) ≤ x1))
  (aa Tryz.prog 106 #[(.pointer (some ⟨b0, o0, none⟩)), (.int .i64 0)] M8 (fun CN jV =>
  ∃ hG : Int, ∃ qI : Int, ∃ ux : Int, (CN = (.agg #[(.int .u64 hG), (.int .u64 qI), (.int .i64 ux)])) ∧
  bg jV (.cells #[(.int .u64 hG), (.int .u64 qI), (.int .i64 ux)] 205 (0, 0)) fun ji iS =>
  aZ Tryz.prog (Go.Builtin.append_ #[65, 65] 65 #[(.slice A5 k6 k7), (.slice (some ⟨ji, 0, none⟩) 1 1)]) iS (fun Ow tZ =>
  aC (some Ow) fun Ox sZ tU =>
  ∃ lF : Nat, (lF < k3) ∧
  I1 lF [(.slice Ox sZ tU)] tZ) Kp) Kp)
  (K (.slice A5 k6 k7) M8))
 (K (.slice A5 k6 k7) M8)) :
 aa Tryz.prog 89 ([.pointer (some ⟨b0, o0, none⟩), .int .u64 x1] : List Value).toArray M K Kp :=
 bX (C := Cx) good [(2000000, .loop [(5, .c .sl)])] Tryz.func89 (by kernel_rfl) (by kernel_rfl) h
theorem oP {b0 o0 : Nat} {x1 : Int} (h :
rS M b0 (o0 + 4) fun A1 k2 k3 =>
((0 : Int) ≤ x1) ∧
((x1 : Int) < k2) ∧
aD A1 fun k4 k5 =>
rP M k4 (k5 + (Int.toNat x1)) fun A6 =>
aD A6 fun k7 k8 =>
sT M k7 k8 (iV 1) fun M9 =>
rS M9 b0 (o0 + 13) fun Cc ei fO =>
bg M9 (cl [(iV x1)] 3) fun dx ox =>
aA 38 Cc ei fO (some ⟨dx, 0, none⟩) 1 1 ox (fun CV eF =>
aC (some CV) fun Kk fV iw =>
sT eF b0 (o0 + 13) (.slice Kk fV iw) fun rm =>
K (.tuple #[]) rm) Kp) :
 aa Tryz.prog 90 #[.pointer (some ⟨b0, o0, none⟩), .int .i64 x1] M K Kp := vw [] Tryz.func90 h
theorem oQ {b0 o0 : Nat} {cK : Int} {cL : Int} {cN : Int} {fu : Int} (h :
bg M (cl [(iV cK), (iV cL), (iV cN), (iV fu)] 34) fun k1 M2 =>
rI M2 k1 0 fun n3 =>
aa Tryz.prog 153 #[] M2 (fun v4 M5 =>
eI M5 k1 0 n3 ∧
aZ Tryz.prog (Go.Instr.lookup 302 v4 (iV n3) true) M5 (fun v6 M7 =>
∃ v8 : Value, ∃ t9 : Bool, (v6 = (.tuple #[v8, (.bool t9)])) ∧
eI M7 k1 0 n3 ∧
aQ t9
 (rI M7 b0 (o0 + 1) fun jX =>
 sT M7 b0 (o0 + 1) (iV (IntKind.wrap .i64 (jX + 1))) fun jG =>
 jg jG k1 0 fun iy ju mj jt =>
 gy Cx v8 [(.pointer (some ⟨b0, o0, none⟩)), (.agg #[(iV iy), (iV ju), (iV mj), (iV jt)])] jG (fun K4 oN =>
 (K4 = (.tuple #[])) ∧
 K (.bool t9) oN) Kp)
 (K (.bool t9) M7)) Kp) Kp) :
 aa Tryz.prog 121 #[.pointer (some ⟨b0, o0, none⟩), .agg #[.int .i64 cK, .int .i64 cL, .int .i64 cN, .int .i64 fu]] M K Kp := vw [(1, .bL [0, 0, 2, 7, 15, 31, 31, 63, 255] (sy [1] (.fK 2 (sy [0, 3, 4, 5, 6, 7, 8] .done))))] Tryz.func121 h
theorem my {b0 o0 : Nat} {x1 : Int} {b2 o2 : Nat} {dX : Int} {dY : Int} {dZ : Int} {ee : Int} (h :
bg M (cl [(iV dX), (iV dY), (iV dZ), (iV ee)] 34) fun k1 M2 =>
jg M2 k1 0 fun n3 n4 n5 n6 =>
aa Tryz.prog 154 #[(.pointer (some ⟨b0, o0, none⟩)), (.agg #[(iV n3), (iV n4), (iV n5), (iV n6)])] M2 (fun v7 M8 =>
aC (some v7) fun A9 eM ei =>
rS M8 b0 (o0 + 6) fun w8 dx iB =>
aa Tryz.prog 155 #[(.slice A9 eM ei), (.slice w8 dx iB)] M8 (fun CV eF =>
aC (some CV) fun Kk fV iw =>
aQ ((fV : Int) == 0)
 (rI eF b2 (o2 + 1) fun hG =>
 sT eF b2 (o2 + 1) (iV (IntKind.wrap .i64 (hG + 1))) fun tS =>
 aa Tryz.prog 156 #[(.slice A9 eM ei)] tS (fun FF l8 =>
 ∃ z9 : Int, ∃ t25 : Bool, (FF = (.tuple #[(iV z9), (.bool t25)])) ∧
 aQ t25
 (rI l8 k1 3 fun rH =>
 (0 ≤ rH) ∧
 (rH < 8) ∧
 sT l8 b2 ((o2 + 2) + (Int.toNat rH)) (iV z9) fun tV =>
 K (.tuple #[]) tV)
 (((0 : Int) ≤ 8) ∧
 ((8 : Int) ≤ 8) ∧
 ((0 : Int) ≤ 8) ∧
 ((8 : Int) ≤ 8) ∧
 ((0 : Int) ≤ 0) ∧
 ((0 : Int) ≤ 8) ∧
 rS l8 b0 (o0 + 6) fun FG tU lF =>
 aa Tryz.prog 157 #[(iV x1), (.slice A9 eM ei), (.slice (kU (some ⟨b2, (o2 + 2), none⟩) 0 8 1) 8 8), (.slice FG tU lF)] l8 (fun Oi pK =>
 (Oi = (.tuple #[])) ∧
 jg pK k1 0 fun Ee Oy GS xF =>
 aa Tryz.prog 158 #[(.pointer (some ⟨b0, o0, none⟩)), (iV x1), (.agg #[(iV Ee), (iV Oy), (iV GS), (iV xF)])] pK (fun U7 kV =>
 (U7 = (.tuple #[])) ∧
 K (.tuple #[]) kV) Kp) Kp)) Kp)
 (eU (Mem.ld eF ⟨b0, (o0 + 14), none⟩) fun v39 =>
 gy Cx v39 [(iV 3), (iV (fV : Int))] eF (fun K5 Be =>
 aG (some K5) .i64 fun RQ =>
 (0 ≤ RQ) ∧
 (RQ < fV) ∧
 aD Kk fun w7 Oj =>
 rI Be w7 (Oj + (Int.toNat RQ)) fun FI =>
 rI Be b2 (o2 + 1) fun Io =>
 sT Be b2 (o2 + 1) (iV (IntKind.wrap .i64 (Io + 1))) fun vH =>
 (0 ≤ FI) ∧
 (FI < eM) ∧
 aD A9 fun QF K6 =>
 m8 vH QF (K6 + ((Int.toNat FI) * 3)) fun Oz Ip U8 =>
 bg vH ou fun rj GO =>
 HS GO rj (iV Oz) (iV Ip) (iV U8) fun Ia =>
 rI Ia rj 0 fun Ib =>
 aQ (Ib == 1)
 (rI Ia rj 1 fun FD =>
 rI Ia rj 2 fun KW =>
 (0 ≤ KW) ∧
 (KW < 8) ∧
 rI Ia b2 ((o2 + 2) + (Int.toNat KW)) fun Ie =>
 aa Tryz.prog 159 #[(.pointer (some ⟨b0, o0, none⟩)), (iV FD), (iV Ie)] Ia (fun OA zk =>
 c6 (some OA) fun t64 =>
 rI zk k1 3 fun yo =>
 (0 ≤ yo) ∧
 (yo < 8) ∧
 sT zk b2 ((o2 + 2) + (Int.toNat yo)) (iV FI) fun QG =>
 K (.tuple #[]) QG) Kp)
 (rI Ia rj 1 fun QH =>
 rI Ia rj 2 fun K7 =>
 aa Tryz.prog 160 #[(.pointer (some ⟨b0, o0, none⟩)), (iV QH)] Ia (fun U9 Cf =>
 ∃ TK RR : Int, ∃ t73 : Bool, (U9 = (.tuple #[(iV TK), (iV RR), (.bool t73)])) ∧
 eI Cf rj 2 K7 ∧
 (0 ≤ K7) ∧
 (K7 < 8) ∧
 sT Cf b2 ((o2 + 2) + (Int.toNat K7)) (iV TK) fun Bf =>
 eI Bf rj 2 K7 ∧
 rI Bf k1 3 fun KY =>
 (0 ≤ KY) ∧
 (KY < 8) ∧
 sT Bf b2 ((o2 + 2) + (Int.toNat KY)) (iV FI) fun Va =>
 K (.tuple #[]) Va) Kp)) Kp)) Kp) Kp) :
 aa Tryz.prog 122 #[.pointer (some ⟨b0, o0, none⟩), .int .i64 x1, .pointer (some ⟨b2, o2, none⟩), .agg #[.int .i64 dX, .int .i64 dY, .int .i64 dZ, .int .i64 ee]] M K Kp := vw [(7, .bL [0, 0, 2, 0, 1, 17, 63, 127] (sy [0, 1, 3, 4, 5, 2, 6, 7] .done)), (8, .bL [0, 0, 0, 4, 12, 28, 0, 64, 192, 448, 1023] (sy [0, 1, 2, 3, 4, 5, 6, 7, 8, 9, 10] .done)), (14, .bL [0, 0, 2, 0, 0, 16, 8, 72, 248, 504, 1023] (sy [0, 1, 3, 4, 6, 7, 2, 5, 8, 9, 10] .done)), (15, .bL [0, 0, 2, 0, 0, 16, 56, 120, 248, 248, 248, 1, 2049, 6655, 14847] (sy [0, 1, 3, 4, 11, 12, 5] (.fK 2 (sy [6, 7, 8, 9, 10, 13, 14] .done)))), (16, .bL [0, 0, 2, 0, 1, 17, 63, 127] (sy [0, 1, 3, 4, 5, 2, 6, 7] .done))] Tryz.func122 h
theorem oR {b0 o0 : Nat} {x1 : Int} {b2 o2 : Nat} {dX : Int} {dY : Int} {dZ : Int} {ee : Int} (h :
bg M (cl [(iV dX), (iV dY), (iV dZ), (iV ee)] 34) fun k1 M2 =>
eU (Mem.ld M2 ⟨b0, (o0 + 14), none⟩) fun v3 =>
rI M2 k1 2 fun n4 =>
gy Cx v3 [(iV 4), (iV n4)] M2 (fun v5 M6 =>
aG (some v5) .i64 fun n7 =>
rI M6 b2 (o2 + 1) fun n8 =>
sT M6 b2 (o2 + 1) (iV (IntKind.wrap .i64 (n8 + 1))) fun M9 =>
rI M9 k1 1 fun jX =>
(0 ≤ jX) ∧
(jX < 8) ∧
sT M9 b2 ((o2 + 2) + (Int.toNat jX)) (iV n7) fun jG =>
K (.tuple #[]) jG) Kp) :
 aa Tryz.prog 123 #[.pointer (some ⟨b0, o0, none⟩), .int .i64 x1, .pointer (some ⟨b2, o2, none⟩), .agg #[.int .i64 dX, .int .i64 dY, .int .i64 dZ, .int .i64 ee]] M K Kp := vw [(1, .bL [0, 1, 3, 7, 0, 16, 63, 127] (sy [0, 1, 2, 4, 3, 5, 6, 7] .done)), (3, .bL [0, 0, 2, 0, 1, 17, 63, 127] (sy [0, 1, 3, 4, 5, 2, 6, 7] .done))] Tryz.func123 h
theorem vI  (h :
bg M (.map #[] 0) fun k1 M2 =>
bD Tryz.prog (Go.Instr.mapUpdate 261 (.map (some k1)) (iV 9) (.func (.func 161) #[] #[])) M2 (fun M3 =>
bD Tryz.prog (Go.Instr.mapUpdate 261 (.map (some k1)) (iV 10) (.func (.func 162) #[] #[])) M3 (fun M4 =>
bD Tryz.prog (Go.Instr.mapUpdate 261 (.map (some k1)) (iV 11) (.func (.func 163) #[] #[])) M4 (fun M5 =>
bD Tryz.prog (Go.Instr.mapUpdate 261 (.map (some k1)) (iV 12) (.func (.func 164) #[] #[])) M5 (fun M6 =>
bD Tryz.prog (Go.Instr.mapUpdate 261 (.map (some k1)) (iV 13) (.func (.func 165) #[] #[])) M6 (fun M7 =>
bD Tryz.prog (Go.Instr.mapUpdate 261 (.map (some k1)) (iV 14) (.func (.func 166) #[] #[])) M7 (fun M8 =>
bD Tryz.prog (Go.Instr.mapUpdate 261 (.map (some k1)) (iV 15) (.func (.func 167) #[] #[])) M8 (fun M9 =>
bD Tryz.prog (Go.Instr.mapUpdate 261 (.map (some k1)) (iV 17) (.func (.func 168) #[] #[])) M9 (fun js =>
bD Tryz.prog (Go.Instr.mapUpdate 261 (.map (some k1)) (iV 18) (.func (.func 169) #[] #[])) js (fun jG =>
bD Tryz.prog (Go.Instr.mapUpdate 261 (.map (some k1)) (iV 19) (.func (.func 170) #[] #[])) jG (fun sw =>
bD Tryz.prog (Go.Instr.mapUpdate 261 (.map (some k1)) (iV 20) (.func (.func 171) #[] #[])) sw (fun ku =>
bD Tryz.prog (Go.Instr.mapUpdate 261 (.map (some k1)) (iV 22) (.func (.func 172) #[] #[])) ku (fun ox =>
K (.map (some k1)) ox) Kp) Kp) Kp) Kp) Kp) Kp) Kp) Kp) Kp) Kp) Kp) Kp) :
 aa Tryz.prog 124 #[] M K Kp := vw [] Tryz.func124 h
theorem oS {b0 o0 : Nat} {x1 : Int} (h :
bg M (.cells #[(.int .u64 0), (.int .u64 0), (.int .i64 0)] 205 (0, 0)) fun k1 M2 =>
aC (Mem.ld M2 ⟨b0, o0, none⟩) fun A3 k4 k5 =>
((0 : Int) ≤ x1) ∧
((x1 : Int) < ((k4 : Nat) : Int)) ∧
aD A3 fun k6 k7 =>
aG (Mem.ld M2 ⟨k6, (k7 + ((Int.toNat x1) * 3)), none⟩) .u64 fun n8 =>
aG (Mem.ld M2 ⟨k6, ((k7 + ((Int.toNat x1) * 3)) + 1), none⟩) .u64 fun n9 =>
aG (Mem.ld M2 ⟨k6, ((k7 + ((Int.toNat x1) * 3)) + 2), none⟩) .i64 fun jX =>
bg M2 (.cells #[(.int .u64 0), (.int .u64 0), (.int .i64 0)] 205 (0, 0)) fun ei sw =>
aF sw ⟨ei, 0, none⟩ (.int .u64 n8) fun ku =>
aF ku ⟨ei, (0 + 1), none⟩ (.int .u64 n9) fun ox =>
aF ox ⟨ei, (0 + 2), none⟩ (.int .i64 jX) fun uz =>
aC (Mem.ld uz ⟨b0, o0, none⟩) fun QI eG fV =>
aa Tryz.prog 136 #[(.pointer (some ⟨b0, o0, none⟩)), (.int .i64 x1), (.int .i64 (IntKind.wrap .i64 (((eG : Nat) : Int) - 1)))] uz (fun K8 rm =>
(K8 = (.tuple #[])) ∧
aC (Mem.ld rm ⟨b0, o0, none⟩) fun xA gO ji =>
((0 : Int) ≤ ((ji : Nat) : Int)) ∧
((((ji : Nat) : Int) : Int) ≤ ((ji : Nat) : Int)) ∧
((0 : Int) ≤ (IntKind.wrap .i64 (((eG : Nat) : Int) - 1))) ∧
(((IntKind.wrap .i64 (((eG : Nat) : Int) - 1)) : Int) ≤ ((ji : Nat) : Int)) ∧
((0 : Int) ≤ 0) ∧
((0 : Int) ≤ (IntKind.wrap .i64 (((eG : Nat) : Int) - 1))) ∧
aF rm ⟨b0, o0, none⟩ (.slice (kU xA 0 (Int.toNat ((ji : Nat) : Int)) 3) ((Int.toNat (IntKind.wrap .i64 (((eG : Nat) : Int) - 1))) - 0) ((Int.toNat ((ji : Nat) : Int)) - 0)) fun iS =>
aQ (decide ((x1 : Int) < (IntKind.wrap .i64 (((eG : Nat) : Int) - 1))))
 (aa Tryz.prog 137 #[(.pointer (some ⟨b0, o0, none⟩)), (.int .i64 x1)] iS (fun Ow tZ =>
 (Ow = (.tuple #[])) ∧
 aa Tryz.prog 138 #[(.pointer (some ⟨b0, o0, none⟩)), (.int .i64 x1)] tZ (fun Ij zZ =>
 (Ij = (.tuple #[])) ∧
 aG (Mem.ld zZ ⟨ei, 0, none⟩) .u64 fun AY =>
 aG (Mem.ld zZ ⟨ei, (0 + 1), none⟩) .u64 fun Cg =>
 aG (Mem.ld zZ ⟨ei, (0 + 2), none⟩) .i64 fun uS =>
 aF zZ ⟨k1, 0, none⟩ (.int .u64 AY) fun pK =>
 aF pK ⟨k1, (0 + 1), none⟩ (.int .u64 Cg) fun Cd =>
 aF Cd ⟨k1, (0 + 2), none⟩ (.int .i64 uS) fun sB =>
 aG (Mem.ld sB ⟨k1, 0, none⟩) .u64 fun GS =>
 aG (Mem.ld sB ⟨k1, (0 + 1), none⟩) .u64 fun xF =>
 aG (Mem.ld sB ⟨k1, (0 + 2), none⟩) .i64 fun Of =>
 K (.agg #[(.int .u64 GS), (.int .u64 xF), (.int .i64 Of)]) sB) Kp) Kp)
 (aG (Mem.ld iS ⟨ei, 0, none⟩) .u64 fun FC =>
 aG (Mem.ld iS ⟨ei, (0 + 1), none⟩) .u64 fun GM =>
 aG (Mem.ld iS ⟨ei, (0 + 2), none⟩) .i64 fun MY =>
 aF iS ⟨k1, 0, none⟩ (.int .u64 FC) fun Be =>
 aF Be ⟨k1, (0 + 1), none⟩ (.int .u64 GM) fun FJ =>
 aF FJ ⟨k1, (0 + 2), none⟩ (.int .i64 MY) fun xd =>
 aG (Mem.ld xd ⟨k1, 0, none⟩) .u64 fun FK =>
 aG (Mem.ld xd ⟨k1, (0 + 1), none⟩) .u64 fun FI =>
 aG (Mem.ld xd ⟨k1, (0 + 2), none⟩) .i64 fun Io =>
 K (.agg #[(.int .u64 FK), (.int .u64 FI), (.int .i64 Io)]) xd)) Kp) :
 aa Tryz.prog 106 ([.pointer (some ⟨b0, o0, none⟩), .int .i64 x1] : List Value).toArray M K Kp :=
 bX (C := Cx) good [] Tryz.func106 (by kernel_rfl) (by kernel_rfl) h
theorem vJ  (h :
bg M (.map #[] 0) fun k1 M2 =>
bD Tryz.prog (Go.Instr.mapUpdate 302 (.map (some k1)) (iV 0) (.func (.func 195) #[] #[])) M2 (fun M3 =>
bD Tryz.prog (Go.Instr.mapUpdate 302 (.map (some k1)) (iV 1) (.func (.func 196) #[] #[])) M3 (fun M4 =>
bD Tryz.prog (Go.Instr.mapUpdate 302 (.map (some k1)) (iV 2) (.func (.func 197) #[] #[])) M4 (fun M5 =>
bD Tryz.prog (Go.Instr.mapUpdate 302 (.map (some k1)) (iV 3) (.func (.func 198) #[] #[])) M5 (fun M6 =>
bD Tryz.prog (Go.Instr.mapUpdate 302 (.map (some k1)) (iV 4) (.func (.func 199) #[] #[])) M6 (fun M7 =>
bD Tryz.prog (Go.Instr.mapUpdate 302 (.map (some k1)) (iV 5) (.func (.func 200) #[] #[])) M7 (fun M8 =>
bD Tryz.prog (Go.Instr.mapUpdate 302 (.map (some k1)) (iV 6) (.func (.func 201) #[] #[])) M8 (fun M9 =>
bD Tryz.prog (Go.Instr.mapUpdate 302 (.map (some k1)) (iV 7) (.func (.func 202) #[] #[])) M9 (fun js =>
bD Tryz.prog (Go.Instr.mapUpdate 302 (.map (some k1)) (iV 8) (.func (.func 203) #[] #[])) js (fun jG =>
K (.map (some k1)) jG) Kp) Kp) Kp) Kp) Kp) Kp) Kp) Kp) Kp) :
 aa Tryz.prog 153 #[] M K Kp := vw [] Tryz.func153 h
theorem nk {b0 o0 : Nat} {cK : Int} {cL : Int} {cN : Int} {fu : Int} (h :
bg M (cl [(iV cK), (iV cL), (iV cN), (iV fu)] 34) fun k1 M2 =>
rS M2 b0 (o0 + 3) fun A3 k4 k5 =>
rI M2 k1 1 fun n6 =>
rI M2 k1 1 fun n7 =>
rI M2 k1 2 fun n8 =>
((0 : Int) ≤ k5) ∧
((k5 : Int) ≤ k5) ∧
((0 : Int) ≤ (IntKind.wrap .i64 (n7 + n8))) ∧
(((IntKind.wrap .i64 (n7 + n8)) : Int) ≤ (k5 : Int)) ∧
(0 ≤ n6) ∧
((n6 : Int) ≤ (IntKind.wrap .i64 (n7 + n8))) ∧
K (.slice (kU A3 (Int.toNat n6) (Int.toNat (k5 : Int)) 3) ((Int.toNat (IntKind.wrap .i64 (n7 + n8))) - (Int.toNat n6)) ((Int.toNat (k5 : Int)) - (Int.toNat n6))) M2) :
 aa Tryz.prog 154 #[.pointer (some ⟨b0, o0, none⟩), .agg #[.int .i64 cK, .int .i64 cL, .int .i64 cN, .int .i64 fu]] M K Kp := vw [(1, .bL [0, 1, 3, 7, 15, 0, 32, 0, 128, 0, 512, 1920, 4095, 8191] (sy [0, 1, 2, 3, 5, 7, 9, 4, 6, 8, 10, 11, 12, 13] .done))] Tryz.func154 h
theorem nm {b0 o0 : Nat} {x1 : Int} {Iq : Int} {Ir : Int} {Is : Int} {It : Int} (h :
bg M (cl [(iV Iq), (iV Ir), (iV Is), (iV It)] 34) fun k1 M2 =>
rS M2 b0 (o0 + 4) fun A3 k4 k5 =>
((0 : Int) ≤ x1) ∧
((x1 : Int) < k4) ∧
aD A3 fun k6 k7 =>
rP M2 k6 (k7 + (Int.toNat x1)) fun A8 =>
rS M2 b0 (o0 + 4) fun A9 eM ei =>
((0 : Int) ≤ x1) ∧
((x1 : Int) < eM) ∧
aD A9 fun fO dx =>
rP M2 fO (dx + (Int.toNat x1)) fun mP =>
aD A8 fun gn fU =>
jg M2 k1 0 fun jY mu zm hG =>
sT M2 gn fU (iV 2) fun tS =>
((Mem.gh tS ⟨k1, 0, none⟩ 0 4) = some [(iV jY), (iV mu), (iV zm), (iV hG)]) ∧
aD mP fun gO ji =>
sT tS gO (ji + 2) (iV jY) fun iS =>
sT iS gO ((ji + 2) + 1) (iV mu) fun Eh =>
sT Eh gO ((ji + 2) + 2) (iV zm) fun tZ =>
sT tZ gO ((ji + 2) + 3) (iV hG) fun tV =>
((Mem.gh tV ⟨k1, 0, none⟩ 0 4) = some [(iV jY), (iV mu), (iV zm), (iV hG)]) ∧
K (.tuple #[]) tV) :
 aa Tryz.prog 158 #[.pointer (some ⟨b0, o0, none⟩), .int .i64 x1, .agg #[.int .i64 Iq, .int .i64 Ir, .int .i64 Is, .int .i64 It]] M K Kp := vw [(1, .bL [0, 1, 3, 7, 0, 31, 63, 0, 128, 384, 896, 0, 3968, 8064, 0, 16383, 49151, 114687, 262143, 524287, 1048575] (sy [0, 1, 2, 4, 7, 8, 9, 11, 3, 5, 6, 10, 12, 13, 15, 16] (.fK 14 (sy [17, 18, 19, 20] .done))))] Tryz.func158 h
theorem qe {b0 o0 : Nat} {x1 : Int} {x2 : Int} (h :
rS M b0 (o0 + 6) fun A1 k2 k3 =>
((0 : Int) ≤ x1) ∧
((x1 : Int) < k2) ∧
aD A1 fun k4 k5 =>
rP M k4 (k5 + (Int.toNat x1)) fun A6 =>
aa Tryz.prog 207 #[(.pointer A6), (iV x2)] M (fun v7 M8 =>
∃ n9 jX gQ : Int, ∃ t12 : Bool, ∃ ju : Int, (v7 = (.tuple #[(.agg #[(iV n9), (iV jX), (iV gQ)]), (.bool t12), (iV ju)])) ∧
bg M8 iR fun iB uz =>
HS uz iB (iV n9) (iV jX) (iV gQ) fun pZ =>
aQ (ju == 10)
 (Kp [{ v := (.iface 256 (iV (-1))), recovered := false }] pZ)
 (aQ t12
 (rI pZ iB 0 fun zm =>
 rI pZ iB 1 fun hG =>
 rI pZ iB 2 fun qI =>
 aa Tryz.prog 208 #[(.pointer (some ⟨b0, o0, none⟩)), (.agg #[(iV zm), (iV hG), (iV qI)]), (iV 1)] pZ (fun FF l8 =>
 (FF = (.tuple #[])) ∧
 K (.bool (ju == 0)) l8) Kp)
 (K (.bool (ju == 0)) pZ))) Kp) :
 aa Tryz.prog 159 #[.pointer (some ⟨b0, o0, none⟩), .int .i64 x1, .int .i64 x2] M K Kp := vw [] Tryz.func159 h
theorem qf {b0 o0 : Nat} {x1 : Int} (h :
rS M b0 (o0 + 6) fun A1 k2 k3 =>
((0 : Int) ≤ x1) ∧
((x1 : Int) < k2) ∧
aD A1 fun k4 k5 =>
rP M k4 (k5 + (Int.toNat x1)) fun A6 =>
aa Tryz.prog 209 #[(.pointer A6)] M (fun v7 M8 =>
∃ n9 : Int, ∃ t10 : Bool, ∃ gQ iy ju : Int, ∃ t14 : Bool, ∃ jt : Int, (v7 = (.tuple #[(.agg #[(iV n9), (.bool t10), (iV gQ), (iV iy), (iV ju), (.bool t14)]), (iV jt)])) ∧
bg M8 lC fun fU oN =>
TD oN fU (iV n9) (.bool t10) (iV gQ) (iV iy) (iV ju) (.bool t14) fun l8 =>
rB l8 fU 5 fun t24 =>
aQ t24
 (rI l8 fU 2 fun sY =>
 rI l8 fU (2 + 1) fun rH =>
 rI l8 fU (2 + 2) fun xE =>
 aa Tryz.prog 210 #[(.pointer (some ⟨b0, o0, none⟩)), (.agg #[(iV sY), (iV rH), (iV xE)])] l8 (fun Ot mO =>
 (Ot = (.tuple #[])) ∧
 rB mO fU 1 fun t30 =>
 aQ t30
 (rI mO fU 0 fun uS =>
 K (.tuple #[(iV uS), (iV 1), (.bool true)]) mO)
 (K (.tuple #[(iV 0), (iV 0), (.bool (jt == 0))]) mO)) Kp)
 (rB l8 fU 1 fun t32 =>
 aQ t32
 (rI l8 fU 0 fun Ee =>
 K (.tuple #[(iV Ee), (iV 1), (.bool true)]) l8)
 (K (.tuple #[(iV 0), (iV 0), (.bool (jt == 0))]) l8))) Kp) :
 aa Tryz.prog 160 #[.pointer (some ⟨b0, o0, none⟩), .int .i64 x1] M K Kp := vw [] Tryz.func160 h
theorem oT {b0 o0 : Nat} {x1 : Int} {b2 o2 : Nat} {dX : Int} {dY : Int} {dZ : Int} {ee : Int} (h :
bg M (cl [(iV dX), (iV dY), (iV dZ), (iV ee)] 34) fun k1 M2 =>
rS M2 b0 (o0 + 4) fun A3 k4 k5 =>
((0 : Int) ≤ x1) ∧
((x1 : Int) < k4) ∧
aD A3 fun k6 k7 =>
rP M2 k6 (k7 + (Int.toNat x1)) fun A8 =>
aD A8 fun k9 eM =>
rS M2 k9 (eM + 1) fun Iu fO dx =>
rI M2 k1 1 fun mj =>
rI M2 k1 2 fun jt =>
(0 ≤ jt) ∧
(jt < 8) ∧
rI M2 b2 ((o2 + 2) + (Int.toNat jt)) fun oy =>
rI M2 k1 3 fun jY =>
aa Tryz.prog 211 #[(.slice Iu fO dx), (iV mj), (iV oy), (iV jY)] M2 (fun CN jV =>
∃ TL : Option Addr, ∃ eY gO : Nat, ∃ t23 : Bool, (CN = (.tuple #[(.slice TL eY gO), (.bool t23)])) ∧
aQ (!t23)
 (Kp [{ v := (.iface 256 (iV (-4))), recovered := false }] jV)
 (rS jV b0 (o0 + 4) fun K2 uR rq =>
 ((0 : Int) ≤ x1) ∧
 ((x1 : Int) < uR) ∧
 aD K2 fun zl sZ =>
 rP jV zl (sZ + (Int.toNat x1)) fun GR =>
 aD GR fun lF pL =>
 sT jV lF (pL + 1) (.slice TL eY gO) fun pK =>
 K (.tuple #[]) pK)) Kp) :
 aa Tryz.prog 161 #[.pointer (some ⟨b0, o0, none⟩), .int .i64 x1, .pointer (some ⟨b2, o2, none⟩), .agg #[.int .i64 dX, .int .i64 dY, .int .i64 dZ, .int .i64 ee]] M K Kp := vw [(1, .bL [0, 1, 3, 7, 0, 31, 63, 127, 255, 511, 0, 1024, 0, 0, 8192, 4096, 36864, 126976, 258048, 0, 524288, 2097151, 4194303, 8388607, 8388607, 16777215, 67108863] (sy [0, 1, 2, 4, 10, 12, 13, 15, 16, 19, 3, 5, 6, 7, 8, 9, 11, 14, 17, 18, 20, 21, 22, 23, 24, 25, 26] .done))] Tryz.func161 h
theorem oU {b0 o0 : Nat} {x1 : Int} {b2 o2 : Nat} {dX : Int} {dY : Int} {dZ : Int} {ee : Int} (h :
bg M (cl [(iV dX), (iV dY), (iV dZ), (iV ee)] 34) fun k1 M2 =>
rS M2 b0 (o0 + 4) fun A3 k4 k5 =>
((0 : Int) ≤ x1) ∧
((x1 : Int) < k4) ∧
aD A3 fun k6 k7 =>
rP M2 k6 (k7 + (Int.toNat x1)) fun A8 =>
aD A8 fun k9 eM =>
rS M2 k9 (eM + 1) fun Iu fO dx =>
rI M2 k1 1 fun mj =>
(0 ≤ mj) ∧
(mj < 8) ∧
rI M2 b2 ((o2 + 2) + (Int.toNat mj)) fun jt =>
aa Tryz.prog 212 #[(.slice Iu fO dx), (iV jt)] M2 (fun K4 oN =>
∃ Em : Option Addr, ∃ iw jy : Nat, ∃ t21 : Bool, (K4 = (.tuple #[(.slice Em iw jy), (.bool t21)])) ∧
aQ t21
 (rS oN b0 (o0 + 4) fun Vb ji sS =>
 ((0 : Int) ≤ x1) ∧
 ((x1 : Int) < ji) ∧
 aD Vb fun uR rq =>
 rP oN uR (rq + (Int.toNat x1)) fun Ox =>
 aD Ox fun sZ tU =>
 sT oN sZ (tU + 1) (.slice Em iw jy) fun vA =>
 K (.tuple #[]) vA)
 (rS oN b0 (o0 + 4) fun RP w9 zo =>
 ((0 : Int) ≤ x1) ∧
 ((x1 : Int) < w9) ∧
 aD RP fun yp w6 =>
 rP oN yp (w6 + (Int.toNat x1)) fun MZ =>
 aD MZ fun xe ia =>
 sT oN xe ia (iV 4) fun TM =>
 aQ (x1 == 0)
 (sT TM b0 (o0 + 11) (iV 1) fun OB =>
 K (.tuple #[]) OB)
 (K (.tuple #[]) TM))) Kp) :
 aa Tryz.prog 162 #[.pointer (some ⟨b0, o0, none⟩), .int .i64 x1, .pointer (some ⟨b2, o2, none⟩), .agg #[.int .i64 dX, .int .i64 dY, .int .i64 dZ, .int .i64 ee]] M K Kp := vw [(1, .bL [0, 1, 3, 7, 0, 31, 63, 127, 255, 511, 0, 0, 2048, 1024, 9216, 31744, 64512, 131071, 262143, 524287, 524287, 1048575, 4194303] (sy [0, 1, 2, 4, 10, 11, 13, 14, 3, 5, 6, 7, 8, 9, 12, 15, 16, 17, 18, 19, 20, 21, 22] .done))] Tryz.func162 h
theorem nq {b0 o0 : Nat} {x1 : Int} {b2 o2 : Nat} {dX : Int} {dY : Int} {dZ : Int} {ee : Int} (h :
bg M (cl [(iV dX), (iV dY), (iV dZ), (iV ee)] 34) fun k1 M2 =>
rS M2 b0 (o0 + 4) fun A3 k4 k5 =>
aQ (decide ((k4 : Int) ≥ 100))
 (Kp [{ v := (.iface 256 (iV (-5))), recovered := false }] M2)
 (rS M2 b0 (o0 + 4) fun A6 k7 k8 =>
 ∃ J9 : List Value → Mem → Prop, (rI M2 k1 1 fun jX =>
 rI M2 k1 2 fun gQ =>
 (0 ≤ gQ) ∧
 (gQ < 8) ∧
 rI M2 b2 ((o2 + 2) + (Int.toNat gQ)) fun iy =>
 (rS M2 b0 (o0 + 4) fun Kj iB gn =>
 aa Tryz.prog 71 #[(iV jX), (iV iy)] M2 (fun K4 oN =>
 aC (some K4) fun Em iw jy =>
 bg oN (cl [(iV 0), (.slice Em iw jy), (iV 0), (iV 0), (iV 0), (iV 0)] 182) fun eY oL =>
 bg oL (cl [(.pointer (some ⟨eY, 0, none⟩))] 177) fun ji iS =>
 aA 158 Kj iB gn (some ⟨ji, 0, none⟩) 1 1 iS (fun Ow tZ =>
 aC (some Ow) fun Ox sZ tU =>
 sT tZ b0 (o0 + 4) (.slice Ox sZ tU) fun vA =>
 J9 [] vA) Kp) Kp) ∧
 (aa Tryz.prog 71 #[(iV jX), (iV iy)] M2 (fun Oi pK =>
 aC (some Oi) fun Ic yp w6 =>
 rS pK b0 (o0 + 4) fun MZ xe ia =>
 bg pK (cl [(iV 0), (.slice Ic yp w6), (iV 0), (iV 0), (iV 0), (iV 0)] 182) fun vK OB =>
 bg OB (cl [(.pointer (some ⟨vK, 0, none⟩))] 177) fun KT FJ =>
 aA 158 MZ xe ia (some ⟨KT, 0, none⟩) 1 1 FJ (fun v43 xG =>
 aC (some v43) fun A45 KV RH =>
 sT xG b0 (o0 + 4) (.slice A45 KV RH) fun QB =>
 J9 [] QB) Kp) Kp) ∧
 True) ∧
 ∀ Vc : Nat → Value, ∀ w5 : Mem, (J9 [] w5) → aa Tryz.prog 90 #[(.pointer (some ⟨b0, o0, none⟩)), (iV (k7 : Int))] w5 (fun Vd OC =>
 (Vd = (.tuple #[])) ∧
 rI OC k1 3 fun RT =>
 (0 ≤ RT) ∧
 (RT < 8) ∧
 sT OC b2 ((o2 + 2) + (Int.toNat RT)) (iV (k7 : Int)) fun GO =>
 K (.tuple #[]) GO) Kp)) :
 aa Tryz.prog 163 #[.pointer (some ⟨b0, o0, none⟩), .int .i64 x1, .pointer (some ⟨b2, o2, none⟩), .agg #[.int .i64 dX, .int .i64 dY, .int .i64 dZ, .int .i64 ee]] M K Kp := vw [(4, .Fj [0, 0, 2, 6, 14, 0, 32, 0, 0, 256, 128, 1152, 3968, 8064, 16352, 32736, 65504, 131040, 262142, 524287, 1048575, 2097151] (sy [0, 1, 2, 3, 5, 7, 8, 10, 11, 6, 9, 12, 13] (.fork 4 (sy [14, 15, 16, 17, 18, 19, 20, 21] .done) (.fork 14 (sy [15, 4, 16, 17, 18, 19, 20, 21] .done) .dead))) []), (6, .bL [0, 0, 2, 0, 1, 17, 63, 127] (sy [0, 1, 3, 4, 5, 2, 6, 7] .done))] Tryz.func163 h
theorem nt {b0 o0 : Nat} {x1 : Int} {b2 o2 : Nat} {dX : Int} {dY : Int} {dZ : Int} {ee : Int} (h :
bg M (cl [(iV dX), (iV dY), (iV dZ), (iV ee)] 34) fun k1 M2 =>
K (.tuple #[]) M2) :
 aa Tryz.prog 164 #[.pointer (some ⟨b0, o0, none⟩), .int .i64 x1, .pointer (some ⟨b2, o2, none⟩), .agg #[.int .i64 dX, .int .i64 dY, .int .i64 dZ, .int .i64 ee]] M K Kp := vw [] Tryz.func164 h
theorem oV {b0 o0 : Nat} {x1 : Int} {b2 o2 : Nat} {dX : Int} {dY : Int} {dZ : Int} {ee : Int} (h :
bg M (cl [(iV dX), (iV dY), (iV dZ), (iV ee)] 34) fun k1 M2 =>
rI M2 k1 1 fun n3 =>
rI M2 k1 2 fun n4 =>
(0 ≤ n4) ∧
(n4 < 8) ∧
rI M2 b2 ((o2 + 2) + (Int.toNat n4)) fun n5 =>
aa Tryz.prog 159 #[(.pointer (some ⟨b0, o0, none⟩)), (iV n3), (iV n5)] M2 (fun v6 M7 =>
c6 (some v6) fun t8 =>
aQ (!t8)
 (rS M7 b0 (o0 + 6) fun A9 eM ei =>
 rI M7 k1 1 fun iy =>
 (0 ≤ iy) ∧
 (iy < eM) ∧
 aD A9 fun dx iB =>
 rP M7 dx (iB + (Int.toNat iy)) fun uQ =>
 rI M7 k1 2 fun oy =>
 (0 ≤ oy) ∧
 (oy < 8) ∧
 rI M7 b2 ((o2 + 2) + (Int.toNat oy)) fun jY =>
 aa Tryz.prog 206 #[(.pointer uQ), (.agg #[(iV x1), (iV 0), (iV jY)])] M7 (fun CN jV =>
 (CN = (.tuple #[])) ∧
 jg jV k1 0 fun hG qI ux zn =>
 aa Tryz.prog 158 #[(.pointer (some ⟨b0, o0, none⟩)), (iV x1), (.agg #[(iV hG), (iV qI), (iV ux), (iV zn)])] jV (fun RU Eh =>
 (RU = (.tuple #[])) ∧
 K (.tuple #[]) Eh) Kp) Kp)
 (K (.tuple #[]) M7)) Kp) :
 aa Tryz.prog 165 #[.pointer (some ⟨b0, o0, none⟩), .int .i64 x1, .pointer (some ⟨b2, o2, none⟩), .agg #[.int .i64 dX, .int .i64 dY, .int .i64 dZ, .int .i64 ee]] M K Kp := vw [(1, .bL [0, 0, 2, 0, 0, 16, 8, 72, 248, 504, 1023, 2047] (sy [0, 1, 3, 4, 6, 7, 2, 5, 8, 9, 10, 11] .done)), (2, .bL [0, 1, 3, 7, 0, 16, 63, 127, 0, 0, 0, 1024, 512, 4608, 15872, 32256, 65280, 131071] (sy [0, 1, 2, 4, 8, 9, 10, 12, 13, 3, 5, 6, 7, 11, 14, 15, 16, 17] .done))] Tryz.func165 h
theorem oW {b0 o0 : Nat} {x1 : Int} {b2 o2 : Nat} {dX : Int} {dY : Int} {dZ : Int} {ee : Int} (h :
bg M (cl [(iV dX), (iV dY), (iV dZ), (iV ee)] 34) fun k1 M2 =>
rI M2 k1 1 fun n3 =>
aa Tryz.prog 160 #[(.pointer (some ⟨b0, o0, none⟩)), (iV n3)] M2 (fun v4 M5 =>
∃ n6 n7 : Int, ∃ t8 : Bool, (v4 = (.tuple #[(iV n6), (iV n7), (.bool t8)])) ∧
aQ (!t8)
 (rS M5 b0 (o0 + 6) fun A9 eM ei =>
 rI M5 k1 1 fun iy =>
 (0 ≤ iy) ∧
 (iy < eM) ∧
 aD A9 fun dx iB =>
 rP M5 dx (iB + (Int.toNat iy)) fun uQ =>
 aa Tryz.prog 205 #[(.pointer uQ), (.agg #[(iV x1), (iV 0), (iV 0)])] M5 (fun K4 oN =>
 (K4 = (.tuple #[])) ∧
 jg oN k1 0 fun mu zm hG qI =>
 aa Tryz.prog 158 #[(.pointer (some ⟨b0, o0, none⟩)), (iV x1), (.agg #[(iV mu), (iV zm), (iV hG), (iV qI)])] oN (fun FF l8 =>
 (FF = (.tuple #[])) ∧
 K (.tuple #[]) l8) Kp) Kp)
 (rI M5 k1 2 fun z9 =>
 (0 ≤ z9) ∧
 (z9 < 8) ∧
 rI M5 k1 3 fun sY =>
 sT M5 b2 ((o2 + 2) + (Int.toNat z9)) (iV n6) fun tZ =>
 eI tZ k1 3 sY ∧
 (0 ≤ sY) ∧
 (sY < 8) ∧
 sT tZ b2 ((o2 + 2) + (Int.toNat sY)) (iV n7) fun tV =>
 eI tV k1 3 sY ∧
 K (.tuple #[]) tV)) Kp) :
 aa Tryz.prog 166 #[.pointer (some ⟨b0, o0, none⟩), .int .i64 x1, .pointer (some ⟨b2, o2, none⟩), .agg #[.int .i64 dX, .int .i64 dY, .int .i64 dZ, .int .i64 ee]] M K Kp := vw [(3, .bL [0, 1, 3, 7, 0, 16, 63, 127, 0, 256, 1023] (sy [0, 1, 2, 4, 8, 9, 3, 5, 6, 7, 10] .done)), (5, .bL [0, 0, 2, 0, 0, 16, 0, 0, 1, 257, 839, 1863, 8, 4104, 16383, 32767] (sy [0, 1, 3, 4, 6, 7, 8, 9, 12, 13, 2, 10] (.fK 5 (sy [11, 14, 15] .done))))] Tryz.func166 h
theorem oX {b0 o0 : Nat} {x1 : Int} {b2 o2 : Nat} {dX : Int} {dY : Int} {dZ : Int} {ee : Int} (h :
bg M (cl [(iV dX), (iV dY), (iV dZ), (iV ee)] 34) fun k1 M2 =>
rS M2 b0 (o0 + 6) fun A3 k4 k5 =>
rI M2 k1 1 fun n6 =>
(0 ≤ n6) ∧
(n6 < k4) ∧
aD A3 fun k7 k8 =>
rP M2 k7 (k8 + (Int.toNat n6)) fun A9 =>
aa Tryz.prog 213 #[(.pointer A9)] M2 (fun v10 jG =>
∃ w8 : Option Addr, ∃ dx iB : Nat, ∃ uQ : Option Addr, ∃ fU eG : Nat, ∃ mu : Int, (v10 = (.tuple #[(.slice w8 dx iB), (.slice uQ fU eG), (iV mu)])) ∧
aQ (mu != 0)
 (Kp [{ v := (.iface 256 (iV (-2))), recovered := false }] jG)
 (aQ (decide ((fU : Int) > 0))
 (Kp [{ v := (.iface 256 (iV (-1))), recovered := false }] jG)
 (∃ TN : IT, (∃ jy, TN jy [(iV 0)] jG) ∧
 ∀ (eY : Nat) (_ : Nat → Value) (zn : Int) (iS : Mem), (TN eY [(iV zn)] iS) → aQ (decide (zn < dx))
 ((0 ≤ zn) ∧
 (zn < dx) ∧
 aD w8 fun uR rq =>
 m8 iS uR (rq + ((Int.toNat zn) * 3)) fun xE tT AY =>
 bg iS iR fun lF Na =>
 HS Na lF (iV xE) (iV tT) (iV AY) fun sB =>
 rS sB b0 (o0 + 4) fun Ve Ej xe =>
 rI sB lF 0 fun FC =>
 (0 ≤ FC) ∧
 (FC < Ej) ∧
 aD Ve fun vK Ef =>
 rP sB vK (Ef + (Int.toNat FC)) fun RV =>
 aD RV fun Og w7 =>
 rI sB Og w7 fun FK =>
 aQ (FK == 2)
 (sT sB lF 2 (iV 0) fun ua =>
 m8 ua lF 0 fun Io z0 GU =>
 aa Tryz.prog 208 #[(.pointer (some ⟨b0, o0, none⟩)), (.agg #[(iV Io), (iV z0), (iV GU)]), (iV 0)] ua (fun H9 w5 =>
 (H9 = (.tuple #[])) ∧
 ∃ GV : Nat, (GV < eY) ∧
 TN GV [(iV (IntKind.wrap .i64 (zn + 1)))] w5) Kp)
 (∃ sA : Nat, (sA < eY) ∧
 TN sA [(iV (IntKind.wrap .i64 (zn + 1)))] sB))
 (K (.tuple #[]) iS)))) Kp) :
 aa Tryz.prog 167 #[.pointer (some ⟨b0, o0, none⟩), .int .i64 x1, .pointer (some ⟨b2, o2, none⟩), .agg #[.int .i64 dX, .int .i64 dY, .int .i64 dZ, .int .i64 ee]] M K Kp := vw [(1, .bL [0, 1, 3, 7, 0, 16, 63, 127, 255, 511, 1023, 1023, 1023, 2047, 12287, 32767] (sy [0, 1, 2, 4, 3, 5, 6, 7, 8, 9, 10, 11, 12, 13, 14, 15] .done)), (2000001, .loop [(37, .c (.int .i64))]), (9, .bL [0, 1, 3, 7, 0, 16, 63, 127, 255, 511, 1023, 2047] (sy [0, 1, 2, 4, 3, 5, 6, 7, 8, 9, 10, 11] .done))] Tryz.func167 h
theorem nu {b0 o0 : Nat} {x1 : Int} {b2 o2 : Nat} {dX : Int} {dY : Int} {dZ : Int} {ee : Int} (h :
bg M (cl [(iV dX), (iV dY), (iV dZ), (iV ee)] 34) fun k1 M2 =>
rI M2 k1 1 fun n3 =>
(0 ≤ n3) ∧
(n3 < 8) ∧
rI M2 b2 ((o2 + 2) + (Int.toNat n3)) fun n4 =>
aQ (decide (((if (1048576 : Int) < n4 then 1048576 else n4) : Int) > 0))
 (rU M2 b0 (o0 + 5) fun n5 =>
 aa Tryz.prog 214 #[(.pointer (some ⟨b0, (o0 + 8), none⟩)), (.int .u64 (IntKind.wrap .u64 (n5 + (IntKind.wrap .u64 (if (1048576 : Int) < n4 then 1048576 else n4))))), (iV x1)] M2 (fun v6 M7 =>
 aG (some v6) .u64 fun n8 =>
 rS M7 b0 (o0 + 4) fun A9 eM ei =>
 ((0 : Int) ≤ x1) ∧
 ((x1 : Int) < eM) ∧
 aD A9 fun fO dx =>
 rP M7 fO (dx + (Int.toNat x1)) fun mP =>
 aD mP fun gn fU =>
 sT M7 gn fU (iV 3) fun oN =>
 K (.tuple #[]) oN) Kp)
 (K (.tuple #[]) M2)) :
 aa Tryz.prog 168 #[.pointer (some ⟨b0, o0, none⟩), .int .i64 x1, .pointer (some ⟨b2, o2, none⟩), .agg #[.int .i64 dX, .int .i64 dY, .int .i64 dZ, .int .i64 ee]] M K Kp := vw [(1, .bL [0, 0, 2, 1, 9, 31, 63, 127, 255] (sy [0, 1, 3, 4, 2, 5, 6, 7, 8] .done)), (3, .bL [0, 1, 3, 0, 8, 24, 56, 0, 128, 504, 0, 2047] (sy [0, 1, 2, 3, 4, 5, 7, 8, 10, 6, 9, 11] .done))] Tryz.func168 h
theorem oY {b0 o0 : Nat} {x1 : Int} {b2 o2 : Nat} {dX : Int} {dY : Int} {dZ : Int} {ee : Int} (h :
bg M (cl [(iV dX), (iV dY), (iV dZ), (iV ee)] 34) fun k1 M2 =>
rS M2 b0 (o0 + 7) fun A3 k4 k5 =>
rI M2 k1 1 fun n6 =>
(0 ≤ n6) ∧
(n6 < k4) ∧
aD A3 fun k7 k8 =>
rP M2 k7 (k8 + (Int.toNat n6)) fun A9 =>
aa Tryz.prog 215 #[(.pointer A9), (iV x1)] M2 (fun v10 jG =>
c6 (some v10) fun t12 =>
aQ (!t12)
 (rI jG k1 0 fun ju =>
 rI jG k1 1 fun mj =>
 rI jG k1 2 fun jt =>
 rI jG k1 3 fun oy =>
 aa Tryz.prog 158 #[(.pointer (some ⟨b0, o0, none⟩)), (iV x1), (.agg #[(iV ju), (iV mj), (iV jt), (iV oy)])] jG (fun RW pZ =>
 (RW = (.tuple #[])) ∧
 K (.tuple #[]) pZ) Kp)
 (K (.tuple #[]) jG)) Kp) :
 aa Tryz.prog 169 #[.pointer (some ⟨b0, o0, none⟩), .int .i64 x1, .pointer (some ⟨b2, o2, none⟩), .agg #[.int .i64 dX, .int .i64 dY, .int .i64 dZ, .int .i64 ee]] M K Kp := vw [(1, .bL [0, 1, 3, 7, 0, 16, 63, 127, 0, 511, 1023] (sy [0, 1, 2, 4, 8, 3, 5, 6, 7, 9, 10] .done))] Tryz.func169 h
theorem mz {b0 o0 : Nat} {x1 : Int} {b2 o2 : Nat} {dX : Int} {dY : Int} {dZ : Int} {ee : Int} (h :
bg M (cl [(iV dX), (iV dY), (iV dZ), (iV ee)] 34) fun k1 M2 =>
rS M2 b0 (o0 + 7) fun A3 k4 k5 =>
rI M2 k1 1 fun n6 =>
(0 ≤ n6) ∧
(n6 < k4) ∧
aD A3 fun k7 k8 =>
rP M2 k7 (k8 + (Int.toNat n6)) fun A9 =>
aa Tryz.prog 216 #[(.pointer A9), (iV x1)] M2 (fun v10 jG =>
∃ iy ju : Int, (v10 = (.tuple #[(iV iy), (iV ju)])) ∧
aQ (ju != 0)
 (Kp [{ v := (.iface 256 (iV (-3))), recovered := false }] jG)
 (aQ (iy != (-1))
 (aa Tryz.prog 90 #[(.pointer (some ⟨b0, o0, none⟩)), (iV iy)] jG (fun Vf uz =>
 (Vf = (.tuple #[])) ∧
 K (.tuple #[]) uz) Kp)
 (K (.tuple #[]) jG))) Kp) :
 aa Tryz.prog 170 #[.pointer (some ⟨b0, o0, none⟩), .int .i64 x1, .pointer (some ⟨b2, o2, none⟩), .agg #[.int .i64 dX, .int .i64 dY, .int .i64 dZ, .int .i64 ee]] M K Kp := vw [(1, .bL [0, 1, 3, 7, 0, 16, 63, 127, 0, 511, 1023, 2047, 2047, 4095, 16383] (sy [0, 1, 2, 4, 8, 3, 5, 6, 7, 9, 10, 11, 12, 13, 14] .done))] Tryz.func170 h
theorem oZ {b0 o0 : Nat} {x1 : Int} {b2 o2 : Nat} {dX : Int} {dY : Int} {dZ : Int} {ee : Int} (h :
bg M (cl [(iV dX), (iV dY), (iV dZ), (iV ee)] 34) fun k1 M2 =>
rS M2 b0 (o0 + 10) fun A3 k4 k5 =>
aQ (decide ((k4 : Int) ≥ 1000))
 (Kp [{ v := (.iface 256 (iV (-6))), recovered := false }] M2)
 (rS M2 b0 (o0 + 10) fun A6 k7 k8 =>
 rI M2 k1 1 fun n9 =>
 (0 ≤ n9) ∧
 (n9 < 8) ∧
 rI M2 b2 ((o2 + 2) + (Int.toNat n9)) fun jX =>
 bg M2 (cl [(iV jX)] 2) fun ei sw =>
 aA 59 A6 k7 k8 (some ⟨ei, 0, none⟩) 1 1 sw (fun GL ox =>
 aC (some GL) fun uQ fU eG =>
 sT ox b0 (o0 + 10) (.slice uQ fU eG) fun pZ =>
 K (.tuple #[]) pZ) Kp)) :
 aa Tryz.prog 171 #[.pointer (some ⟨b0, o0, none⟩), .int .i64 x1, .pointer (some ⟨b2, o2, none⟩), .agg #[.int .i64 dX, .int .i64 dY, .int .i64 dZ, .int .i64 ee]] M K Kp := vw [(3, .bL [0, 0, 2, 6, 14, 0, 0, 64, 32, 288, 992, 2016, 4064, 8190, 16383, 32767, 65535] (sy [0, 1, 2, 3, 5, 6, 8, 9, 4, 7, 10, 11, 12, 13, 14, 15, 16] .done))] Tryz.func171 h
theorem o5 {b0 o0 : Nat} {x1 : Int} {b2 o2 : Nat} {dX : Int} {dY : Int} {dZ : Int} {ee : Int} (h :
bg M (cl [(iV dX), (iV dY), (iV dZ), (iV ee)] 34) fun k1 M2 =>
rI M2 k1 1 fun n3 =>
Kp [{ v := (.iface 256 (iV n3)), recovered := false }] M2) :
 aa Tryz.prog 172 #[.pointer (some ⟨b0, o0, none⟩), .int .i64 x1, .pointer (some ⟨b2, o2, none⟩), .agg #[.int .i64 dX, .int .i64 dY, .int .i64 dZ, .int .i64 ee]] M K Kp := vw [] Tryz.func172 h
theorem rJ {b0 o0 : Nat} {x1 : Int} {x2 : Int} (h :
aC (Mem.ld M ⟨b0, o0, none⟩) fun A1 k2 k3 =>
aC (Mem.ld M ⟨b0, o0, none⟩) fun A4 k5 k6 =>
aC (Mem.ld M ⟨b0, o0, none⟩) fun A7 k8 k9 =>
((0 : Int) ≤ x2) ∧
((x2 : Int) < ((k8 : Nat) : Int)) ∧
aD A7 fun eM ei =>
aG (Mem.ld M ⟨eM, (ei + ((Int.toNat x2) * 3)), none⟩) .u64 fun iy =>
aG (Mem.ld M ⟨eM, ((ei + ((Int.toNat x2) * 3)) + 1), none⟩) .u64 fun ju =>
aG (Mem.ld M ⟨eM, ((ei + ((Int.toNat x2) * 3)) + 2), none⟩) .i64 fun mj =>
aC (Mem.ld M ⟨b0, o0, none⟩) fun uQ fU eG =>
((0 : Int) ≤ x1) ∧
((x1 : Int) < ((fU : Nat) : Int)) ∧
aD uQ fun fV iw =>
aG (Mem.ld M ⟨fV, (iw + ((Int.toNat x1) * 3)), none⟩) .u64 fun hG =>
aG (Mem.ld M ⟨fV, ((iw + ((Int.toNat x1) * 3)) + 1), none⟩) .u64 fun qI =>
aG (Mem.ld M ⟨fV, ((iw + ((Int.toNat x1) * 3)) + 2), none⟩) .i64 fun ux =>
((0 : Int) ≤ x1) ∧
((x1 : Int) < ((k2 : Nat) : Int)) ∧
aD A1 fun ji sS =>
aF M ⟨ji, (sS + ((Int.toNat x1) * 3)), none⟩ (.int .u64 iy) fun Eh =>
aF Eh ⟨ji, ((sS + ((Int.toNat x1) * 3)) + 1), none⟩ (.int .u64 ju) fun tZ =>
aF tZ ⟨ji, ((sS + ((Int.toNat x1) * 3)) + 2), none⟩ (.int .i64 mj) fun tV =>
((0 : Int) ≤ x2) ∧
((x2 : Int) < ((k5 : Nat) : Int)) ∧
aD A4 fun sZ tU =>
aF tV ⟨sZ, (tU + ((Int.toNat x2) * 3)), none⟩ (.int .u64 hG) fun vA =>
aF vA ⟨sZ, ((tU + ((Int.toNat x2) * 3)) + 1), none⟩ (.int .u64 qI) fun Na =>
aF Na ⟨sZ, ((tU + ((Int.toNat x2) * 3)) + 2), none⟩ (.int .i64 ux) fun pK =>
K (.tuple #[]) pK) :
 aa Tryz.prog 136 ([.pointer (some ⟨b0, o0, none⟩), .int .i64 x1, .int .i64 x2] : List Value).toArray M K Kp :=
 bX (C := Cx) good [(0, .bL [0, 1, 3, 7, 0, 0, 32, 96, 224, 0, 0, 1024, 3072, 7168, 0, 31744, 64512, 0, 131072, 393216, 917504, 0, 4063232, 8257536, 16776703, 33553919, 67108863, 134217727] (.step 0 (.step 1 (.step 2 (.step 4 (.step 5 (.step 6 (.step 7 (.step 9 (.step 10 (.step 11 (.step 12 (.step 14 (.step 17 (.step 18 (.step 19 (.step 21 (.step 3 (.step 8 (.step 13 (.step 15 (.step 16 (.step 20 (.step 22 (.step 23 (.step 24 (.step 25 (.step 26 (.step 27 .done)))))))))))))))))))))))))))))] Tryz.func136 (by kernel_rfl) (by kernel_rfl) h
theorem rK {b0 o0 : Nat} {x1 : Int} (h :
aa Tryz.prog 185 #[(.pointer (some ⟨b0, o0, none⟩)), (iV x1)] M (fun v1 M2 =>
aG (some v1) .i64 fun n3 =>
∃ I4 : IT, (∃ k5, I4 k5 [(iV x1), (iV n3)] M2) ∧
∀ (k6 : Nat) (_ : Nat → Value) (n8 : Int) (n9 : Int) (js : Mem), (I4 k6 [(iV n8), (iV n9)] js) → aQ (n9 != n8)
 (aa Tryz.prog 136 #[(.pointer (some ⟨b0, o0, none⟩)), (iV n8), (iV n9)] js (fun v11 sw =>
 (v11 = (.tuple #[])) ∧
 aa Tryz.prog 185 #[(.pointer (some ⟨b0, o0, none⟩)), (iV n9)] sw (fun GL ox =>
 aG (some GL) .i64 fun jt =>
 ∃ fU : Nat, (fU < k6) ∧
 I4 fU [(iV n9), (iV jt)] ox) Kp) Kp)
 (K (.tuple #[]) js)) Kp) :
 aa Tryz.prog 137 #[.pointer (some ⟨b0, o0, none⟩), .int .i64 x1] M K Kp := vw [(2000000, .loop [(1, .c (.int .i64)), (4, .c (.int .i64))])] Tryz.func137 h
theorem uA {b0 o0 : Nat} {x1 : Int} (h :
∃ I1 : Nat → List Value → Mem → Prop, (∃ k2 : Nat, I1 k2 [(.int .i64 x1)] M) ∧
∀ k3 : Nat, ∀ MX : Nat → Value, ∀ n5 : Int, ∀ M6 : Mem, (I1 k3 [(.int .i64 n5)] M6) → aQ (decide ((n5 : Int) > 0))
 (((4 : Int) ≠ 0) ∧
 aC (Mem.ld M6 ⟨b0, o0, none⟩) fun A7 k8 k9 =>
 ((0 : Int) ≤ n5) ∧
 ((n5 : Int) < ((k8 : Nat) : Int)) ∧
 aD A7 fun eM ei =>
 aG (Mem.ld M6 ⟨eM, (ei + ((Int.toNat n5) * 3)), none⟩) .u64 fun iy =>
 aG (Mem.ld M6 ⟨eM, ((ei + ((Int.toNat n5) * 3)) + 1), none⟩) .u64 fun ju =>
 aG (Mem.ld M6 ⟨eM, ((ei + ((Int.toNat n5) * 3)) + 2), none⟩) .i64 fun mj =>
 aC (Mem.ld M6 ⟨b0, o0, none⟩) fun uQ fU eG =>
 ((0 : Int) ≤ (IntKind.wrap .i64 (Int.tdiv (IntKind.wrap .i64 (n5 - 1)) 4))) ∧
 (((IntKind.wrap .i64 (Int.tdiv (IntKind.wrap .i64 (n5 - 1)) 4)) : Int) < ((fU : Nat) : Int)) ∧
 aD uQ fun fV iw =>
 aG (Mem.ld M6 ⟨fV, (iw + ((Int.toNat (IntKind.wrap .i64 (Int.tdiv (IntKind.wrap .i64 (n5 - 1)) 4))) * 3)), none⟩) .u64 fun hG =>
 aG (Mem.ld M6 ⟨fV, ((iw + ((Int.toNat (IntKind.wrap .i64 (Int.tdiv (IntKind.wrap .i64 (n5 - 1)) 4))) * 3)) + 1), none⟩) .u64 fun qI =>
 aG (Mem.ld M6 ⟨fV, ((iw + ((Int.toNat (IntKind.wrap .i64 (Int.tdiv (IntKind.wrap .i64 (n5 - 1)) 4))) * 3)) + 2), none⟩) .i64 fun ux =>
 aa Tryz.prog 186 #[(.agg #[(.int .u64 iy), (.int .u64 ju), (.int .i64 mj)]), (.agg #[(.int .u64 hG), (.int .u64 qI), (.int .i64 ux)])] M6 (fun RL iS =>
 c6 (some RL) fun t25 =>
 aQ t25
  (((4 : Int) ≠ 0) ∧
  aa Tryz.prog 136 #[(.pointer (some ⟨b0, o0, none⟩)), (.int .i64 n5), (.int .i64 (IntKind.wrap .i64 (Int.tdiv (IntKind.wrap .i64 (n5 - 1)) 4)))] iS (fun RJ tV =>
  (RJ = (.tuple #[])) ∧
  ((4 : Int) ≠ 0) ∧
  ∃ sZ : Nat, (sZ < k3) ∧
  I1 sZ [(.int .i64 (IntKind.wrap .i64 (Int.tdiv (IntKind.wrap .i64 (n5 - 1)) 4)))] tV) Kp)
  (K (.tuple #[]) iS)) Kp)
 (K (.tuple #[]) M6)) :
 aa Tryz.prog 138 ([.pointer (some ⟨b0, o0, none⟩), .int .i64 x1] : List Value).toArray M K Kp :=
 bX (C := Cx) good [(2000000, .loop [(1, .c (.int .i64))]), (0, .bL [0, 1, 3, 7, 15, 31, 63, 7, 255, 511, 7, 1031, 3079, 7175, 7, 16391, 49159, 130055, 261127, 524287, 1048575] (.step 0 (.step 1 (.step 2 (.step 3 (.step 4 (.step 5 (.step 7 (.step 10 (.step 11 (.step 12 (.step 14 (.step 15 (.step 16 (.step 6 (.step 8 (.step 9 (.step 13 (.step 17 (.step 18 (.step 19 (.step 20 .done))))))))))))))))))))))] Tryz.func138 (by kernel_rfl) (by kernel_rfl) h
theorem qg {b0 o0 : Nat} {cK : Int} {cL : Int} {cN : Int} {fu : Int} (h :
bg M (cl [(iV cK), (iV cL), (iV cN), (iV fu)] 34) fun k1 M2 =>
K (.tuple #[]) M2) :
 aa Tryz.prog 195 #[.pointer (some ⟨b0, o0, none⟩), .agg #[.int .i64 cK, .int .i64 cL, .int .i64 cN, .int .i64 fu]] M K Kp := vw [] Tryz.func195 h
theorem kA {b0 o0 : Nat} {cK : Int} {cL : Int} {cN : Int} {fu : Int} (h :
bg M (cl [(iV cK), (iV cL), (iV cN), (iV fu)] 34) fun k1 M2 =>
rI M2 k1 1 fun n3 =>
rI M2 k1 2 fun n4 =>
(0 ≤ n3) ∧
(n3 < 8) ∧
sT M2 b0 ((o0 + 2) + (Int.toNat n3)) (iV n4) fun M5 =>
K (.tuple #[]) M5) :
 aa Tryz.prog 196 #[.pointer (some ⟨b0, o0, none⟩), .agg #[.int .i64 cK, .int .i64 cL, .int .i64 cN, .int .i64 fu]] M K Kp := vw [(1, .bL [0, 0, 2, 0, 8, 1, 33, 127, 255] (sy [0, 1, 3, 5, 6, 2, 4, 7, 8] .done))] Tryz.func196 h
theorem o6 {b0 o0 : Nat} {cK : Int} {cL : Int} {cN : Int} {fu : Int} (h :
bg M (cl [(iV cK), (iV cL), (iV cN), (iV fu)] 34) fun k1 M2 =>
rI M2 k1 1 fun n3 =>
rI M2 k1 2 fun n4 =>
(0 ≤ n4) ∧
(n4 < 8) ∧
rI M2 b0 ((o0 + 2) + (Int.toNat n4)) fun n5 =>
(0 ≤ n3) ∧
(n3 < 8) ∧
sT M2 b0 ((o0 + 2) + (Int.toNat n3)) (iV n5) fun M6 =>
K (.tuple #[]) M6) :
 aa Tryz.prog 197 #[.pointer (some ⟨b0, o0, none⟩), .agg #[.int .i64 cK, .int .i64 cL, .int .i64 cN, .int .i64 fu]] M K Kp := vw [(1, .bL [0, 0, 2, 0, 0, 16, 8, 72, 248, 504, 1, 1025, 4095, 8191] (sy [0, 1, 3, 4, 6, 7, 10, 11, 2, 5, 8, 9, 12, 13] .done))] Tryz.func197 h
theorem qh {b0 o0 : Nat} {cK : Int} {cL : Int} {cN : Int} {fu : Int} (h :
bg M (cl [(iV cK), (iV cL), (iV cN), (iV fu)] 34) fun k1 M2 =>
rI M2 k1 1 fun n3 =>
rI M2 k1 2 fun n4 =>
(0 ≤ n4) ∧
(n4 < 8) ∧
rI M2 b0 ((o0 + 2) + (Int.toNat n4)) fun n5 =>
rI M2 k1 3 fun n6 =>
(0 ≤ n6) ∧
(n6 < 8) ∧
rI M2 b0 ((o0 + 2) + (Int.toNat n6)) fun n7 =>
(0 ≤ n3) ∧
(n3 < 8) ∧
sT M2 b0 ((o0 + 2) + (Int.toNat n3)) (iV (IntKind.wrap .i64 (n5 + n7))) fun M8 =>
K (.tuple #[]) M8) :
 aa Tryz.prog 198 #[.pointer (some ⟨b0, o0, none⟩), .agg #[.int .i64 cK, .int .i64 cL, .int .i64 cN, .int .i64 fu]] M K Kp := vw [(1, .bL [0, 0, 2, 0, 0, 16, 8, 72, 248, 504, 0, 0, 2048, 1024, 9216, 31744, 64512, 131064, 1, 262145, 1048575, 2097151] (sy [0, 1, 3, 4, 6, 7, 10, 11, 13, 14, 18, 19, 2, 5, 8, 9, 12, 15, 16, 17, 20, 21] .done))] Tryz.func198 h
theorem qi {b0 o0 : Nat} {cK : Int} {cL : Int} {cN : Int} {fu : Int} (h :
bg M (cl [(iV cK), (iV cL), (iV cN), (iV fu)] 34) fun k1 M2 =>
rI M2 k1 1 fun n3 =>
rI M2 k1 2 fun n4 =>
(0 ≤ n4) ∧
(n4 < 8) ∧
rI M2 b0 ((o0 + 2) + (Int.toNat n4)) fun n5 =>
rI M2 k1 3 fun n6 =>
(0 ≤ n6) ∧
(n6 < 8) ∧
rI M2 b0 ((o0 + 2) + (Int.toNat n6)) fun n7 =>
(0 ≤ n3) ∧
(n3 < 8) ∧
sT M2 b0 ((o0 + 2) + (Int.toNat n3)) (iV (IntKind.wrap .i64 (n5 - n7))) fun M8 =>
K (.tuple #[]) M8) :
 aa Tryz.prog 199 #[.pointer (some ⟨b0, o0, none⟩), .agg #[.int .i64 cK, .int .i64 cL, .int .i64 cN, .int .i64 fu]] M K Kp := vw [(1, .bL [0, 0, 2, 0, 0, 16, 8, 72, 248, 504, 0, 0, 2048, 1024, 9216, 31744, 64512, 131064, 1, 262145, 1048575, 2097151] (sy [0, 1, 3, 4, 6, 7, 10, 11, 13, 14, 18, 19, 2, 5, 8, 9, 12, 15, 16, 17, 20, 21] .done))] Tryz.func199 h
theorem qj {b0 o0 : Nat} {cK : Int} {cL : Int} {cN : Int} {fu : Int} (h :
bg M (cl [(iV cK), (iV cL), (iV cN), (iV fu)] 34) fun k1 M2 =>
rI M2 k1 1 fun n3 =>
rI M2 k1 2 fun n4 =>
(0 ≤ n4) ∧
(n4 < 8) ∧
rI M2 b0 ((o0 + 2) + (Int.toNat n4)) fun n5 =>
rI M2 k1 3 fun n6 =>
(0 ≤ n6) ∧
(n6 < 8) ∧
rI M2 b0 ((o0 + 2) + (Int.toNat n6)) fun n7 =>
(0 ≤ n3) ∧
(n3 < 8) ∧
sT M2 b0 ((o0 + 2) + (Int.toNat n3)) (iV (IntKind.wrap .i64 (n5 * n7))) fun M8 =>
K (.tuple #[]) M8) :
 aa Tryz.prog 200 #[.pointer (some ⟨b0, o0, none⟩), .agg #[.int .i64 cK, .int .i64 cL, .int .i64 cN, .int .i64 fu]] M K Kp := vw [(1, .bL [0, 0, 2, 0, 0, 16, 8, 72, 248, 504, 0, 0, 2048, 1024, 9216, 31744, 64512, 131064, 1, 262145, 1048575, 2097151] (sy [0, 1, 3, 4, 6, 7, 10, 11, 13, 14, 18, 19, 2, 5, 8, 9, 12, 15, 16, 17, 20, 21] .done))] Tryz.func200 h
theorem pb {b0 o0 : Nat} {cK : Int} {cL : Int} {cN : Int} {fu : Int} (h :
bg M (cl [(iV cK), (iV cL), (iV cN), (iV fu)] 34) fun k1 M2 =>
rI M2 k1 2 fun n3 =>
(0 ≤ n3) ∧
(n3 < 8) ∧
rI M2 b0 ((o0 + 2) + (Int.toNat n3)) fun n4 =>
rI M2 k1 3 fun n5 =>
(0 ≤ n5) ∧
(n5 < 8) ∧
rI M2 b0 ((o0 + 2) + (Int.toNat n5)) fun n6 =>
rI M2 k1 1 fun n7 =>
(0 ≤ n7) ∧
(n7 < 8) ∧
sT M2 b0 ((o0 + 2) + (Int.toNat n7)) (iV 0) fun M8 =>
aQ (decide (n4 < n6))
 (rI M8 k1 1 fun n9 =>
 (0 ≤ n9) ∧
 (n9 < 8) ∧
 sT M8 b0 ((o0 + 2) + (Int.toNat n9)) (iV 1) fun js =>
 K (.tuple #[]) js)
 (K (.tuple #[]) M8)) :
 aa Tryz.prog 201 #[.pointer (some ⟨b0, o0, none⟩), .agg #[.int .i64 cK, .int .i64 cL, .int .i64 cN, .int .i64 fu]] M K Kp := vw [(1, .bL [0, 0, 2, 1, 9, 31, 63, 0, 0, 256, 128, 1152, 3968, 8064, 16383, 32767] (sy [0, 1, 3, 4, 7, 8, 10, 11, 2, 5, 6, 9, 12, 13, 14, 15] .done)), (2, .bL [0, 0, 2, 1, 9, 31, 63] (sy [0, 1, 3, 4, 2, 5, 6] .done)), (4, .bL [0, 0, 2, 1, 9, 31, 63] (sy [0, 1, 3, 4, 2, 5, 6] .done))] Tryz.func201 h
theorem pe {b0 o0 : Nat} {cK : Int} {cL : Int} {cN : Int} {fu : Int} (h :
bg M (cl [(iV cK), (iV cL), (iV cN), (iV fu)] 34) fun k1 M2 =>
rI M2 k1 1 fun n3 =>
sT M2 b0 (o0 + 1) (iV n3) fun M4 =>
K (.tuple #[]) M4) :
 aa Tryz.prog 202 #[.pointer (some ⟨b0, o0, none⟩), .agg #[.int .i64 cK, .int .i64 cL, .int .i64 cN, .int .i64 fu]] M K Kp := vw [] Tryz.func202 h
theorem mA {b0 o0 : Nat} {cK : Int} {cL : Int} {cN : Int} {fu : Int} (h :
bg M (cl [(iV cK), (iV cL), (iV cN), (iV fu)] 34) fun k1 M2 =>
rI M2 k1 1 fun n3 =>
(0 ≤ n3) ∧
(n3 < 8) ∧
rI M2 b0 ((o0 + 2) + (Int.toNat n3)) fun n4 =>
aQ (n4 != 0)
 (rI M2 k1 2 fun n5 =>
 sT M2 b0 (o0 + 1) (iV n5) fun M6 =>
 K (.tuple #[]) M6)
 (K (.tuple #[]) M2)) :
 aa Tryz.prog 203 #[.pointer (some ⟨b0, o0, none⟩), .agg #[.int .i64 cK, .int .i64 cL, .int .i64 cN, .int .i64 fu]] M K Kp := vw [(1, .bL [0, 0, 2, 1, 9, 31, 63, 127] (sy [0, 1, 3, 4, 2, 5, 6, 7] .done))] Tryz.func203 h
theorem kB {b0 o0 : Nat} {cK : Int} {cL : Int} {cN : Int} {x2 : Int} (h :
bg M (cl [(iV cK), (iV cL), (iV cN)] 298) fun k1 M2 =>
rS M2 b0 (o0 + 4) fun A3 k4 k5 =>
rI M2 k1 0 fun n6 =>
(0 ≤ n6) ∧
(n6 < k4) ∧
aD A3 fun k7 k8 =>
rP M2 k7 (k8 + (Int.toNat n6)) fun A9 =>
aD A9 fun eM ei =>
rS M2 eM (ei + 1) fun w8 dx iB =>
rS M2 b0 (o0 + 4) fun uQ fU eG =>
rI M2 k1 0 fun mu =>
(0 ≤ mu) ∧
(mu < fU) ∧
aD uQ fun iw jy =>
rP M2 iw (jy + (Int.toNat mu)) fun xA =>
aD xA fun gO ji =>
jg M2 gO (ji + 2) fun z9 sY rH xE =>
(True) ∧
aa Tryz.prog 120 #[(.slice w8 dx iB)] M2 (fun Ot mO =>
cj (some Ot) fun RM =>
((Mem.gh mO ⟨gO, (ji + 2), none⟩ 0 4) = some [(iV z9), (iV sY), (iV rH), (iV xE)]) ∧
((Mem.ld mO ⟨iw, (jy + (Int.toNat mu)), none⟩) = (some (.pointer xA))) ∧
eI mO k1 0 mu ∧
((Mem.ld mO ⟨b0, (o0 + 4), none⟩) = (some (.slice uQ fU eG))) ∧
aD RM fun pL w9 =>
bg mO sQ fun zo sB =>
Fv sB zo (iV z9) (iV sY) (iV rH) (iV xE) fun kV =>
((Mem.gh kV ⟨gO, (ji + 2), none⟩ 0 4) = some [(iV z9), (iV sY), (iV rH), (iV xE)]) ∧
((Mem.ld kV ⟨iw, (jy + (Int.toNat mu)), none⟩) = (some (.pointer xA))) ∧
eI kV k1 0 mu ∧
((Mem.ld kV ⟨b0, (o0 + 4), none⟩) = (some (.slice uQ fU eG))) ∧
rI kV zo 0 fun GM =>
aQ (GM == 16)
 (rS kV b0 (o0 + 3) fun Zd KT Og =>
 rI kV zo 1 fun GN =>
 rI kV k1 1 fun FK =>
 ((0 : Int) ≤ (IntKind.wrap .i64 (GN + FK))) ∧
 (((IntKind.wrap .i64 (GN + FK)) : Int) < (KT : Int)) ∧
 aD Zd fun KU KV =>
 rI kV KU ((KV + ((Int.toNat (IntKind.wrap .i64 (GN + FK))) * 3)) + 2) fun z0 =>
 rI kV k1 2 fun GU =>
 (0 ≤ z0) ∧
 (z0 < 8) ∧
 sT kV pL ((w9 + 2) + (Int.toNat z0)) (iV GU) fun vB =>
 Z7 vB k1 0 fun Oz Ip =>
 aa Tryz.prog 223 #[(.pointer (some ⟨b0, o0, none⟩)), (iV Oz), (iV Ip)] vB (fun v52 Iv =>
 (v52 = (.tuple #[])) ∧
 rI Iv k1 0 fun RX =>
 aa Tryz.prog 90 #[(.pointer (some ⟨b0, o0, none⟩)), (iV RX)] Iv (fun RI Ol =>
 (RI = (.tuple #[])) ∧
 K (.tuple #[]) Ol) Kp) Kp)
 (rI kV zo 2 fun RY =>
 rI kV k1 2 fun Ib =>
 (0 ≤ RY) ∧
 (RY < 8) ∧
 rI kV zo 3 fun FD =>
 sT kV pL ((w9 + 2) + (Int.toNat RY)) (iV Ib) fun AV =>
 eI AV zo 3 FD ∧
 (0 ≤ FD) ∧
 (FD < 8) ∧
 sT AV pL ((w9 + 2) + (Int.toNat FD)) (iV x2) fun CO =>
 eI CO zo 3 FD ∧
 rI CO k1 0 fun TO =>
 aa Tryz.prog 90 #[(.pointer (some ⟨b0, o0, none⟩)), (iV TO)] CO (fun v63 Vg =>
 (v63 = (.tuple #[])) ∧
 K (.tuple #[]) Vg) Kp)) Kp) :
 aa Tryz.prog 208 #[.pointer (some ⟨b0, o0, none⟩), .agg #[.int .i64 cK, .int .i64 cL, .int .i64 cN], .int .i64 x2] M K Kp := vw [(1, .bL [0, 1, 3, 7, 0, 16, 63, 127, 255, 511, 1023, 0, 2048, 6144, 14336, 0, 32768, 129024, 260096, 522240, 1046528, 2095104, 4192256, 8386560, 16775168, 0, 41943039, 134217727] (sy [0, 1, 2, 4, 11, 12, 13, 15, 14, 16, 17, 18, 19, 20, 21] (.fK 3 (.fK 5 (sy [6] (.fK 7 (sy [8, 9] (.fK 10 (.late 22 (sy [23, 24, 25, 26, 27] .done)))))))))), (3, .bL [0, 0, 2, 6, 14, 30, 0, 64, 0, 256, 960, 2046, 4094, 8190, 0, 16384, 1, 131071, 262143] (sy [0, 1, 2, 3, 4, 6, 8, 14, 16, 5, 7, 9, 10, 11, 12, 13, 15, 17, 18] .done)), (5, .bL [0, 0, 2, 0, 0, 16, 0, 64, 0, 1, 711, 1735, 8, 8191, 16383] (sy [0, 1, 3, 4, 6, 8, 9, 12, 2, 7, 10] (.fK 5 (sy [11, 13, 14] .done))))] Tryz.func208 h
theorem pg {b0 o0 : Nat} {cK : Int} {cL : Int} {cN : Int} (h :
bg M (cl [(iV cK), (iV cL), (iV cN)] 298) fun k1 M2 =>
rS M2 b0 (o0 + 4) fun A3 k4 k5 =>
rI M2 k1 0 fun n6 =>
(0 ≤ n6) ∧
(n6 < k4) ∧
aD A3 fun k7 k8 =>
rP M2 k7 (k8 + (Int.toNat n6)) fun A9 =>
aD A9 fun eM ei =>
rI M2 eM (ei + 2) fun iy =>
aQ (iy == 16)
 (rI M2 k1 0 fun ju =>
 rI M2 k1 1 fun mj =>
 aa Tryz.prog 223 #[(.pointer (some ⟨b0, o0, none⟩)), (iV ju), (iV mj)] M2 (fun CV eF =>
 (CV = (.tuple #[])) ∧
 rI eF k1 0 fun jY =>
 aa Tryz.prog 90 #[(.pointer (some ⟨b0, o0, none⟩)), (iV jY)] eF (fun CN jV =>
 (CN = (.tuple #[])) ∧
 K (.tuple #[]) jV) Kp) Kp)
 (rI M2 k1 0 fun hG =>
 aa Tryz.prog 90 #[(.pointer (some ⟨b0, o0, none⟩)), (iV hG)] M2 (fun Vh oL =>
 (Vh = (.tuple #[])) ∧
 K (.tuple #[]) oL) Kp)) :
 aa Tryz.prog 210 #[.pointer (some ⟨b0, o0, none⟩), .agg #[.int .i64 cK, .int .i64 cL, .int .i64 cN]] M K Kp := vw [(1, .bL [0, 1, 3, 7, 0, 16, 63, 127, 255, 511, 1023, 2047, 4095] (sy [0, 1, 2, 4, 3, 5, 6, 7, 8, 9, 10, 11, 12] .done))] Tryz.func210 h
theorem pn {B0 : Option Addr} {m0 c0 : Nat} {x1 : Int} {x2 : Int} {x3 : Int} (h :
aQ (decide ((m0 : Int) ≥ 16))
 (K (.tuple #[(.slice B0 m0 c0), (.bool false)]) M)
 (((0 : Int) ≤ m0) ∧
 ((m0 : Int) ≤ c0) ∧
 ((0 : Int) ≤ m0) ∧
 ((m0 : Int) ≤ m0) ∧
 ((0 : Int) ≤ 0) ∧
 ((0 : Int) ≤ m0) ∧
 bg M (cl [(iV x1), (iV 0), (iV x2), (iV 0), (iV 0), (iV 0), (iV 0), (iV 0), (iV 0), (iV 0), (iV x3)] 234) fun k1 M2 =>
 aZ Tryz.prog (Go.Builtin.append_ #[179, 179] 179 #[(.slice (kU B0 0 (Int.toNat (m0 : Int)) 11) ((Int.toNat (m0 : Int)) - 0) ((Int.toNat (m0 : Int)) - 0)), (.slice (some ⟨k1, 0, none⟩) 1 1)]) M2 (fun v3 M4 =>
 aC (some v3) fun A5 k6 k7 =>
 K (.tuple #[(.slice A5 k6 k7), (.bool true)]) M4) Kp)) :
 aa Tryz.prog 211 #[.slice B0 m0 c0, .int .i64 x1, .int .i64 x2, .int .i64 x3] M K Kp := vw [] Tryz.func211 h
theorem mB {B0 : Option Addr} {m0 c0 : Nat} {x1 : Int} (h :
aQ (decide ((m0 : Int) < 2))
 (K (.tuple #[(.slice none 0 0), (.bool false)]) M)
 (bg M (cl [] 234) fun k1 M2 =>
 ((0 : Int) ≤ c0) ∧
 ((c0 : Int) ≤ c0) ∧
 ((0 : Int) ≤ (IntKind.wrap .i64 ((m0 : Int) - 1))) ∧
 (((IntKind.wrap .i64 ((m0 : Int) - 1)) : Int) ≤ (c0 : Int)) ∧
 ((0 : Int) ≤ 0) ∧
 ((0 : Int) ≤ (IntKind.wrap .i64 ((m0 : Int) - 1))) ∧
 aZ Tryz.prog (Go.Builtin.append_ #[179, 179] 179 #[(.slice (some ⟨k1, 0, none⟩) 0 0), (.slice (kU B0 0 (Int.toNat (c0 : Int)) 11) ((Int.toNat (IntKind.wrap .i64 ((m0 : Int) - 1))) - 0) ((Int.toNat (c0 : Int)) - 0))]) M2 (fun v3 M4 =>
 aC (some v3) fun A5 k6 k7 =>
 aa Tryz.prog 120 #[(.slice A5 k6 k7)] M4 (fun v8 M9 =>
 cj (some v8) fun Cc =>
 aD Cc fun ei fO =>
 aa Tryz.prog 120 #[(.slice B0 m0 c0)] M9 (fun GL ox =>
 cj (some GL) fun uQ =>
 aD uQ fun fU eG =>
 rI ox fU (eG + 10) fun mu =>
 (0 ≤ mu) ∧
 (mu < 8) ∧
 sT ox ei ((fO + 2) + (Int.toNat mu)) (iV x1) fun jV =>
 K (.tuple #[(.slice A5 k6 k7), (.bool true)]) jV) Kp) Kp) Kp)) :
 aa Tryz.prog 212 #[.slice B0 m0 c0, .int .i64 x1] M K Kp := vw [(4, .bL [0, 1, 0, 7, 15, 31, 63, 0, 3, 259, 1023, 2047] (sy [0, 2, 7, 1, 8, 9, 3, 4, 5, 6, 10, 11] .done))] Tryz.func212 h
theorem rL {b0 o0 : Nat} {x1 : Int} {x2 : Int} (h :
aC (Mem.ld M ⟨b0, o0, none⟩) fun A1 k2 k3 =>
aG (Mem.ld M ⟨b0, (o0 + 1), none⟩) .u64 fun n4 =>
bg M (.cells #[(.int .u64 x1), (.int .u64 n4), (.int .i64 x2)] 205 (0, 0)) fun k5 M6 =>
aZ Tryz.prog (Go.Builtin.append_ #[65, 65] 65 #[(.slice A1 k2 k3), (.slice (some ⟨k5, 0, none⟩) 1 1)]) M6 (fun v7 M8 =>
aC (some v7) fun A9 eM ei =>
aF M8 ⟨b0, o0, none⟩ (.slice A9 eM ei) fun sw =>
aG (Mem.ld sw ⟨b0, (o0 + 1), none⟩) .u64 fun ju =>
aF sw ⟨b0, (o0 + 1), none⟩ (.int .u64 (IntKind.wrap .u64 (ju + 1))) fun ox =>
aC (Mem.ld ox ⟨b0, o0, none⟩) fun uQ fU eG =>
aa Tryz.prog 138 #[(.pointer (some ⟨b0, o0, none⟩)), (.int .i64 (IntKind.wrap .i64 (((fU : Nat) : Int) - 1)))] ox (fun CN jV =>
(CN = (.tuple #[])) ∧
aG (Mem.ld jV ⟨b0, (o0 + 1), none⟩) .u64 fun hG =>
K (.int .u64 (IntKind.wrap .u64 (hG - 1))) jV) Kp) Kp) :
 aa Tryz.prog 214 ([.pointer (some ⟨b0, o0, none⟩), .int .u64 x1, .int .i64 x2] : List Value).toArray M K Kp :=
 bX (C := Cx) good [(1, .bL [0, 0, 2, 6, 14, 0, 0, 64, 192, 448, 0, 2016, 4064, 8190, 16383, 32767, 65535] (.step 0 (.step 1 (.step 2 (.step 3 (.step 5 (.step 6 (.step 7 (.step 8 (.step 10 (.step 4 (.step 9 (.step 11 (.step 12 (.step 13 (.step 14 (.step 15 (.step 16 .done))))))))))))))))))] Tryz.func214 (by kernel_rfl) (by kernel_rfl) h
theorem qk {b0 o0 : Nat} {x1 : Int} (h :
rI M b0 o0 fun n1 =>
aQ (n1 != (-1))
 (rS M b0 (o0 + 1) fun A2 k3 k4 =>
 bg M (cl [(iV x1)] 3) fun k5 M6 =>
 aA 38 A2 k3 k4 (some ⟨k5, 0, none⟩) 1 1 M6 (fun v7 M8 =>
 aC (some v7) fun A9 eM ei =>
 sT M8 b0 (o0 + 1) (.slice A9 eM ei) fun sw =>
 K (.bool false) sw) Kp)
 (sT M b0 o0 (iV x1) fun ku =>
 K (.bool true) ku)) :
 aa Tryz.prog 215 #[.pointer (some ⟨b0, o0, none⟩), .int .i64 x1] M K Kp := vw [] Tryz.func215 h
theorem ql {b0 o0 : Nat} {x1 : Int} (h :
rI M b0 o0 fun n1 =>
aQ (n1 == (-1))
 (K (.tuple #[(iV (-1)), (iV 5)]) M)
 (rI M b0 o0 fun n2 =>
 aQ (n2 != x1)
 (K (.tuple #[(iV (-1)), (iV 5)]) M)
 (sT M b0 o0 (iV (-1)) fun M3 =>
 rS M3 b0 (o0 + 1) fun A4 k5 k6 =>
 aQ (decide ((k5 : Int) > 0))
 (rS M3 b0 (o0 + 1) fun A7 k8 k9 =>
 ((0 : Int) ≤ 0) ∧
 ((0 : Int) < k8) ∧
 aD A7 fun eM ei =>
 rI M3 eM (ei + 0) fun iy =>
 sT M3 b0 o0 (iV iy) fun ku =>
 bg ku (cl [] 3) fun iB uz =>
 rS uz b0 (o0 + 1) fun QI eG fV =>
 ((0 : Int) ≤ fV) ∧
 ((fV : Int) ≤ fV) ∧
 ((0 : Int) ≤ eG) ∧
 ((eG : Int) ≤ fV) ∧
 ((0 : Int) ≤ 1) ∧
 ((1 : Int) ≤ eG) ∧
 aZ Tryz.prog (Go.Builtin.append_ #[38, 38] 38 #[(.slice (some ⟨iB, 0, none⟩) 0 0), (.slice (kU QI 1 (Int.toNat (fV : Int)) 1) ((Int.toNat (eG : Int)) - 1) ((Int.toNat (fV : Int)) - 1))]) uz (fun K8 rm =>
 aC (some K8) fun xA gO ji =>
 sT rm b0 (o0 + 1) (.slice xA gO ji) fun iS =>
 rI iS b0 o0 fun sY =>
 K (.tuple #[(iV sY), (iV 0)]) iS) Kp)
 (rI M3 b0 o0 fun rH =>
 K (.tuple #[(iV rH), (iV 0)]) M3)))) :
 aa Tryz.prog 216 #[.pointer (some ⟨b0, o0, none⟩), .int .i64 x1] M K Kp := vw [] Tryz.func216 h
theorem qm {b0 o0 : Nat} {x1 : Int} (h :
∃ I1 : Nat → List Value → Mem → Prop, (∃ k2 : Nat, I1 k2 [(.int .i64 x1), (.int .i64 (IntKind.wrap .i64 ((IntKind.wrap .i64 (4 * x1)) + 1)))] M) ∧
∀ k3 : Nat, ∀ MX : Nat → Value, ∀ n5 : Int, ∀ n6 : Int, ∀ M7 : Mem, (I1 k3 [(.int .i64 n5), (.int .i64 n6)] M7) → aQ (decide ((n6 : Int) ≤ (IntKind.wrap .i64 ((IntKind.wrap .i64 (4 * x1)) + 4))))
 (aC (Mem.ld M7 ⟨b0, o0, none⟩) fun A8 k9 eM =>
 aQ (decide ((n6 : Int) < ((k9 : Nat) : Int)))
  (aC (Mem.ld M7 ⟨b0, o0, none⟩) fun Iu fO dx =>
  ((0 : Int) ≤ n6) ∧
  ((n6 : Int) < ((fO : Nat) : Int)) ∧
  aD Iu fun iB gn =>
  aG (Mem.ld M7 ⟨iB, (gn + ((Int.toNat n6) * 3)), none⟩) .u64 fun oy =>
  aG (Mem.ld M7 ⟨iB, ((gn + ((Int.toNat n6) * 3)) + 1), none⟩) .u64 fun jY =>
  aG (Mem.ld M7 ⟨iB, ((gn + ((Int.toNat n6) * 3)) + 2), none⟩) .i64 fun mu =>
  aC (Mem.ld M7 ⟨b0, o0, none⟩) fun Eg jy eY =>
  ((0 : Int) ≤ n5) ∧
  ((n5 : Int) < ((jy : Nat) : Int)) ∧
  aD Eg fun gO ji =>
  aG (Mem.ld M7 ⟨gO, (ji + ((Int.toNat n5) * 3)), none⟩) .u64 fun z9 =>
  aG (Mem.ld M7 ⟨gO, ((ji + ((Int.toNat n5) * 3)) + 1), none⟩) .u64 fun sY =>
  aG (Mem.ld M7 ⟨gO, ((ji + ((Int.toNat n5) * 3)) + 2), none⟩) .i64 fun rH =>
  aa Tryz.prog 186 #[(.agg #[(.int .u64 oy), (.int .u64 jY), (.int .i64 mu)]), (.agg #[(.int .u64 z9), (.int .u64 sY), (.int .i64 rH)])] M7 (fun Ij zZ =>
  c6 (some Ij) fun t29 =>
  aQ t29
   (∃ lF : Nat, (lF < k3) ∧
   I1 lF [(.int .i64 n6), (.int .i64 (IntKind.wrap .i64 (n6 + 1)))] zZ)
   (∃ pL : Nat, (pL < k3) ∧
   I1 pL [(.int .i64 n5), (.int .i64 (IntKind.wrap .i64 (n6 + 1)))] zZ)) Kp)
  (K (.int .i64 n5) M7))
 (K (.int .i64 n5) M7)) :
 aa Tryz.prog 185 ([.pointer (some ⟨b0, o0, none⟩), .int .i64 x1] : List Value).toArray M K Kp :=
 bX (C := Cx) good [(2000000, .loop [(5, .c (.int .i64)), (6, .c (.int .i64))]), (5, .bL [0, 1, 3, 7, 0, 31, 63, 0, 128, 384, 896, 0, 3968, 8064, 16383] (.step 0 (.step 1 (.step 2 (.step 4 (.step 7 (.step 8 (.step 9 (.step 11 (.step 3 (.step 5 (.step 6 (.step 10 (.step 12 (.step 13 (.step 14 .done))))))))))))))))] Tryz.func185 (by kernel_rfl) (by kernel_rfl) h
theorem vL {AZ : Int} {Ba : Int} {rD : Int} {cK : Int} {cL : Int} {cN : Int} (h :
bg M (cl [(.int .u64 AZ), (.int .u64 Ba), (iV rD)] 205) fun k1 M2 =>
bg M2 (cl [(.int .u64 cK), (.int .u64 cL), (iV cN)] 205) fun k3 M4 =>
rU M4 k1 0 fun n5 =>
rU M4 k3 0 fun n6 =>
aQ (decide (n5 < n6))
 (K (.bool true) M4)
 (rU M4 k1 0 fun n7 =>
 rU M4 k3 0 fun n8 =>
 aQ (n7 == n8)
 (rU M4 k1 1 fun n9 =>
 rU M4 k3 1 fun jX =>
 K (.bool (decide (n9 < jX))) M4)
 (K (.bool false) M4))) :
 aa Tryz.prog 186 #[.agg #[.int .u64 AZ, .int .u64 Ba, .int .i64 rD], .agg #[.int .u64 cK, .int .u64 cL, .int .i64 cN]] M K Kp := vw [] Tryz.func186 h
theorem mC {b0 o0 : Nat} {x1 : Int} {x2 : Int} (h :
rS M b0 (o0 + 4) fun A1 k2 k3 =>
((0 : Int) ≤ x1) ∧
((x1 : Int) < k2) ∧
aD A1 fun k4 k5 =>
rP M k4 (k5 + (Int.toNat x1)) fun A6 =>
aD A6 fun k7 k8 =>
jg M k7 (k8 + 2) fun n9 jX gQ iy =>
bg M sQ fun dx ox =>
Fv ox dx (iV n9) (iV jX) (iV gQ) (iV iy) fun pZ =>
rS pZ b0 (o0 + 4) fun Eg jy eY =>
((0 : Int) ≤ x1) ∧
((x1 : Int) < jy) ∧
aD Eg fun gO ji =>
rP pZ gO (ji + (Int.toNat x1)) fun K2 =>
aD K2 fun uR rq =>
rS pZ uR (rq + 1) fun Ox sZ tU =>
rI pZ dx 3 fun Cg =>
aa Tryz.prog 120 #[(.slice Ox sZ tU)] pZ (fun Oi pK =>
cj (some Oi) fun Ic =>
eI pK dx 3 Cg ∧
aD Ic fun yp w6 =>
(0 ≤ Cg) ∧
(Cg < 8) ∧
sT pK yp ((w6 + 2) + (Int.toNat Cg)) (iV x2) fun MQ =>
eI MQ dx 3 Cg ∧
rS MQ b0 (o0 + 6) fun K9 ia vK =>
aa Tryz.prog 225 #[(iV x1), (.slice K9 ia vK)] MQ (fun K5 Be =>
(K5 = (.tuple #[])) ∧
K (.tuple #[]) Be) Kp) Kp) :
 aa Tryz.prog 223 #[.pointer (some ⟨b0, o0, none⟩), .int .i64 x1, .int .i64 x2] M K Kp := vw [(1, .bL [0, 1, 3, 7, 0, 31, 63, 127, 255, 511, 1023, 0, 2048, 0, 2047, 18431, 65535, 131071] (sy [0, 1, 2, 4, 11, 13, 3, 5, 6, 7, 8, 9] (.fK 12 (sy [10, 14, 15, 16, 17] .done))))] Tryz.func223 h
end Go.Proofs
namespace Go.Proofs
open Go.AF
set_option maxRecDepth 100000
theorem zw {Iw : Option Addr} {Ix Iy : Nat} {Iz : Option Addr} {IA IB : Nat} {rD : Int} {IC : Option Addr} {ID IE : Nat} {M : Mem} {K : Value → Mem → Prop} {Kp : List PanicEntry → Mem → Prop} (h :
bg M (cl [(.slice Iw Ix Iy), (.slice Iz IA IB), (iV rD), (.slice IC ID IE)] 41) fun k1 M2 =>
HT M2 k1 0 fun A3 k4 k5 A6 k7 k8 n9 Cc ei fO =>
aa Tryz.prog 71 #[(iV 0), (iV 0)] M2 (fun GL ox =>
aC (some GL) fun uQ fU eG =>
((Mem.gh ox ⟨k1, 0, none⟩ 0 4) = some [(.slice A3 k4 k5), (.slice A6 k7 k8), (iV n9), (.slice Cc ei fO)]) ∧
bg ox (cl [(iV 1), (.slice uQ fU eG), (iV 0), (iV 0), (iV 0), (iV 0)] 182) fun fV jV =>
bg jV (cl [(.pointer (some ⟨fV, 0, none⟩))] 177) fun jy tS =>
bg tS (cl [(.slice A3 k4 k5), (.slice A6 k7 k8), (iV n9), (.slice Cc ei fO), (.slice (some ⟨jy, 0, none⟩) 1 1), (.int .u64 0), (.slice none 0 0), (.slice none 0 0), (.slice none 0 0), (.int .u64 0), (.slice none 0 0), (iV 0), (iV 0), (.slice none 0 0), .nilFunc] 164) fun gO l8 =>
rS l8 k1 1 fun K2 uR rq =>
∃ Vi : IT, (∃ sZ, Vi sZ [(iV 0)] l8) ∧
∀ (tU : Nat) (_ : Nat → Value) (uS : Int) (pK : Mem), (Vi tU [(iV uS)] pK) → aQ (decide (uS < uR))
 ((0 ≤ uS) ∧
 (uS < uR) ∧
 aD K2 fun zo yp =>
 rI pK zo (yp + (Int.toNat uS)) fun GS =>
 ∃ Vj : List Value → Mem → Prop, ((rS pK gO 6 fun K9 ia vK =>
 aa Tryz.prog 72 #[(iV GS)] pK (fun K5 Be =>
 cj (some K5) fun QD =>
 bg Be (cl [(.pointer QD)] 183) fun w7 xG =>
 aA 159 K9 ia vK (some ⟨w7, 0, none⟩) 1 1 xG (fun RZ IF =>
 aC (some RZ) fun Vk QF K6 =>
 sT IF gO 6 (.slice Vk QF K6) fun w5 =>
 Vj [] w5) Kp) Kp) ∧
 (aa Tryz.prog 72 #[(iV GS)] pK (fun Vd OC =>
 cj (some Vd) fun A53 =>
 rS OC gO 6 fun Vl Nb Nc =>
 bg OC (cl [(.pointer A53)] 183) fun xg OD =>
 aA 159 Vl Nb Nc (some ⟨xg, 0, none⟩) 1 1 OD (fun v59 AV =>
 aC (some v59) fun R0 R7 Nd =>
 sT AV gO 6 (.slice R0 R7 Nd) fun Vg =>
 Vj [] Vg) Kp) Kp) ∧
 True) ∧
 ∀ Vm : Nat → Value, ∀ QG : Mem, (Vj [] QG) → ∃ yw : Nat, (yw < tU) ∧
 Vi yw [(iV (IntKind.wrap .i64 (uS + 1)))] QG)
 (rI pK k1 2 fun K7 =>
 ∃ Vn : IT, (∃ IG, Vn IG [(iV 0)] pK) ∧
 ∀ (Km : Nat) (_ : Nat → Value) (Om : Int) (Bf : Mem), (Vn Km [(iV Om)] Bf) → aQ (decide (Om < K7))
 (∃ Vo : List Value → Mem → Prop, ((rS Bf gO 7 fun Vp Vq OE =>
 aa Tryz.prog 73 #[] Bf (fun v79 zx =>
 cj (some v79) fun OF =>
 bg zx (cl [(.pointer OF)] 185) fun Kn FL =>
 aA 160 Vp Vq OE (some ⟨Kn, 0, none⟩) 1 1 FL (fun v84 M85 =>
 aC (some v84) fun A86 Vr OG =>
 sT M85 gO 7 (.slice A86 Vr OG) fun Aa =>
 Vo [] Aa) Kp) Kp) ∧
 (aa Tryz.prog 73 #[] Bf (fun La pX =>
 cj (some La) fun R8 =>
 rS pX gO 7 fun Vs OH k95 =>
 bg pX (cl [(.pointer R8)] 185) fun k96 Lb =>
 aA 160 Vs OH k95 (some ⟨k96, 0, none⟩) 1 1 Lb (fun v98 Vt =>
 aC (some v98) fun Vu Vv Lc =>
 sT Vt gO 7 (.slice Vu Vv Lc) fun OI =>
 Vo [] OI) Kp) Kp) ∧
 True) ∧
 ∀ TP : Nat → Value, ∀ CZ : Mem, (Vo [] CZ) → ∃ uB : Nat, (uB < Km) ∧
 Vn uB [(iV (IntKind.wrap .i64 (Om + 1)))] CZ)
 (K (.pointer (some ⟨gO, 0, none⟩)) Bf))) Kp) :
 aa Tryz.prog 36 #[.agg #[.slice Iw Ix Iy, .slice Iz IA IB, .int .i64 rD, .slice IC ID IE]] M K Kp := vw [(1, .bL [0, 0, 2, 6, 14, 31, 63, 127] (.fK 0 (sy [1, 2, 3, 4, 5, 6, 7] .done))), (2000000, .loop [(16, .c (.int .i64))]), (5, .Fj [0, 0, 2, 6, 14, 0, 32, 96, 254, 511, 1023, 2047] (sy [0, 1, 2, 3, 5] (.fork 4 (sy [6, 7, 8, 9, 10, 11] .done) (.fork 6 (sy [4, 7, 8, 9, 10, 11] .done) .dead))) []), (2000002, .loop [(34, .c (.int .i64))]), (9, .Fj [0, 0, 2, 6, 14, 0, 32, 126, 255, 511, 1023] (sy [0, 1, 2, 3] (.fork 4 (sy [5, 6, 7, 8, 9, 10] .done) (.fork 5 (sy [4, 6, 7, 8, 9, 10] .done) .dead))) [])] Tryz.func36 h
theorem iF {b0 o0 : Nat} {x1 : Int} {u2 : Value} {M : Mem} {K : Value → Mem → Prop} {Kp : List PanicEntry → Mem → Prop} (h :
bg M (.cells #[(.bool false), (.slice none 0 0)] 120 (0, 0)) fun k1 M2 =>
aQ (decide ((x1 : Int) < 0))
 (aF M2 ⟨k1, 0, none⟩ (.bool false) fun M3 =>
 aF M3 ⟨k1, (0 + 1), none⟩ (.slice none 0 0) fun M4 =>
 c6 (Mem.ld M4 ⟨k1, 0, none⟩) fun t5 =>
 aC (Mem.ld M4 ⟨k1, (0 + 1), none⟩) fun A6 k7 k8 =>
 K (.agg #[(.bool t5), (.slice A6 k7 k8)]) M4)
 (aC (Mem.ld M2 ⟨b0, (o0 + 4), none⟩) fun A9 eM ei =>
 aQ (decide ((x1 : Int) ≥ ((eM : Nat) : Int)))
  (aF M2 ⟨k1, 0, none⟩ (.bool false) fun sw =>
  aF sw ⟨k1, (0 + 1), none⟩ (.slice none 0 0) fun ku =>
  c6 (Mem.ld ku ⟨k1, 0, none⟩) fun t14 =>
  aC (Mem.ld ku ⟨k1, (0 + 1), none⟩) fun uQ fU eG =>
  K (.agg #[(.bool t14), (.slice uQ fU eG)]) ku)
  (aG (Mem.ld M2 ⟨b0, (o0 + 11), none⟩) .i64 fun mu =>
  aQ (mu != 0)
   (aF M2 ⟨k1, 0, none⟩ (.bool false) fun jV =>
   aF jV ⟨k1, (0 + 1), none⟩ (.slice none 0 0) fun rm =>
   c6 (Mem.ld rm ⟨k1, 0, none⟩) fun t21 =>
   aC (Mem.ld rm ⟨k1, (0 + 1), none⟩) fun Vb ji sS =>
   K (.agg #[(.bool t21), (.slice Vb ji sS)]) rm)
   (aC (Mem.ld M2 ⟨b0, (o0 + 4), none⟩) fun KX rq zl =>
   ((0 : Int) ≤ x1) ∧
   ((x1 : Int) < ((rq : Nat) : Int)) ∧
   aD KX fun sZ tU =>
   cj (Mem.ld M2 ⟨sZ, (tU + (Int.toNat x1)), none⟩) fun RM =>
   aD RM fun pL w9 =>
   aG (Mem.ld M2 ⟨pL, w9, none⟩) .i64 fun Ee =>
   aQ (Ee != 1)
    (aF M2 ⟨k1, 0, none⟩ (.bool false) fun sB =>
    aF sB ⟨k1, (0 + 1), none⟩ (.slice none 0 0) fun xH =>
    c6 (Mem.ld xH ⟨k1, 0, none⟩) fun t36 =>
    aC (Mem.ld xH ⟨k1, (0 + 1), none⟩) fun K9 ia vK =>
    K (.agg #[(.bool t36), (.slice K9 ia vK)]) xH)
    (aF M2 ⟨b0, (o0 + 13), none⟩ (.slice none 0 0) fun OB =>
    xQ u2 <|
    aF OB ⟨b0, (o0 + 14), none⟩ u2 fun Be =>
    aa Tryz.prog 88 #[(.pointer (some ⟨b0, o0, none⟩)), (.int .i64 x1)] Be (fun v42 xd =>
    c6 (some v42) fun t44 =>
    aQ (!t44)
     (aG (Mem.ld xd ⟨b0, (o0 + 11), none⟩) .i64 fun FI =>
     aQ (FI == 0)
      (aC (Mem.ld xd ⟨b0, (o0 + 4), none⟩) fun A46 RH QF =>
      ((0 : Int) ≤ x1) ∧
      ((x1 : Int) < ((RH : Nat) : Int)) ∧
      aD A46 fun K6 Kl =>
      cj (Mem.ld xd ⟨K6, (Kl + (Int.toNat x1)), none⟩) fun Oh =>
      aD Oh fun sA rj =>
      aG (Mem.ld xd ⟨sA, rj, none⟩) .i64 fun RX =>
      aC (Mem.ld xd ⟨b0, (o0 + 13), none⟩) fun R9 Nc xg =>
      aF xd ⟨k1, 0, none⟩ (.bool (RX == 1)) fun OD =>
      aF OD ⟨k1, (0 + 1), none⟩ (.slice R9 Nc xg) fun yx =>
      c6 (Mem.ld yx ⟨k1, 0, none⟩) fun t60 =>
      aC (Mem.ld yx ⟨k1, (0 + 1), none⟩) fun R0 R7 Nd =>
      K (.agg #[(.bool t60), (.slice R0 R7 Nd)]) yx)
      (aC (Mem.ld xd ⟨b0, (o0 + 13), none⟩) fun A64 k65 II =>
      aF xd ⟨k1, 0, none⟩ (.bool false) fun M67 =>
      aF M67 ⟨k1, (0 + 1), none⟩ (.slice A64 k65 II) fun Sa =>
      c6 (Mem.ld Sa ⟨k1, 0, none⟩) fun t69 =>
      aC (Mem.ld Sa ⟨k1, (0 + 1), none⟩) fun A70 Km Vw =>
      K (.agg #[(.bool t69), (.slice A70 Km Vw)]) Sa))
     (aC (Mem.ld xd ⟨b0, (o0 + 13), none⟩) fun A73 Vx Vy =>
     aF xd ⟨k1, 0, none⟩ (.bool false) fun Va =>
     aF Va ⟨k1, (0 + 1), none⟩ (.slice A73 Vx Vy) fun Sb =>
     c6 (Mem.ld Sb ⟨k1, 0, none⟩) fun t78 =>
     aC (Mem.ld Sb ⟨k1, (0 + 1), none⟩) fun OJ Ld uU =>
     K (.agg #[(.bool t78), (.slice OJ Ld uU)]) Sb)) Kp))))) :
 aa Tryz.prog 41 ([.pointer (some ⟨b0, o0, none⟩), .int .i64 x1, u2] : List Value).toArray M K Kp :=
 bX (C := Cx) good [(5, .bL [0, 1, 3, 7, 15, 31, 63, 127, 255, 511, 1023, 2047, 4095, 8191, 1023, 32767, 65535, 131071, 262143, 524287, 1048575, 2097151, 0, 4194304, 12582912, 29360128, 67108863, 134217727] (.step 0 (.step 1 (.step 2 (.step 3 (.step 4 (.step 5 (.step 22 (.step 23 (.step 24 (.step 6 (.step 7 (.step 8 (.step 9 (.step 10 (.step 11 (.step 12 (.step 14 (.step 13 (.step 15 (.step 16 (.step 17 (.step 18 (.step 19 (.step 20 (.step 21 (.step 25 (.step 26 (.step 27 .done)))))))))))))))))))))))))))))] Tryz.func41 (by kernel_rfl) (by kernel_rfl) h
theorem nv {b0 o0 : Nat} {M : Mem} {K : Value → Mem → Prop} {Kp : List PanicEntry → Mem → Prop} (h :
aG (Mem.ld M ⟨b0, (o0 + 11), none⟩) .i64 fun n1 =>
aQ (n1 != 0)
 (K (.bool false) M)
 (aC (Mem.ld M ⟨b0, (o0 + 4), none⟩) fun A2 k3 k4 =>
 ∃ I5 : Nat → List Value → Mem → Prop, (∃ k6 : Nat, I5 k6 [(.int .i64 0)] M) ∧
 ∀ k7 : Nat, ∀ Zf : Nat → Value, ∀ n9 : Int, ∀ js : Mem, (I5 k7 [(.int .i64 n9)] js) → aQ (decide ((n9 : Int) < ((k3 : Nat) : Int)))
  (((0 : Int) ≤ n9) ∧
  ((n9 : Int) < ((k3 : Nat) : Int)) ∧
  aD A2 fun ei fO =>
  cj (Mem.ld js ⟨ei, (fO + (Int.toNat n9)), none⟩) fun Kj =>
  aD Kj fun iB gn =>
  aG (Mem.ld js ⟨iB, gn, none⟩) .i64 fun oy =>
  aQ (oy == 1)
   (K (.bool false) js)
   (aD Kj fun eG fV =>
   aG (Mem.ld js ⟨eG, fV, none⟩) .i64 fun zm =>
   aQ (zm == 3)
    (K (.bool false) js)
    (∃ jy : Nat, (jy < k7) ∧
    I5 jy [(.int .i64 (IntKind.wrap .i64 (n9 + 1)))] js)))
  (K (.bool true) js))) :
 aa Tryz.prog 44 ([.pointer (some ⟨b0, o0, none⟩)] : List Value).toArray M K Kp :=
 bX (C := Cx) good [(2000000, .loop [(15, .c (.int .i64))])] Tryz.func44 (by kernel_rfl) (by kernel_rfl) h
variable {M : Mem} {K : Value → Mem → Prop} {Kp : List PanicEntry → Mem → Prop}
theorem s9 {B0 : Option Addr} {m0 c0 : Nat} (h :
bg M (cl [] 36) fun k1 M2 =>
aA 35 (some ⟨k1, 0, none⟩) 0 0 B0 m0 c0 M2 (fun v3 M4 =>
aC (some v3) fun A5 k6 k7 =>
bg M4 (cl [(.slice A5 k6 k7), (iV 0)] 147) fun k8 M9 =>
bg M9 (.cells #[(.func (.func 54) #[(.pointer (some ⟨k8, 0, none⟩))] #[]), (.func (.func 55) #[(.pointer (some ⟨k8, 0, none⟩))] #[]), (.slice none 0 0), .nilFunc] 151 (0, 0)) fun eM jG =>
K (.pointer (some ⟨eM, 0, none⟩)) jG) Kp) :
 aa Tryz.prog 17 #[.slice B0 m0 c0] M K Kp := vw [] Tryz.func17 h
theorem mD {b0 o0 : Nat} {x1 : Int} {x2 : Int} (h :
aG (Mem.ld M ⟨b0, (o0 + 1), none⟩) .i64 fun n1 =>
aC (Mem.ld M ⟨b0, o0, none⟩) fun A2 k3 k4 =>
aQ (decide ((n1 : Int) ≥ ((k3 : Nat) : Int)))
 (Kp [{ v := (.iface 227 (.agg #[])), recovered := false }] M)
 (aG (Mem.ld M ⟨b0, (o0 + 1), none⟩) .i64 fun n5 =>
 aF M ⟨b0, (o0 + 1), none⟩ (.int .i64 (IntKind.wrap .i64 (n5 + 1))) fun M6 =>
 aC (Mem.ld M6 ⟨b0, o0, none⟩) fun A7 k8 k9 =>
 aG (Mem.ld M6 ⟨b0, (o0 + 1), none⟩) .i64 fun jX =>
 ((0 : Int) ≤ (IntKind.wrap .i64 (jX - 1))) ∧
 (((IntKind.wrap .i64 (jX - 1)) : Int) < ((k8 : Nat) : Int)) ∧
 aD A7 fun ei fO =>
 aG (Mem.ld M6 ⟨ei, (fO + (Int.toNat (IntKind.wrap .i64 (jX - 1)))), none⟩) .u64 fun ju =>
 (((IntKind.wrap .u64 x2) : Int) ≠ 0) ∧
 K (.int .u64 (Int.tmod ju (IntKind.wrap .u64 x2))) M6)) :
 aa Tryz.prog 54 ([.pointer (some ⟨b0, o0, none⟩), .int .i64 x1, .int .i64 x2] : List Value).toArray M K Kp :=
 bX (C := Cx) good [(1, .bL [0, 1, 3, 7, 0, 16, 48, 112, 240, 511] (.step 0 (.step 1 (.step 2 (.step 4 (.step 5 (.step 6 (.step 3 (.step 7 (.step 8 (.step 9 .done))))))))))), (4, .bL [0, 1, 3, 7, 0, 16, 48, 112, 240, 511, 1023, 0, 2048, 8191, 16383] (.step 0 (.step 1 (.step 2 (.step 4 (.step 5 (.step 6 (.step 11 (.step 12 (.step 3 (.step 7 (.step 8 (.step 9 (.step 10 (.step 13 (.step 14 .done))))))))))))))))] Tryz.func54 (by kernel_rfl) (by kernel_rfl) h
theorem uC {u0 : Value} (h :
bg M m9 fun k1 M2 =>
bg M2 MO fun k3 M4 =>
bg M4 m9 fun k5 M6 =>
sT M6 k3 0 (iV 0) fun M7 =>
UW M7 k5 (iV 0) (iV 0) (iV 0) (iV 0) (.int .u64 0) fun sw =>
aa Tryz.prog 104 #[u0, (.pointer (some ⟨k3, 0, none⟩)), (.pointer (some ⟨k5, 0, none⟩))] sw (fun GL ox =>
(GL = (.tuple #[])) ∧
rI ox k3 0 fun jt =>
HU ox k5 0 fun oy jY mu zm hG =>
UW ox k1 (iV oy) (iV jY) (iV mu) (iV zm) (.int .u64 hG) fun Eh =>
HU Eh k1 0 fun rH xE tT AY Cg =>
K (.tuple #[(iV jt), (.agg #[(iV rH), (iV xE), (iV tT), (iV AY), (.int .u64 Cg)])]) Eh) Kp) :
 aa Tryz.prog 56 #[u0] M K Kp := vw [(3, .bL [0, 0, 1, 7] (sy [0, 2, 1, 3] .done))] Tryz.func56 h
theorem po {b0 o0 : Nat} {x1 : Int} {x2 : Int} (h :
aG (Mem.ld M ⟨b0, (o0 + 1), none⟩) .i64 fun n1 =>
aC (Mem.ld M ⟨b0, o0, none⟩) fun A2 k3 k4 =>
aQ (decide ((n1 : Int) ≥ ((k3 : Nat) : Int)))
 (Kp [{ v := (.iface 227 (.agg #[])), recovered := false }] M)
 (aC (Mem.ld M ⟨b0, o0, none⟩) fun A5 k6 k7 =>
 aG (Mem.ld M ⟨b0, (o0 + 1), none⟩) .i64 fun n8 =>
 ((0 : Int) ≤ n8) ∧
 ((n8 : Int) < ((k6 : Nat) : Int)) ∧
 aD A5 fun k9 eM =>
 aG (Mem.ld M ⟨k9, (eM + ((Int.toNat n8) * 2)), none⟩) .i64 fun gQ =>
 aG (Mem.ld M ⟨k9, ((eM + ((Int.toNat n8) * 2)) + 1), none⟩) .u64 fun iy =>
 bg M (.cells #[(.int .i64 0), (.int .u64 0)] 153 (0, 0)) fun dx ox =>
 aF ox ⟨dx, 0, none⟩ (.int .i64 gQ) fun uz =>
 aF uz ⟨dx, (0 + 1), none⟩ (.int .u64 iy) fun eF =>
 aG (Mem.ld eF ⟨dx, 0, none⟩) .i64 fun jY =>
 aQ (jY != x1)
  (aG (Mem.ld eF ⟨b0, (o0 + 1), none⟩) .i64 fun mu =>
  aG (Mem.ld eF ⟨dx, 0, none⟩) .i64 fun zm =>
  aG (Mem.ld eF ⟨dx, (0 + 1), none⟩) .u64 fun hG =>
  Kp [{ v := (.iface 155 (.agg #[(.int .i64 mu), (.int .i64 x1), (.int .i64 x2), (.int .i64 zm), (.int .u64 hG)])), recovered := false }] eF)
  (aG (Mem.ld eF ⟨dx, (0 + 1), none⟩) .u64 fun qI =>
  aQ (decide ((qI : Int) ≥ (IntKind.wrap .u64 x2)))
   (aG (Mem.ld eF ⟨b0, (o0 + 1), none⟩) .i64 fun ux =>
   aG (Mem.ld eF ⟨dx, 0, none⟩) .i64 fun zn =>
   aG (Mem.ld eF ⟨dx, (0 + 1), none⟩) .u64 fun z9 =>
   Kp [{ v := (.iface 155 (.agg #[(.int .i64 ux), (.int .i64 x1), (.int .i64 x2), (.int .i64 zn), (.int .u64 z9)])), recovered := false }] eF)
   (aG (Mem.ld eF ⟨b0, (o0 + 1), none⟩) .i64 fun sY =>
   aF eF ⟨b0, (o0 + 1), none⟩ (.int .i64 (IntKind.wrap .i64 (sY + 1))) fun tZ =>
   aG (Mem.ld tZ ⟨dx, (0 + 1), none⟩) .u64 fun xE =>
   K (.int .u64 xE) tZ)))) :
 aa Tryz.prog 66 ([.pointer (some ⟨b0, o0, none⟩), .int .i64 x1, .int .i64 x2] : List Value).toArray M K Kp :=
 bX (C := Cx) good [(1, .bL [0, 1, 3, 7, 0, 16, 48, 112, 240, 511] (.step 0 (.step 1 (.step 2 (.step 4 (.step 5 (.step 6 (.step 3 (.step 7 (.step 8 (.step 9 .done))))))))))), (3, .bL [0, 1, 3, 7, 0, 16, 48, 112, 255, 511, 0, 2047] (.step 0 (.step 1 (.step 2 (.step 4 (.step 5 (.step 6 (.step 3 (.step 7 (.step 8 (.step 9 (.step 10 (.step 11 .done))))))))))))), (5, .bL [0, 1, 3, 7, 0, 0, 0, 127, 255, 511] (.step 0 (.step 1 (.step 2 (.step 4 (.step 5 (.step 3 (.step 6 (.step 7 (.step 8 (.step 9 .done)))))))))))] Tryz.func66 (by kernel_rfl) (by kernel_rfl) h
theorem mE {b0 o0 : Nat} {x1 : Int} {x2 : Int} (h :
eU (Mem.ld M ⟨b0, o0, none⟩) fun v1 =>
gy Cx v1 [(iV x1), (iV (if (1 : Int) > x2 then 1 else x2))] M (fun v2 M3 =>
aG (some v2) .u64 fun n4 =>
bg M3 HV fun k5 M6 =>
UU M6 k5 (iV x1) (.int .u64 n4) fun M8 =>
rS M8 b0 (o0 + 2) fun A9 eM ei =>
Zb M8 k5 0 fun iy ju =>
bg M8 (cl [(iV iy), (.int .u64 ju)] 153) fun iB uz =>
aA 97 A9 eM ei (some ⟨iB, 0, none⟩) 1 1 uz (fun K4 oN =>
aC (some K4) fun Em iw jy =>
sT oN b0 (o0 + 2) (.slice Em iw jy) fun tS =>
eU (Mem.ld tS ⟨b0, (o0 + 3), none⟩) fun FF =>
D0 FF fun t23 =>
aQ (!t23)
 (eU (Mem.ld tS ⟨b0, (o0 + 3), none⟩) fun RU =>
 Zb tS k5 0 fun sY rH =>
 gy Cx RU [(.agg #[(iV sY), (.int .u64 rH)])] tS (fun Ij zZ =>
 (Ij = (.tuple #[])) ∧
 rU zZ k5 1 fun AY =>
 K (iV (IntKind.wrap .i64 AY)) zZ) Kp)
 (rU tS k5 1 fun Cg =>
 K (iV (IntKind.wrap .i64 Cg)) tS)) Kp) Kp) :
 aa Tryz.prog 98 #[.pointer (some ⟨b0, o0, none⟩), .int .i64 x1, .int .i64 x2] M K Kp := vw [(2, .bL [0, 0, 2, 6, 14, 0, 32, 126, 255, 511, 1023] (sy [0, 1, 2, 3, 4, 5, 6, 7, 8, 9, 10] .done)), (4, .bL [0, 1, 3, 7, 0, 31] (sy [0, 1, 2, 3, 4, 5] .done))] Tryz.func98 h
end Go.Proofs
namespace Go.Proofs
open Go.AF
set_option maxRecDepth 100000
variable {M : Mem} {K : Value → Mem → Prop} {Kp : List PanicEntry → Mem → Prop}
theorem zy {x0 : Int} (h :
aa Tryz.prog 103 #[(iV x0)] M (fun v1 M2 =>
cj (some v1) fun A3 =>
bg M2 (cl [(iV (-1)), (.pointer A3)] 224) fun k4 M5 =>
K (.pointer (some ⟨k4, 0, none⟩)) M5) Kp) :
 aa Tryz.prog 52 #[.int .i64 x0] M K Kp := vw [] Tryz.func52 h
theorem pq {b0 o0 : Nat} {B1 : Option Addr} {m1 c1 : Nat} (h :
aC (Mem.ld M ⟨b0, o0, none⟩) fun A1 k2 k3 =>
aZ Tryz.prog (Go.Builtin.append_ #[38, 38] 38 #[(.slice A1 k2 k3), (.slice B1 m1 c1)]) M (fun v4 M5 =>
aC (some v4) fun A6 k7 k8 =>
aF M5 ⟨b0, o0, none⟩ (.slice A6 k7 k8) fun M9 =>
K (.tuple #[]) M9) Kp) :
 aa Tryz.prog 53 ([.pointer (some ⟨b0, o0, none⟩), .slice B1 m1 c1] : List Value).toArray M K Kp :=
 bX (C := Cx) good [] Tryz.func53 (by kernel_rfl) (by kernel_rfl) h
theorem pz {b0 o0 : Nat} (h :
rI M b0 o0 fun n1 =>
K (iV n1) M) :
 aa Tryz.prog 58 #[.pointer (some ⟨b0, o0, none⟩)] M K Kp := vw [] Tryz.func58 h
theorem Bg {x0 : Int} (h :
aZ Tryz.prog (Go.Instr.makeSlice 38 (iV (if (1024 : Int) < (if (1 : Int) > x0 then 1 else x0) then 1024 else (if (1 : Int) > x0 then 1 else x0))) (iV (if (1024 : Int) < (if (1 : Int) > x0 then 1 else x0) then 1024 else (if (1 : Int) > x0 then 1 else x0)))) M (fun v1 M2 =>
aC (some v1) fun A3 k4 k5 =>
bg M2 (cl [(.slice A3 k4 k5), (iV 0), (iV 0)] 280) fun k6 M7 =>
K (.pointer (some ⟨k6, 0, none⟩)) M7) Kp) :
 aa Tryz.prog 103 #[.int .i64 x0] M K Kp := vw [] Tryz.func103 h
theorem qn {b0 o0 : Nat} (h :
rI M b0 o0 fun n1 =>
aQ (n1 != (-1))
 (sT M b0 o0 (iV (-1)) fun M2 =>
 K (.tuple #[(iV n1), (.bool true)]) M2)
 (rP M b0 (o0 + 1) fun A3 =>
 aa Tryz.prog 176 #[(.pointer A3)] M (fun v4 M5 =>
 ∃ n6 : Int, ∃ t7 : Bool, (v4 = (.tuple #[(iV n6), (.bool t7)])) ∧
 aQ (!t7)
 (K (.tuple #[(iV (-1)), (.bool false)]) M5)
 (K (.tuple #[(iV n6), (.bool true)]) M5)) Kp)) :
 aa Tryz.prog 131 #[.pointer (some ⟨b0, o0, none⟩)] M K Kp := vw [] Tryz.func131 h
theorem ie {b0 o0 : Nat} {b1 o1 : Nat} (h :
Go.AF.ptrEq M (some ⟨b0, o0, none⟩) (some ⟨b1, o1, none⟩) fun t1 =>
aQ t1
 (K (.tuple #[(iV (-1)), (.bool false)]) M)
 (rP M b1 (o1 + 1) fun A2 =>
 aa Tryz.prog 180 #[(.pointer A2)] M (fun v3 M4 =>
 aG (some v3) .i64 fun n5 =>
 aQ (n5 == 0)
 (rI M4 b1 o1 fun n6 =>
 sT M4 b1 o1 (iV (-1)) fun M7 =>
 K (.tuple #[(iV n6), (.bool (n6 != (-1)))]) M7)
 (((2 : Int) ≠ 0) ∧
 rP M4 b0 (o0 + 1) fun A8 =>
 rP M4 b1 (o1 + 1) fun A9 =>
 rP M4 b0 (o0 + 1) fun Cc =>
 aa Tryz.prog 182 #[(.pointer A8)] M4 (fun v11 sw =>
 aG (some v11) .i64 fun ju =>
 ((Mem.ld sw ⟨b0, (o0 + 1), none⟩) = (some (.pointer Cc))) ∧
 ((Mem.ld sw ⟨b1, (o1 + 1), none⟩) = (some (.pointer A9))) ∧
 aa Tryz.prog 180 #[(.pointer Cc)] sw (fun Vf uz =>
 aG (some Vf) .i64 fun oy =>
 ((Mem.ld uz ⟨b0, (o0 + 1), none⟩) = (some (.pointer Cc))) ∧
 ((Mem.ld uz ⟨b1, (o1 + 1), none⟩) = (some (.pointer A9))) ∧
 aa Tryz.prog 181 #[(.pointer A9), (iV (if ((IntKind.wrap .i64 ((IntKind.wrap .i64 (ju - oy)) + 1)) : Int) < (IntKind.wrap .i64 (n5 - (IntKind.wrap .i64 (Int.tdiv n5 2)))) then (IntKind.wrap .i64 ((IntKind.wrap .i64 (ju - oy)) + 1)) else (IntKind.wrap .i64 (n5 - (IntKind.wrap .i64 (Int.tdiv n5 2))))))] uz (fun RW pZ =>
 aC (some RW) fun Eg jy eY =>
 ((Mem.ld pZ ⟨b0, (o0 + 1), none⟩) = (some (.pointer Cc))) ∧
 ((Mem.ld pZ ⟨b1, (o1 + 1), none⟩) = (some (.pointer A9))) ∧
 ((0 : Int) ≤ eY) ∧
 ((eY : Int) ≤ eY) ∧
 ((0 : Int) ≤ jy) ∧
 ((jy : Int) ≤ eY) ∧
 ((0 : Int) ≤ 1) ∧
 ((1 : Int) ≤ jy) ∧
 ∃ Vz : IT, (∃ ji, Vz ji [(iV 0)] pZ) ∧
 ∀ (sS : Nat) (_ : Nat → Value) (rH : Int) (tV : Mem), (Vz sS [(iV rH)] tV) → aQ (decide ((rH : Int) < ((((Int.toNat (jy : Int)) - 1) : Nat) : Int)))
 ((0 ≤ rH) ∧
 ((rH : Int) < ((((Int.toNat (jy : Int)) - 1) : Nat) : Int)) ∧
 aD (kU Eg 1 (Int.toNat (eY : Int)) 1) fun sZ tU =>
 rI tV sZ (tU + (Int.toNat rH)) fun Cg =>
 rP tV b0 (o0 + 1) fun RP =>
 aa Tryz.prog 183 #[(.pointer RP), (iV Cg)] tV (fun v32 Cd =>
 c6 (some v32) fun t34 =>
 ∃ w6 : Nat, (w6 < sS) ∧
 Vz w6 [(iV (IntKind.wrap .i64 (rH + 1)))] Cd) Kp)
 (((0 : Int) ≤ 0) ∧
 ((0 : Int) < jy) ∧
 aD Eg fun Ej xe =>
 rI tV Ej (xe + 0) fun FC =>
 K (.tuple #[(iV FC), (.bool true)]) tV)) Kp) Kp) Kp)) Kp)) :
 aa Tryz.prog 133 #[.pointer (some ⟨b0, o0, none⟩), .pointer (some ⟨b1, o1, none⟩)] M K Kp := vw [(8, .bL [0, 1, 3, 7, 0, 0, 32, 112, 0, 256, 768, 1792, 3840, 0, 8192, 24576, 57344, 130816, 261888, 524032, 1048560, 2097151, 4194303] (sy [0, 1, 2, 4, 5, 6, 7, 8, 9, 10, 13, 14, 15, 11] (.fK 3 (.fK 16 (sy [12, 17, 18, 19, 20, 21, 22] .done))))), (2000000, .loop [(56, .c (.int .i64))])] Tryz.func133 h
theorem nw {b0 o0 : Nat} {x1 : Int} {b2 o2 : Nat} (h :
rI M b0 o0 fun n1 =>
sT M b0 o0 (iV x1) fun M2 =>
aQ (n1 == (-1))
 (K (iV 0) M2)
 (aa Tryz.prog 184 #[(.pointer (some ⟨b0, o0, none⟩)), (iV n1), (.pointer (some ⟨b2, o2, none⟩))] M2 (fun v3 M4 =>
 aG (some v3) .i64 fun n5 =>
 K (iV n5) M4) Kp)) :
 aa Tryz.prog 134 #[.pointer (some ⟨b0, o0, none⟩), .int .i64 x1, .pointer (some ⟨b2, o2, none⟩)] M K Kp := vw [] Tryz.func134 h
theorem ta {b0 o0 : Nat} (h :
rI M b0 (o0 + 2) fun n1 =>
aQ (n1 == 0)
 (K (.tuple #[(iV 0), (.bool false)]) M)
 (rS M b0 o0 fun A2 k3 k4 =>
 rI M b0 (o0 + 1) fun n5 =>
 (0 ≤ n5) ∧
 (n5 < k3) ∧
 aD A2 fun k6 k7 =>
 rI M k6 (k7 + (Int.toNat n5)) fun n8 =>
 rI M b0 (o0 + 1) fun n9 =>
 rS M b0 o0 fun Cc ei fO =>
 ((ei : Int) ≠ 0) ∧
 sT M b0 (o0 + 1) (iV (Int.tmod (IntKind.wrap .i64 (n9 + 1)) (ei : Int))) fun ku =>
 rI ku b0 (o0 + 2) fun mj =>
 sT ku b0 (o0 + 2) (iV (IntKind.wrap .i64 (mj - 1))) fun uz =>
 K (.tuple #[(iV n8), (.bool true)]) uz)) :
 aa Tryz.prog 176 #[.pointer (some ⟨b0, o0, none⟩)] M K Kp := vw [(3, .bL [0, 1, 3, 7, 0, 16, 48, 112, 255, 511, 1023] (sy [0, 1, 2, 4, 5, 6, 3, 7, 8, 9, 10] .done)), (4, .bL [0, 0, 2, 6, 14, 30, 0, 64, 192, 448, 960, 2046, 4095, 8191, 16383] (sy [0, 1, 2, 3, 6, 7, 8, 4, 5, 9, 10, 11, 12, 13, 14] .done))] Tryz.func176 h
theorem pA {b0 o0 : Nat} {b1 o1 : Nat} (h :
rI M b0 o0 fun n1 =>
aQ (n1 == (-1))
 (K (iV 0) M)
 (sT M b0 o0 (iV (-1)) fun M2 =>
 aa Tryz.prog 184 #[(.pointer (some ⟨b0, o0, none⟩)), (iV n1), (.pointer (some ⟨b1, o1, none⟩))] M2 (fun v3 M4 =>
 aG (some v3) .i64 fun n5 =>
 K (iV n5) M4) Kp)) :
 aa Tryz.prog 177 #[.pointer (some ⟨b0, o0, none⟩), .pointer (some ⟨b1, o1, none⟩)] M K Kp := vw [] Tryz.func177 h
theorem ny {b0 o0 : Nat} {x1 : Int} (h :
aC (Mem.ld M ⟨b0, o0, none⟩) fun A1 k2 k3 =>
bg M (.cells #[] 3 (0, 0)) fun k4 M5 =>
aC (Mem.ld M5 ⟨b0, o0, none⟩) fun A6 k7 k8 =>
((0 : Int) ≤ ((k8 : Nat) : Int)) ∧
((((k8 : Nat) : Int) : Int) ≤ ((k8 : Nat) : Int)) ∧
((0 : Int) ≤ (if (((k2 : Nat) : Int) : Int) < (if (0 : Int) > x1 then 0 else x1) then ((k2 : Nat) : Int) else (if (0 : Int) > x1 then 0 else x1))) ∧
(((if (((k2 : Nat) : Int) : Int) < (if (0 : Int) > x1 then 0 else x1) then ((k2 : Nat) : Int) else (if (0 : Int) > x1 then 0 else x1)) : Int) ≤ ((k8 : Nat) : Int)) ∧
((0 : Int) ≤ 0) ∧
((0 : Int) ≤ (if (((k2 : Nat) : Int) : Int) < (if (0 : Int) > x1 then 0 else x1) then ((k2 : Nat) : Int) else (if (0 : Int) > x1 then 0 else x1))) ∧
aZ Tryz.prog (Go.Builtin.append_ #[38, 38] 38 #[(.slice (some ⟨k4, 0, none⟩) 0 0), (.slice (kU A6 0 (Int.toNat ((k8 : Nat) : Int)) 1) ((Int.toNat (if (((k2 : Nat) : Int) : Int) < (if (0 : Int) > x1 then 0 else x1) then ((k2 : Nat) : Int) else (if (0 : Int) > x1 then 0 else x1))) - 0) ((Int.toNat ((k8 : Nat) : Int)) - 0))]) M5 (fun v9 js =>
aC (some v9) fun Iu fO dx =>
bg js (.cells #[] 3 (0, 0)) fun iB uz =>
aC (Mem.ld uz ⟨b0, o0, none⟩) fun QI eG fV =>
((0 : Int) ≤ ((fV : Nat) : Int)) ∧
((((fV : Nat) : Int) : Int) ≤ ((fV : Nat) : Int)) ∧
((0 : Int) ≤ ((eG : Nat) : Int)) ∧
((((eG : Nat) : Int) : Int) ≤ ((fV : Nat) : Int)) ∧
((0 : Int) ≤ (if (((k2 : Nat) : Int) : Int) < (if (0 : Int) > x1 then 0 else x1) then ((k2 : Nat) : Int) else (if (0 : Int) > x1 then 0 else x1))) ∧
(((if (((k2 : Nat) : Int) : Int) < (if (0 : Int) > x1 then 0 else x1) then ((k2 : Nat) : Int) else (if (0 : Int) > x1 then 0 else x1)) : Int) ≤ ((eG : Nat) : Int)) ∧
aZ Tryz.prog (Go.Builtin.append_ #[38, 38] 38 #[(.slice (some ⟨iB, 0, none⟩) 0 0), (.slice (kU QI (Int.toNat (if (((k2 : Nat) : Int) : Int) < (if (0 : Int) > x1 then 0 else x1) then ((k2 : Nat) : Int) else (if (0 : Int) > x1 then 0 else x1))) (Int.toNat ((fV : Nat) : Int)) 1) ((Int.toNat ((eG : Nat) : Int)) - (Int.toNat (if (((k2 : Nat) : Int) : Int) < (if (0 : Int) > x1 then 0 else x1) then ((k2 : Nat) : Int) else (if (0 : Int) > x1 then 0 else x1)))) ((Int.toNat ((fV : Nat) : Int)) - (Int.toNat (if (((k2 : Nat) : Int) : Int) < (if (0 : Int) > x1 then 0 else x1) then ((k2 : Nat) : Int) else (if (0 : Int) > x1 then 0 else x1)))))]) uz (fun K8 rm =>
aC (some K8) fun xA gO ji =>
aF rm ⟨b0, o0, none⟩ (.slice xA gO ji) fun iS =>
K (.slice Iu fO dx) iS) Kp) Kp) :
 aa Tryz.prog 178 ([.pointer (some ⟨b0, o0, none⟩), .int .i64 x1] : List Value).toArray M K Kp :=
 bX (C := Cx) good [] Tryz.func178 (by kernel_rfl) (by kernel_rfl) h
theorem nA {b0 o0 : Nat} {b1 o1 : Nat} {x2 : Int} (h :
rP M b0 (o0 + 1) fun A1 =>
rP M b0 (o0 + 1) fun A2 =>
aa Tryz.prog 217 #[(.pointer (some ⟨b1, o1, none⟩))] M (fun v3 M4 =>
aG (some v3) .i64 fun n5 =>
((Mem.ld M4 ⟨b0, (o0 + 1), none⟩) = (some (.pointer A2))) ∧
((Mem.ld M4 ⟨b0, (o0 + 1), none⟩) = (some (.pointer A1))) ∧
(((if (1 : Int) > x2 then 1 else x2) : Int) ≠ 0) ∧
aa Tryz.prog 182 #[(.pointer A1)] M4 (fun v6 M7 =>
aG (some v6) .i64 fun n8 =>
((Mem.ld M7 ⟨b0, (o0 + 1), none⟩) = (some (.pointer A2))) ∧
((Mem.ld M7 ⟨b0, (o0 + 1), none⟩) = (some (.pointer A1))) ∧
aa Tryz.prog 180 #[(.pointer A2)] M7 (fun v9 js =>
aG (some v9) .i64 fun gQ =>
((Mem.ld js ⟨b0, (o0 + 1), none⟩) = (some (.pointer A2))) ∧
((Mem.ld js ⟨b0, (o0 + 1), none⟩) = (some (.pointer A1))) ∧
aQ (decide ((x2 : Int) < 1))
 (aa Tryz.prog 178 #[(.pointer (some ⟨b1, o1, none⟩)), (iV 1)] js (fun GK ku =>
 aC (some GK) fun mP gn fU =>
 aQ ((gn : Int) == 0)
 (K (.tuple #[(iV (-1)), (.bool false)]) ku)
 (((0 : Int) ≤ fU) ∧
 ((fU : Int) ≤ fU) ∧
 ((0 : Int) ≤ gn) ∧
 ((gn : Int) ≤ fU) ∧
 ((0 : Int) ≤ 1) ∧
 ((1 : Int) ≤ gn) ∧
 ∃ VA : IT, (∃ fV, VA fV [(iV 0)] ku) ∧
 ∀ (iw : Nat) (_ : Nat → Value) (qI : Int) (oL : Mem), (VA iw [(iV qI)] oL) → aQ (decide ((qI : Int) < ((((Int.toNat (gn : Int)) - 1) : Nat) : Int)))
 ((0 ≤ qI) ∧
 ((qI : Int) < ((((Int.toNat (gn : Int)) - 1) : Nat) : Int)) ∧
 aD (kU mP 1 (Int.toNat (fU : Int)) 1) fun ji sS =>
 rI oL ji (sS + (Int.toNat qI)) fun sY =>
 rP oL b0 (o0 + 1) fun Sd =>
 aa Tryz.prog 183 #[(.pointer Sd), (iV sY)] oL (fun Ij zZ =>
 c6 (some Ij) fun t29 =>
 ∃ lF : Nat, (lF < iw) ∧
 VA lF [(iV (IntKind.wrap .i64 (qI + 1)))] zZ) Kp)
 (((0 : Int) ≤ 0) ∧
 ((0 : Int) < gn) ∧
 aD mP fun pL w9 =>
 rI oL pL (w9 + 0) fun Ee =>
 K (.tuple #[(iV Ee), (.bool true)]) oL))) Kp)
 (aa Tryz.prog 178 #[(.pointer (some ⟨b1, o1, none⟩)), (iV (if ((IntKind.wrap .i64 ((IntKind.wrap .i64 (n8 - gQ)) + 1)) : Int) < (IntKind.wrap .i64 ((IntKind.wrap .i64 (Int.tdiv n5 (if (1 : Int) > x2 then 1 else x2))) + 1)) then (IntKind.wrap .i64 ((IntKind.wrap .i64 (n8 - gQ)) + 1)) else (IntKind.wrap .i64 ((IntKind.wrap .i64 (Int.tdiv n5 (if (1 : Int) > x2 then 1 else x2))) + 1))))] js (fun v34 xH =>
 aC (some v34) fun MZ xe ia =>
 aQ ((xe : Int) == 0)
 (K (.tuple #[(iV (-1)), (.bool false)]) xH)
 (((0 : Int) ≤ ia) ∧
 ((ia : Int) ≤ ia) ∧
 ((0 : Int) ≤ xe) ∧
 ((xe : Int) ≤ ia) ∧
 ((0 : Int) ≤ 1) ∧
 ((1 : Int) ≤ xe) ∧
 ∃ VB : IT, (∃ Ef, VB Ef [(iV 0)] xH) ∧
 ∀ (KT : Nat) (_ : Nat → Value) (GN : Int) (xG : Mem), (VB KT [(iV GN)] xG) → aQ (decide ((GN : Int) < ((((Int.toNat (xe : Int)) - 1) : Nat) : Int)))
 ((0 ≤ GN) ∧
 ((GN : Int) < ((((Int.toNat (xe : Int)) - 1) : Nat) : Int)) ∧
 aD (kU MZ 1 (Int.toNat (ia : Int)) 1) fun KU KV =>
 rI xG KU (KV + (Int.toNat GN)) fun z0 =>
 rP xG b0 (o0 + 1) fun Le =>
 aa Tryz.prog 183 #[(.pointer Le), (iV z0)] xG (fun H9 w5 =>
 c6 (some H9) fun t51 =>
 ∃ sA : Nat, (sA < KT) ∧
 VB sA [(iV (IntKind.wrap .i64 (GN + 1)))] w5) Kp)
 (((0 : Int) ≤ 0) ∧
 ((0 : Int) < xe) ∧
 aD MZ fun rj MR =>
 rI xG rj (MR + 0) fun VC =>
 K (.tuple #[(iV VC), (.bool true)]) xG))) Kp)) Kp) Kp) Kp) :
 aa Tryz.prog 179 #[.pointer (some ⟨b0, o0, none⟩), .pointer (some ⟨b1, o1, none⟩), .int .i64 x2] M K Kp := vw [(1, .bL [0, 1, 0, 4, 15, 31, 0, 64, 192, 448, 963, 0, 2048, 6144, 14336, 32707, 65475, 131011, 262143, 524287] (sy [0, 2, 3, 6, 7, 8, 11, 12, 13] (.fK 9 (.fK 14 (sy [1, 4, 5, 10, 15, 16, 17, 18, 19] .done))))), (2000000, .loop [(42, .c (.int .i64))])] Tryz.func179 h
theorem td {b0 o0 : Nat} (h :
rI M b0 (o0 + 2) fun n1 =>
K (iV n1) M) :
 aa Tryz.prog 180 #[.pointer (some ⟨b0, o0, none⟩)] M K Kp := vw [] Tryz.func180 h
theorem rM {b0 o0 : Nat} {x1 : Int} (h :
∃ I1 : IT, (∃ k2, I1 k2 [(.slice none 0 0)] M) ∧
∀ (k3 : Nat) (_ : Nat → Value) (A5 : Option Addr) (k6 : Nat) (k7 : Nat) (M8 : Mem), (I1 k3 [(.slice A5 k6 k7)] M8) → aQ (decide ((k6 : Int) < x1))
 (aa Tryz.prog 176 #[(.pointer (some ⟨b0, o0, none⟩))] M8 (fun v9 js =>
 ∃ gQ : Int, ∃ t12 : Bool, (v9 = (.tuple #[(iV gQ), (.bool t12)])) ∧
 aQ (!t12)
 (K (.slice A5 k6 k7) js)
 (bg js (cl [(iV gQ)] 3) fun dx ox =>
 aA 38 A5 k6 k7 (some ⟨dx, 0, none⟩) 1 1 ox (fun CV eF =>
 aC (some CV) fun Kk fV iw =>
 ∃ jy : Nat, (jy < k3) ∧
 I1 jy [(.slice Kk fV iw)] eF) Kp)) Kp)
 (K (.slice A5 k6 k7) M8)) :
 aa Tryz.prog 181 #[.pointer (some ⟨b0, o0, none⟩), .int .i64 x1] M K Kp := vw [(2000000, .loop [(5, .c .sl)])] Tryz.func181 h
theorem rN {b0 o0 : Nat} (h :
rS M b0 o0 fun A1 k2 k3 =>
K (iV (k2 : Int)) M) :
 aa Tryz.prog 182 #[.pointer (some ⟨b0, o0, none⟩)] M K Kp := vw [] Tryz.func182 h
theorem rO {b0 o0 : Nat} {x1 : Int} (h :
rI M b0 (o0 + 2) fun n1 =>
rS M b0 o0 fun A2 k3 k4 =>
aQ (n1 == (k3 : Int))
 (K (.bool false) M)
 (rS M b0 o0 fun A5 k6 k7 =>
 rI M b0 (o0 + 1) fun n8 =>
 rI M b0 (o0 + 2) fun n9 =>
 rS M b0 o0 fun Cc ei fO =>
 ((ei : Int) ≠ 0) ∧
 ((0 : Int) ≤ (Int.tmod (IntKind.wrap .i64 (n8 + n9)) (ei : Int))) ∧
 (((Int.tmod (IntKind.wrap .i64 (n8 + n9)) (ei : Int)) : Int) < (k6 : Int)) ∧
 aD A5 fun dx iB =>
 sT M dx (iB + (Int.toNat (Int.tmod (IntKind.wrap .i64 (n8 + n9)) (ei : Int)))) (iV x1) fun uz =>
 rI uz b0 (o0 + 2) fun oy =>
 sT uz b0 (o0 + 2) (iV (IntKind.wrap .i64 (oy + 1))) fun oN =>
 K (.bool true) oN)) :
 aa Tryz.prog 183 #[.pointer (some ⟨b0, o0, none⟩), .int .i64 x1] M K Kp := vw [(1, .bL [0, 1, 3, 7, 0, 16, 48, 112, 240, 511] (sy [0, 1, 2, 4, 5, 6, 3, 7, 8, 9] .done)), (3, .bL [0, 1, 3, 7, 0, 16, 48, 112, 0, 256, 768, 1792, 4080, 0, 8192, 24576, 57344, 122880, 262128, 0, 1048575, 2097151] (sy [0, 1, 2, 4, 5, 6, 8, 9, 10, 13, 14, 15, 19, 3, 7, 11, 12, 16, 17, 18, 20, 21] .done))] Tryz.func183 h
theorem qo {b0 o0 : Nat} {x1 : Int} {b2 o2 : Nat} (h :
rP M b0 (o0 + 1) fun A1 =>
aa Tryz.prog 183 #[(.pointer A1), (iV x1)] M (fun v2 M3 =>
c6 (some v2) fun t4 =>
aQ t4
 (K (iV 0) M3)
 (rP M3 b0 (o0 + 1) fun A5 =>
 rP M3 b0 (o0 + 1) fun A6 =>
 (True) ∧
 aa Tryz.prog 180 #[(.pointer A5)] M3 (fun v7 M8 =>
 aG (some v7) .i64 fun n9 =>
 ((Mem.ld M8 ⟨b0, (o0 + 1), none⟩) = (some (.pointer A6))) ∧
 ((2 : Int) ≠ 0) ∧
 (True) ∧
 aa Tryz.prog 181 #[(.pointer A6), (iV (IntKind.wrap .i64 (Int.tdiv n9 2)))] M8 (fun v10 jG =>
 aC (some v10) fun w8 dx iB =>
 ((Mem.ld jG ⟨b0, (o0 + 1), none⟩) = (some (.pointer A6))) ∧
 bg jG (cl [(iV x1)] 3) fun gn eF =>
 aA 38 w8 dx iB (some ⟨gn, 0, none⟩) 1 1 eF (fun RW pZ =>
 aC (some RW) fun Eg jy eY =>
 ((Mem.ld pZ ⟨b0, (o0 + 1), none⟩) = (some (.pointer A6))) ∧
 aa Tryz.prog 53 #[(.pointer (some ⟨b2, o2, none⟩)), (.slice Eg jy eY)] pZ (fun FF l8 =>
 (FF = (.tuple #[])) ∧
 K (iV (jy : Int)) l8) Kp) Kp) Kp) Kp)) Kp) :
 aa Tryz.prog 184 #[.pointer (some ⟨b0, o0, none⟩), .int .i64 x1, .pointer (some ⟨b2, o2, none⟩)] M K Kp := vw [(3, .bL [0, 1, 3, 7, 0, 16, 48, 112, 240, 496, 1023, 0, 2048, 8191, 16383] (sy [0, 1, 2, 4, 5, 6, 11, 7] (.fK 3 (.late 8 (sy [9] (.late 10 (sy [12, 13, 14] .done)))))))] Tryz.func184 h
theorem pB {b0 o0 : Nat} (h :
aC (Mem.ld M ⟨b0, o0, none⟩) fun A1 k2 k3 =>
K (.int .i64 ((k2 : Nat) : Int)) M) :
 aa Tryz.prog 217 ([.pointer (some ⟨b0, o0, none⟩)] : List Value).toArray M K Kp :=
 bX (C := Cx) good [] Tryz.func217 (by kernel_rfl) (by kernel_rfl) h
end Go.Proofs
namespace Go.Proofs
open Go.AF
set_option maxRecDepth 100000
variable {M : Mem} {K : Value → Mem → Prop} {Kp : List PanicEntry → Mem → Prop}
theorem zz {Iw : Option Addr} {Ix Iy : Nat} {Iz : Option Addr} {IA IB : Nat} {rD : Int} {IC : Option Addr} {ID IE : Nat} {cK : Int} {cL : Int} {cN : Int} {fu : Int} {b2 o2 : Nat} (h :
bg M (cl [(.slice Iw Ix Iy), (.slice Iz IA IB), (iV rD), (.slice IC ID IE)] 41) fun k1 M2 =>
bg M2 (cl [(iV cK), (iV cL), (iV cN), (iV fu)] 26) fun k3 M4 =>
HT M4 k1 0 fun A5 k6 k7 A8 k9 eM gQ w8 dx iB =>
jg M4 k3 0 fun jt oy jY mu =>
aa Tryz.prog 36 #[(.agg #[(.slice A5 k6 k7), (.slice A8 k9 eM), (iV gQ), (.slice w8 dx iB)])] M4 (fun K8 rm =>
cj (some K8) fun xA =>
((Mem.gh rm ⟨k3, 0, none⟩ 0 4) = some [(iV jt), (iV oy), (iV jY), (iV mu)]) ∧
bg rm (cl [(.pointer xA), (iV jt), (iV oy), (iV jY), (iV mu), (.slice none 0 0), (.slice none 0 0), (.slice none 0 0), (.pointer (some ⟨b2, o2, none⟩)), (iV 0)] 137) fun gO l8 =>
rI l8 k3 0 fun z9 =>
∃ VD : IT, (∃ rq, VD rq [(iV 0)] l8) ∧
∀ (zl : Nat) (_ : Nat → Value) (AY : Int) (vA : Mem), (VD zl [(iV AY)] vA) → aQ (decide (AY < z9))
 (∃ VE : List Value → Mem → Prop, (rI vA k3 2 fun n32 =>
 (rS vA gO 5 fun Ic yp w6 =>
 aa Tryz.prog 52 #[(iV n32)] vA (fun v36 FM =>
 cj (some v36) fun Se =>
 bg FM (cl [(.pointer Se), (iV 0), (iV (-1))] 141) fun vK OB =>
 aA 132 Ic yp w6 (some ⟨vK, 0, none⟩) 1 1 OB (fun v41 FJ =>
 aC (some v41) fun A43 Oj KU =>
 sT FJ gO 5 (.slice A43 Oj KU) fun IF =>
 VE [] IF) Kp) Kp) ∧
 (aa Tryz.prog 52 #[(iV n32)] vA (fun v47 QB =>
 cj (some v47) fun VF =>
 rS QB gO 5 fun TQ GV sA =>
 bg QB (cl [(.pointer VF), (iV 0), (iV (-1))] 141) fun rj GO =>
 aA 132 TQ GV sA (some ⟨rj, 0, none⟩) 1 1 GO (fun RI Ol =>
 aC (some RI) fun U0 FE U1 =>
 sT Ol gO 5 (.slice U0 FE U1) fun AV =>
 VE [] AV) Kp) Kp) ∧
 True) ∧
 ∀ VG : Nat → Value, ∀ qJ : Mem, (VE [] qJ) → ∃ Nd : Nat, (Nd < zl) ∧
 VD Nd [(iV (IntKind.wrap .i64 (AY + 1)))] qJ)
 (rI vA k3 1 fun n64 =>
 ∃ VH : IT, (∃ II, VH II [(iV 0)] vA) ∧
 ∀ (yw : Nat) (_ : Nat → Value) (VI : Int) (Cf : Mem), (VH yw [(iV VI)] Cf) → aQ (decide (VI < n64))
 (rS Cf gO 6 fun Sf Vw k73 =>
 bg Cf (cl [(iV (-1)), (iV (-1)), (iV 0)] 143) fun Vx uc =>
 aA 133 Sf Vw k73 (some ⟨Vx, 0, none⟩) 1 1 uc (fun v76 Sb =>
 aC (some v76) fun A78 Sg Ld =>
 sT Sb gO 6 (.slice A78 Sg Ld) fun VJ =>
 ∃ Kn : Nat, (Kn < yw) ∧
 VH Kn [(iV (IntKind.wrap .i64 (VI + 1)))] VJ) Kp)
 (bg Cf MO fun Sh FN =>
 aa Tryz.prog 53 #[(.pointer (some ⟨gO, 7, none⟩)), (.slice (some ⟨Sh, 0, none⟩) 1 1)] FN (fun Si Lf =>
 (Si = (.tuple #[])) ∧
 K (.pointer (some ⟨gO, 0, none⟩)) Lf) Kp))) Kp) :
 aa Tryz.prog 16 #[.agg #[.slice Iw Ix Iy, .slice Iz IA IB, .int .i64 rD, .slice IC ID IE], .agg #[.int .i64 cK, .int .i64 cL, .int .i64 cN, .int .i64 fu], .pointer (some ⟨b2, o2, none⟩)] M K Kp := vw [(1, .bL [0, 1, 0, 0, 15, 31, 63] (sy [3, 0] (.fK 2 (sy [1, 4, 5, 6] .done)))), (2000000, .loop [(16, .c (.int .i64))]), (4, .Fj [0, 0, 2, 6, 14, 0, 32, 96, 224, 480, 1022, 2047, 4095, 8191] (sy [0, 1, 2, 3, 5, 6] (.fork 4 (sy [7, 8, 9, 10, 11, 12, 13] .done) (.fork 7 (sy [8, 4, 9, 10, 11, 12, 13] .done) .dead))) []), (2000002, .loop [(34, .c (.int .i64))])] Tryz.func16 h
theorem nB {b0 o0 : Nat} (h :
rP M b0 o0 fun A1 =>
K (.pointer A1) M) :
 aa Tryz.prog 21 #[.pointer (some ⟨b0, o0, none⟩)] M K Kp := vw [] Tryz.func21 h
theorem mF {b0 o0 : Nat} (h :
rP M b0 o0 fun A1 =>
aa Tryz.prog 60 #[(.pointer A1)] M (fun v2 M3 =>
∃ n4 n5 : Int, (v2 = (.tuple #[(iV n4), (iV n5)])) ∧
aQ (n4 == 1)
 (K (iV 1) M3)
 (aQ (n4 == 2)
 (K (iV 2) M3)
 (rP M3 b0 o0 fun A6 =>
 aa Tryz.prog 44 #[(.pointer A6)] M3 (fun v7 M8 =>
 c6 (some v7) fun t9 =>
 aQ t9
 (K (iV 3) M8)
 (K (iV 0) M8)) Kp))) Kp) :
 aa Tryz.prog 23 #[.pointer (some ⟨b0, o0, none⟩)] M K Kp := vw [] Tryz.func23 h
theorem nC {b0 o0 : Nat} (h :
rI M b0 (o0 + 9) fun n1 =>
K (iV n1) M) :
 aa Tryz.prog 33 #[.pointer (some ⟨b0, o0, none⟩)] M K Kp := vw [] Tryz.func33 h
theorem pC {b0 o0 : Nat} (h :
bg M (.cells #[(.int .i64 0), (.int .i64 0), (.int .i64 0), (.slice none 0 0)] 47 (0, 0)) fun k1 M2 =>
aa Tryz.prog 23 #[(.pointer (some ⟨b0, o0, none⟩))] M2 (fun v3 M4 =>
aG (some v3) .i64 fun n5 =>
aQ (n5 != 0)
 (aF M4 ⟨k1, 0, none⟩ (.int .i64 0) fun M6 =>
 aF M6 ⟨k1, (0 + 1), none⟩ (.int .i64 0) fun M7 =>
 aF M7 ⟨k1, (0 + 2), none⟩ (.int .i64 0) fun M8 =>
 aF M8 ⟨k1, (0 + 3), none⟩ (.slice none 0 0) fun M9 =>
 aG (Mem.ld M9 ⟨k1, 0, none⟩) .i64 fun jX =>
 aG (Mem.ld M9 ⟨k1, (0 + 1), none⟩) .i64 fun gQ =>
 aG (Mem.ld M9 ⟨k1, (0 + 2), none⟩) .i64 fun iy =>
 aC (Mem.ld M9 ⟨k1, (0 + 3), none⟩) fun Kj iB gn =>
 K (.agg #[(.int .i64 jX), (.int .i64 gQ), (.int .i64 iy), (.slice Kj iB gn)]) M9)
 (cj (Mem.ld M4 ⟨b0, (o0 + 8), none⟩) fun QI =>
 aG (Mem.ld M4 ⟨b0, ((o0 + 1) + 1), none⟩) .i64 fun jY =>
 aa Tryz.prog 98 #[(.pointer QI), (.int .i64 1), (.int .i64 (IntKind.wrap .i64 (jY + 1)))] M4 (fun CN jV =>
 aG (some CN) .i64 fun hG =>
 bg jV (.cells #[(.int .i64 0), (.int .i64 0), (.int .i64 0), (.slice none 0 0)] 47 (0, 0)) fun eY oL =>
 aG (Mem.ld oL ⟨b0, ((o0 + 1) + 1), none⟩) .i64 fun zn =>
 aQ (hG == zn)
  (aa Tryz.prog 99 #[(.pointer (some ⟨b0, o0, none⟩))] oL (fun RU Eh =>
  ∃ rH : Int, ∃ xE : Int, ∃ tT : Int, ∃ GR : Option Addr, ∃ lF : Nat, ∃ pL : Nat, (RU = (.agg #[(.int .i64 rH), (.int .i64 xE), (.int .i64 tT), (.slice GR lF pL)])) ∧
  aF Eh ⟨eY, 0, none⟩ (.int .i64 rH) fun pK =>
  aF pK ⟨eY, (0 + 1), none⟩ (.int .i64 xE) fun Cd =>
  aF Cd ⟨eY, (0 + 2), none⟩ (.int .i64 tT) fun sB =>
  aF sB ⟨eY, (0 + 3), none⟩ (.slice GR lF pL) fun xH =>
  aG (Mem.ld xH ⟨b0, (o0 + 9), none⟩) .i64 fun xF =>
  aF xH ⟨b0, (o0 + 9), none⟩ (.int .i64 (IntKind.wrap .i64 (xF + 1))) fun FM =>
  aG (Mem.ld FM ⟨eY, 0, none⟩) .i64 fun FC =>
  aG (Mem.ld FM ⟨eY, (0 + 1), none⟩) .i64 fun GM =>
  aG (Mem.ld FM ⟨eY, (0 + 2), none⟩) .i64 fun MY =>
  aC (Mem.ld FM ⟨eY, (0 + 3), none⟩) fun RV Og w7 =>
  aF FM ⟨k1, 0, none⟩ (.int .i64 FC) fun xG =>
  aF xG ⟨k1, (0 + 1), none⟩ (.int .i64 GM) fun ua =>
  aF ua ⟨k1, (0 + 2), none⟩ (.int .i64 MY) fun IF =>
  aF IF ⟨k1, (0 + 3), none⟩ (.slice RV Og w7) fun vH =>
  aG (Mem.ld vH ⟨k1, 0, none⟩) .i64 fun GU =>
  aG (Mem.ld vH ⟨k1, (0 + 1), none⟩) .i64 fun QJ =>
  aG (Mem.ld vH ⟨k1, (0 + 2), none⟩) .i64 fun Oz =>
  aC (Mem.ld vH ⟨k1, (0 + 3), none⟩) fun Oh sA rj =>
  K (.agg #[(.int .i64 GU), (.int .i64 QJ), (.int .i64 Oz), (.slice Oh sA rj)]) vH) Kp)
  (aC (Mem.ld oL ⟨b0, (o0 + 6), none⟩) fun Vl Nb Nc =>
  ((0 : Int) ≤ hG) ∧
  ((hG : Int) < ((Nb : Nat) : Int)) ∧
  aD Vl fun xg FE =>
  aG (Mem.ld oL ⟨xg, (FE + ((Int.toNat hG) * 3)), none⟩) .i64 fun FD =>
  aQ (FD == (-1))
   (aa Tryz.prog 100 #[(.pointer (some ⟨b0, o0, none⟩)), (.int .i64 hG)] oL (fun v60 CO =>
   ∃ TO : Int, ∃ GP : Int, ∃ n64 : Int, ∃ QK : Option Addr, ∃ II : Nat, ∃ yw : Nat, (v60 = (.agg #[(.int .i64 TO), (.int .i64 GP), (.int .i64 n64), (.slice QK II yw)])) ∧
   aF CO ⟨eY, 0, none⟩ (.int .i64 TO) fun Sa =>
   aF Sa ⟨eY, (0 + 1), none⟩ (.int .i64 GP) fun VK =>
   aF VK ⟨eY, (0 + 2), none⟩ (.int .i64 n64) fun Cf =>
   aF Cf ⟨eY, (0 + 3), none⟩ (.slice QK II yw) fun Zg =>
   aG (Mem.ld Zg ⟨b0, (o0 + 9), none⟩) .i64 fun RR =>
   aF Zg ⟨b0, (o0 + 9), none⟩ (.int .i64 (IntKind.wrap .i64 (RR + 1))) fun Bh =>
   aG (Mem.ld Bh ⟨eY, 0, none⟩) .i64 fun Lg =>
   aG (Mem.ld Bh ⟨eY, (0 + 1), none⟩) .i64 fun KY =>
   aG (Mem.ld Bh ⟨eY, (0 + 2), none⟩) .i64 fun KZ =>
   aC (Mem.ld Bh ⟨eY, (0 + 3), none⟩) fun A77 OE Sg =>
   aF Bh ⟨k1, 0, none⟩ (.int .i64 Lg) fun zx =>
   aF zx ⟨k1, (0 + 1), none⟩ (.int .i64 KY) fun VJ =>
   aF VJ ⟨k1, (0 + 2), none⟩ (.int .i64 KZ) fun VL =>
   aF VL ⟨k1, (0 + 3), none⟩ (.slice A77 OE Sg) fun FL =>
   aG (Mem.ld FL ⟨k1, 0, none⟩) .i64 fun MS =>
   aG (Mem.ld FL ⟨k1, (0 + 1), none⟩) .i64 fun Nf =>
   aG (Mem.ld FL ⟨k1, (0 + 2), none⟩) .i64 fun n86 =>
   aC (Mem.ld FL ⟨k1, (0 + 3), none⟩) fun A87 OG k89 =>
   K (.agg #[(.int .i64 MS), (.int .i64 Nf), (.int .i64 n86), (.slice A87 OG k89)]) FL) Kp)
   (aC (Mem.ld oL ⟨b0, (o0 + 6), none⟩) fun VM k91 k92 =>
   ((0 : Int) ≤ hG) ∧
   ((hG : Int) < ((k91 : Nat) : Int)) ∧
   aD VM fun Sj OH =>
   aG (Mem.ld oL ⟨Sj, ((OH + ((Int.toNat hG) * 3)) + 1), none⟩) .i64 fun K0 =>
   aQ (K0 == (-1))
    (aa Tryz.prog 101 #[(.pointer (some ⟨b0, o0, none⟩)), (.int .i64 hG)] oL (fun v96 Lb =>
    ∃ TI : Int, ∃ QL : Int, ∃ ru : Int, ∃ Sk : Option Addr, ∃ Lc : Nat, ∃ uD : Nat, (v96 = (.agg #[(.int .i64 TI), (.int .i64 QL), (.int .i64 ru), (.slice Sk Lc uD)])) ∧
    aF Lb ⟨eY, 0, none⟩ (.int .i64 TI) fun VN =>
    aF VN ⟨eY, (0 + 1), none⟩ (.int .i64 QL) fun CZ =>
    aF CZ ⟨eY, (0 + 2), none⟩ (.int .i64 ru) fun VO =>
    aF VO ⟨eY, (0 + 3), none⟩ (.slice Sk Lc uD) fun Sn =>
    aG (Mem.ld Sn ⟨b0, (o0 + 9), none⟩) .i64 fun C0 =>
    aF Sn ⟨b0, (o0 + 9), none⟩ (.int .i64 (IntKind.wrap .i64 (C0 + 1))) fun uy =>
    aG (Mem.ld uy ⟨eY, 0, none⟩) .i64 fun Oq =>
    aG (Mem.ld uy ⟨eY, (0 + 1), none⟩) .i64 fun VP =>
    aG (Mem.ld uy ⟨eY, (0 + 2), none⟩) .i64 fun CQ =>
    aC (Mem.ld uy ⟨eY, (0 + 3), none⟩) fun VQ VR VS =>
    aF uy ⟨k1, 0, none⟩ (.int .i64 Oq) fun C1 =>
    aF C1 ⟨k1, (0 + 1), none⟩ (.int .i64 VP) fun xI =>
    aF xI ⟨k1, (0 + 2), none⟩ (.int .i64 CQ) fun lJ =>
    aF lJ ⟨k1, (0 + 3), none⟩ (.slice VQ VR VS) fun IJ =>
    aG (Mem.ld IJ ⟨k1, 0, none⟩) .i64 fun C2 =>
    aG (Mem.ld IJ ⟨k1, (0 + 1), none⟩) .i64 fun C3 =>
    aG (Mem.ld IJ ⟨k1, (0 + 2), none⟩) .i64 fun IK =>
    aC (Mem.ld IJ ⟨k1, (0 + 3), none⟩) fun VT C4 VU =>
    K (.agg #[(.int .i64 C2), (.int .i64 C3), (.int .i64 IK), (.slice VT C4 VU)]) IJ) Kp)
    (aa Tryz.prog 102 #[(.pointer (some ⟨b0, o0, none⟩)), (.int .i64 hG)] oL (fun VV VW =>
    ∃ tf : Int, ∃ So : Int, ∃ Sp : Int, ∃ FO : Option Addr, ∃ FP : Nat, ∃ FQ : Nat, (VV = (.agg #[(.int .i64 tf), (.int .i64 So), (.int .i64 Sp), (.slice FO FP FQ)])) ∧
    aF VW ⟨eY, 0, none⟩ (.int .i64 tf) fun C5 =>
    aF C5 ⟨eY, (0 + 1), none⟩ (.int .i64 So) fun VX =>
    aF VX ⟨eY, (0 + 2), none⟩ (.int .i64 Sp) fun VY =>
    aF VY ⟨eY, (0 + 3), none⟩ (.slice FO FP FQ) fun FR =>
    aG (Mem.ld FR ⟨b0, (o0 + 9), none⟩) .i64 fun VZ =>
    aF FR ⟨b0, (o0 + 9), none⟩ (.int .i64 (IntKind.wrap .i64 (VZ + 1))) fun zA =>
    aG (Mem.ld zA ⟨eY, 0, none⟩) .i64 fun V0 =>
    aG (Mem.ld zA ⟨eY, (0 + 1), none⟩) .i64 fun V1 =>
    aG (Mem.ld zA ⟨eY, (0 + 2), none⟩) .i64 fun V2 =>
    aC (Mem.ld zA ⟨eY, (0 + 3), none⟩) fun V3 V4 V5 =>
    aF zA ⟨k1, 0, none⟩ (.int .i64 V0) fun V6 =>
    aF V6 ⟨k1, (0 + 1), none⟩ (.int .i64 V1) fun V7 =>
    aF V7 ⟨k1, (0 + 2), none⟩ (.int .i64 V2) fun V8 =>
    aF V8 ⟨k1, (0 + 3), none⟩ (.slice V3 V4 V5) fun C6 =>
    aG (Mem.ld C6 ⟨k1, 0, none⟩) .i64 fun C7 =>
    aG (Mem.ld C6 ⟨k1, (0 + 1), none⟩) .i64 fun V9 =>
    aG (Mem.ld C6 ⟨k1, (0 + 2), none⟩) .i64 fun Wa =>
    aC (Mem.ld C6 ⟨k1, (0 + 3), none⟩) fun Wb OK Wc =>
    K (.agg #[(.int .i64 C7), (.int .i64 V9), (.int .i64 Wa), (.slice Wb OK Wc)]) C6) Kp)))) Kp)) Kp) :
 aa Tryz.prog 50 ([.pointer (some ⟨b0, o0, none⟩)] : List Value).toArray M K Kp :=
 bX (C := Cx) good [(3, .bL [0, 1, 3, 7, 0, 16, 48, 112, 240, 496, 1023, 2047] (.step 0 (.step 1 (.step 2 (.step 4 (.step 5 (.step 6 (.step 7 (.step 3 (.step 8 (.step 9 (.step 10 (.step 11 .done)))))))))))))] Tryz.func50 (by kernel_rfl) (by kernel_rfl) h
theorem pD {b0 o0 : Nat} (h :
bg M gk fun k1 M2 =>
rP M2 b0 o0 fun A3 =>
aa Tryz.prog 43 #[(.pointer A3)] M2 (fun v4 M5 =>
aC (some v4) fun A6 k7 k8 =>
aa Tryz.prog 53 #[(.pointer (some ⟨b0, (o0 + 7), none⟩)), (.slice A6 k7 k8)] M5 (fun v9 js =>
(v9 = (.tuple #[])) ∧
Fv js k1 (iV 1) (iV (-1)) (iV (-1)) (.slice A6 k7 k8) fun ox =>
AR ox k1 0 fun jt oy jY Em iw jy =>
K (.agg #[(iV jt), (iV oy), (iV jY), (.slice Em iw jy)]) ox) Kp) Kp) :
 aa Tryz.prog 99 #[.pointer (some ⟨b0, o0, none⟩)] M K Kp := vw [] Tryz.func99 h
theorem pE {b0 o0 : Nat} {x1 : Int} (h :
bg M gk fun k1 M2 =>
rS M2 b0 (o0 + 5) fun A3 k4 k5 =>
∃ I6 : IT, (∃ k7, I6 k7 [(iV 0)] M2) ∧
∀ (k8 : Nat) (_ : Nat → Value) (jX : Int) (jG : Mem), (I6 k8 [(iV jX)] jG) → aQ (decide (jX < k4))
 (rS jG b0 (o0 + 5) fun w8 dx iB =>
 (0 ≤ jX) ∧
 (jX < dx) ∧
 aD w8 fun gn fU =>
 rI jG gn ((fU + ((Int.toNat jX) * 3)) + 2) fun jY =>
 aQ (jY == (-1))
 (rS jG b0 (o0 + 5) fun Em iw jy =>
 rS jG b0 (o0 + 6) fun xA gO ji =>
 (0 ≤ jX) ∧
 (jX < iw) ∧
 aD Em fun sS uR =>
 sT jG sS ((uR + ((Int.toNat jX) * 3)) + 2) (iV x1) fun tZ =>
 ((0 : Int) ≤ x1) ∧
 ((x1 : Int) < gO) ∧
 aD xA fun zl sZ =>
 sT tZ zl (sZ + ((Int.toNat x1) * 3)) (iV jX) fun mO =>
 Fv mO k1 (iV 2) (iV x1) (iV (-1)) (.slice none 0 0) fun Cd =>
 AR Cd k1 0 fun Oy GS xF K9 ia vK =>
 K (.agg #[(iV Oy), (iV GS), (iV xF), (.slice K9 ia vK)]) Cd)
 (∃ Ef : Nat, (Ef < k8) ∧
 I6 Ef [(iV (IntKind.wrap .i64 (jX + 1)))] jG))
 (sT jG k1 0 (iV 3) fun Be =>
 sT Be k1 1 (iV x1) fun FJ =>
 sT FJ k1 2 (iV (-1)) fun xd =>
 sT xd k1 3 (.slice none 0 0) fun xG =>
 AR xG k1 0 fun FI Io z0 Le K6 Kl =>
 K (.agg #[(iV FI), (iV Io), (iV z0), (.slice Le K6 Kl)]) xG)) :
 aa Tryz.prog 100 #[.pointer (some ⟨b0, o0, none⟩), .int .i64 x1] M K Kp := vw [(2000000, .loop [(11, .c (.int .i64))]), (5, .bL [0, 1, 3, 7, 0, 0, 32, 96, 224, 0, 0, 0, 1535, 5631, 13823, 32767, 65535, 131071] (sy [0, 1, 2, 4, 5, 6, 7, 9, 10, 11, 3, 8, 12, 13, 14, 15, 16, 17] .done))] Tryz.func100 h
theorem pF {b0 o0 : Nat} {x1 : Int} (h :
bg M (.cells #[(.int .i64 0), (.int .i64 0), (.int .i64 0), (.slice none 0 0)] 47 (0, 0)) fun k1 M2 =>
aC (Mem.ld M2 ⟨b0, (o0 + 5), none⟩) fun A3 k4 k5 =>
aC (Mem.ld M2 ⟨b0, (o0 + 6), none⟩) fun A6 k7 k8 =>
((0 : Int) ≤ x1) ∧
((x1 : Int) < ((k7 : Nat) : Int)) ∧
aD A6 fun k9 eM =>
aG (Mem.ld M2 ⟨k9, (eM + ((Int.toNat x1) * 3)), none⟩) .i64 fun gQ =>
((0 : Int) ≤ gQ) ∧
((gQ : Int) < ((k4 : Nat) : Int)) ∧
aD A3 fun fO dx =>
aC (Mem.ld M2 ⟨b0, (o0 + 6), none⟩) fun mP gn fU =>
((0 : Int) ≤ x1) ∧
((x1 : Int) < ((gn : Nat) : Int)) ∧
aD mP fun eG fV =>
aG (Mem.ld M2 ⟨eG, ((fV + ((Int.toNat x1) * 3)) + 2), none⟩) .i64 fun zm =>
aQ (decide ((zm : Int) > 0))
 (cj (Mem.ld M2 ⟨fO, (dx + ((Int.toNat gQ) * 3)), none⟩) fun TL =>
 aa Tryz.prog 58 #[(.pointer TL)] M2 (fun Vh oL =>
 aG (some Vh) .i64 fun zn =>
 ∃ Zh : List Value → Mem → Prop, (aQ (zn != (-1))
  (cj (Mem.ld oL ⟨fO, (dx + ((Int.toNat gQ) * 3)), none⟩) fun KX =>
   aC (Mem.ld oL ⟨b0, (o0 + 6), none⟩) fun Sd zl sZ =>
   aa Tryz.prog 131 #[(.pointer KX)] oL (fun We vA =>
   ∃ uS : Int, ∃ t32 : Bool, (We = (.tuple #[(.int .i64 uS), (.bool t32)])) ∧
   ((Mem.ld vA ⟨b0, (o0 + 6), none⟩) = (some (.slice Sd zl sZ))) ∧
   ((0 : Int) ≤ x1) ∧
   ((x1 : Int) < ((zl : Nat) : Int)) ∧
   aD Sd fun zo yp =>
   aF vA ⟨zo, ((yp + ((Int.toNat x1) * 3)) + 1), none⟩ (.int .i64 uS) fun xH =>
   ((Mem.ld xH ⟨b0, (o0 + 6), none⟩) = (some (.slice Sd zl sZ))) ∧
   aC (Mem.ld xH ⟨b0, (o0 + 6), none⟩) fun MZ xe ia =>
   ((0 : Int) ≤ x1) ∧
   ((x1 : Int) < ((xe : Nat) : Int)) ∧
   aD MZ fun vK Ef =>
   aG (Mem.ld xH ⟨vK, ((Ef + ((Int.toNat x1) * 3)) + 1), none⟩) .i64 fun Ng =>
   aF xH ⟨k1, 0, none⟩ (.int .i64 4) fun FJ =>
   aF FJ ⟨k1, (0 + 1), none⟩ (.int .i64 x1) fun xd =>
   aF xd ⟨k1, (0 + 2), none⟩ (.int .i64 Ng) fun xG =>
   aF xG ⟨k1, (0 + 3), none⟩ (.slice none 0 0) fun ua =>
   aG (Mem.ld ua ⟨k1, 0, none⟩) .i64 fun Io =>
   aG (Mem.ld ua ⟨k1, (0 + 1), none⟩) .i64 fun z0 =>
   aG (Mem.ld ua ⟨k1, (0 + 2), none⟩) .i64 fun GU =>
   aC (Mem.ld ua ⟨k1, (0 + 3), none⟩) fun VF Kl GV =>
   K (.agg #[(.int .i64 Io), (.int .i64 z0), (.int .i64 GU), (.slice VF Kl GV)]) ua) Kp)
  (Zh [] oL)) ∧
 ∀ Wf : Nat → Value, ∀ Iv : Mem, (Zh [] Iv) → aa Tryz.prog 132 #[(.pointer (some ⟨b0, o0, none⟩)), (.pointer (some ⟨fO, (dx + ((Int.toNat gQ) * 3)), none⟩))] Iv (fun Lh xh =>
 ∃ Li : Int, ∃ t57 : Bool, (Lh = (.tuple #[(.int .i64 Li), (.bool t57)])) ∧
 aQ (!t57)
  (aG (Mem.ld xh ⟨b0, (o0 + 1), none⟩) .i64 fun Ib =>
  ∃ OL : List Value → Mem → Prop, (aQ (decide ((Ib : Int) > 1))
   (cj (Mem.ld xh ⟨b0, (o0 + 8), none⟩) fun Wg =>
    aG (Mem.ld xh ⟨b0, (o0 + 1), none⟩) .i64 fun Ie =>
    aa Tryz.prog 98 #[(.pointer Wg), (.int .i64 2), (.int .i64 Ie)] xh (fun OA zk =>
    aG (some OA) .i64 fun n64 =>
    cj (Mem.ld zk ⟨fO, (dx + ((Int.toNat gQ) * 3)), none⟩) fun QK =>
    aC (Mem.ld zk ⟨b0, (o0 + 5), none⟩) fun IL yw ud =>
    ((0 : Int) ≤ n64) ∧
    ((n64 : Int) < ((yw : Nat) : Int)) ∧
    aD IL fun Wh IG =>
    cj (Mem.ld zk ⟨Wh, (IG + ((Int.toNat n64) * 3)), none⟩) fun Sf =>
    aa Tryz.prog 133 #[(.pointer QK), (.pointer Sf)] zk (fun Wi Bh =>
    ∃ Lg : Int, ∃ t75 : Bool, (Wi = (.tuple #[(.int .i64 Lg), (.bool t75)])) ∧
    OL [(.int .i64 5), (.int .i64 Lg), (.bool t75)] Bh) Kp) Kp)
   (OL [(.int .i64 4), (.int .i64 Li), (.bool t57)] xh)) ∧
  ∀ OM : Nat → Value, ∀ sU : Int, ∀ uE : Int, ∀ t79 : Bool, ∀ zx : Mem, (OL [(.int .i64 sU), (.int .i64 uE), (.bool t79)] zx) → aQ (!t79)
   (aC (Mem.ld zx ⟨b0, (o0 + 6), none⟩) fun OF Kn Sh =>
   aF zx ⟨fO, ((dx + ((Int.toNat gQ) * 3)) + 2), none⟩ (.int .i64 (-1)) fun FN =>
   ((0 : Int) ≤ x1) ∧
   ((x1 : Int) < ((Kn : Nat) : Int)) ∧
   aD OF fun IM FT =>
   aF FN ⟨IM, (FT + ((Int.toNat x1) * 3)), none⟩ (.int .i64 (-1)) fun IN =>
   aF IN ⟨IM, ((FT + ((Int.toNat x1) * 3)) + 1), none⟩ (.int .i64 (-1)) fun Sq =>
   aF Sq ⟨IM, ((FT + ((Int.toNat x1) * 3)) + 2), none⟩ (.int .i64 0) fun Aa =>
   aF Aa ⟨k1, 0, none⟩ (.int .i64 6) fun Sr =>
   aF Sr ⟨k1, (0 + 1), none⟩ (.int .i64 x1) fun pX =>
   aF pX ⟨k1, (0 + 2), none⟩ (.int .i64 (-1)) fun Nh =>
   aF Nh ⟨k1, (0 + 3), none⟩ (.slice none 0 0) fun Bi =>
   aG (Mem.ld Bi ⟨k1, 0, none⟩) .i64 fun On =>
   aG (Mem.ld Bi ⟨k1, (0 + 1), none⟩) .i64 fun K0 =>
   aG (Mem.ld Bi ⟨k1, (0 + 2), none⟩) .i64 fun Oo =>
   aC (Mem.ld Bi ⟨k1, (0 + 3), none⟩) fun Su Ni ON =>
   K (.agg #[(.int .i64 On), (.int .i64 K0), (.int .i64 Oo), (.slice Su Ni ON)]) Bi)
   (aG (Mem.ld zx ⟨fO, ((dx + ((Int.toNat gQ) * 3)) + 1), none⟩) .i64 fun ru =>
   aF zx ⟨fO, ((dx + ((Int.toNat gQ) * 3)) + 1), none⟩ (.int .i64 (IntKind.wrap .i64 (ru + 1))) fun pG =>
   aC (Mem.ld pG ⟨b0, (o0 + 6), none⟩) fun zB uD FU =>
   aC (Mem.ld pG ⟨b0, (o0 + 6), none⟩) fun zC uB FV =>
   aG (Mem.ld pG ⟨b0, ((o0 + 1) + 3), none⟩) .i64 fun C0 =>
   ((0 : Int) ≤ x1) ∧
   ((x1 : Int) < ((uD : Nat) : Int)) ∧
   aD zB fun IP C8 =>
   aF pG ⟨IP, ((C8 + ((Int.toNat x1) * 3)) + 1), none⟩ (.int .i64 uE) fun lK =>
   ((0 : Int) ≤ x1) ∧
   ((x1 : Int) < ((uB : Nat) : Int)) ∧
   aD zC fun IQ IS =>
   aF lK ⟨IQ, ((IS + ((Int.toNat x1) * 3)) + 2), none⟩ (.int .i64 C0) fun IU =>
   aF IU ⟨k1, 0, none⟩ (.int .i64 sU) fun IV =>
   aF IV ⟨k1, (0 + 1), none⟩ (.int .i64 x1) fun C1 =>
   aF C1 ⟨k1, (0 + 2), none⟩ (.int .i64 uE) fun xI =>
   aF xI ⟨k1, (0 + 3), none⟩ (.slice none 0 0) fun lJ =>
   aG (Mem.ld lJ ⟨k1, 0, none⟩) .i64 fun IW =>
   aG (Mem.ld lJ ⟨k1, (0 + 1), none⟩) .i64 fun C2 =>
   aG (Mem.ld lJ ⟨k1, (0 + 2), none⟩) .i64 fun C3 =>
   aC (Mem.ld lJ ⟨k1, (0 + 3), none⟩) fun IX IY C4 =>
   K (.agg #[(.int .i64 IW), (.int .i64 C2), (.int .i64 C3), (.slice IX IY C4)]) lJ))
  (∃ IZ : List Value → Mem → Prop, (IZ [(.int .i64 4), (.int .i64 Li), (.bool t57)] xh) ∧
  ∀ Lj : Nat → Value, ∀ uF : Int, ∀ tf : Int, ∀ t129 : Bool, ∀ vM : Mem, (IZ [(.int .i64 uF), (.int .i64 tf), (.bool t129)] vM) → aQ (!t129)
   (aC (Mem.ld vM ⟨b0, (o0 + 6), none⟩) fun FO FP FQ =>
   aF vM ⟨fO, ((dx + ((Int.toNat gQ) * 3)) + 2), none⟩ (.int .i64 (-1)) fun C5 =>
   ((0 : Int) ≤ x1) ∧
   ((x1 : Int) < ((FP : Nat) : Int)) ∧
   aD FO fun C9 Da =>
   aF C5 ⟨C9, (Da + ((Int.toNat x1) * 3)), none⟩ (.int .i64 (-1)) fun FR =>
   aF FR ⟨C9, ((Da + ((Int.toNat x1) * 3)) + 1), none⟩ (.int .i64 (-1)) fun FW =>
   aF FW ⟨C9, ((Da + ((Int.toNat x1) * 3)) + 2), none⟩ (.int .i64 0) fun zA =>
   aF zA ⟨k1, 0, none⟩ (.int .i64 6) fun OO =>
   aF OO ⟨k1, (0 + 1), none⟩ (.int .i64 x1) fun I0 =>
   aF I0 ⟨k1, (0 + 2), none⟩ (.int .i64 (-1)) fun OP =>
   aF OP ⟨k1, (0 + 3), none⟩ (.slice none 0 0) fun vN =>
   aG (Mem.ld vN ⟨k1, 0, none⟩) .i64 fun OQ =>
   aG (Mem.ld vN ⟨k1, (0 + 1), none⟩) .i64 fun OR =>
   aG (Mem.ld vN ⟨k1, (0 + 2), none⟩) .i64 fun OS =>
   aC (Mem.ld vN ⟨k1, (0 + 3), none⟩) fun OT OU OV =>
   K (.agg #[(.int .i64 OQ), (.int .i64 OR), (.int .i64 OS), (.slice OT OU OV)]) vN)
   (aG (Mem.ld vM ⟨fO, ((dx + ((Int.toNat gQ) * 3)) + 1), none⟩) .i64 fun C7 =>
   aF vM ⟨fO, ((dx + ((Int.toNat gQ) * 3)) + 1), none⟩ (.int .i64 (IntKind.wrap .i64 (C7 + 1))) fun zD =>
   aC (Mem.ld zD ⟨b0, (o0 + 6), none⟩) fun OW OX OK =>
   aC (Mem.ld zD ⟨b0, (o0 + 6), none⟩) fun OY OZ Wj =>
   aG (Mem.ld zD ⟨b0, ((o0 + 1) + 3), none⟩) .i64 fun O0 =>
   ((0 : Int) ≤ x1) ∧
   ((x1 : Int) < ((OX : Nat) : Int)) ∧
   aD OW fun O1 O2 =>
   aF zD ⟨O1, ((O2 + ((Int.toNat x1) * 3)) + 1), none⟩ (.int .i64 tf) fun O3 =>
   ((0 : Int) ≤ x1) ∧
   ((x1 : Int) < ((OZ : Nat) : Int)) ∧
   aD OY fun O4 O5 =>
   aF O3 ⟨O4, ((O5 + ((Int.toNat x1) * 3)) + 2), none⟩ (.int .i64 O0) fun O6 =>
   aF O6 ⟨k1, 0, none⟩ (.int .i64 uF) fun O7 =>
   aF O7 ⟨k1, (0 + 1), none⟩ (.int .i64 x1) fun O8 =>
   aF O8 ⟨k1, (0 + 2), none⟩ (.int .i64 tf) fun O9 =>
   aF O9 ⟨k1, (0 + 3), none⟩ (.slice none 0 0) fun vO =>
   aG (Mem.ld vO ⟨k1, 0, none⟩) .i64 fun Pa =>
   aG (Mem.ld vO ⟨k1, (0 + 1), none⟩) .i64 fun Pb =>
   aG (Mem.ld vO ⟨k1, (0 + 2), none⟩) .i64 fun Pc =>
   aC (Mem.ld vO ⟨k1, (0 + 3), none⟩) fun Pd Pe Pf =>
   K (.agg #[(.int .i64 Pa), (.int .i64 Pb), (.int .i64 Pc), (.slice Pd Pe Pf)]) vO))) Kp) Kp)
 (∃ Sv : List Value → Mem → Prop, (Sv [] M2) ∧
 ∀ TR : Nat → Value, ∀ Sw : Mem, (Sv [] Sw) → aa Tryz.prog 132 #[(.pointer (some ⟨b0, o0, none⟩)), (.pointer (some ⟨fO, (dx + ((Int.toNat gQ) * 3)), none⟩))] Sw (fun Wl FX =>
 ∃ Pg : Int, ∃ t181 : Bool, (Wl = (.tuple #[(.int .i64 Pg), (.bool t181)])) ∧
 aQ (!t181)
  (aG (Mem.ld FX ⟨b0, (o0 + 1), none⟩) .i64 fun Wm =>
  ∃ Ph : List Value → Mem → Prop, (aQ (decide ((Wm : Int) > 1))
   (cj (Mem.ld FX ⟨b0, (o0 + 8), none⟩) fun Wn =>
    aG (Mem.ld FX ⟨b0, (o0 + 1), none⟩) .i64 fun Wo =>
    aa Tryz.prog 98 #[(.pointer Wn), (.int .i64 2), (.int .i64 Wo)] FX (fun Wp Ll =>
    aG (some Wp) .i64 fun Pj =>
    cj (Mem.ld Ll ⟨fO, (dx + ((Int.toNat gQ) * 3)), none⟩) fun Wq =>
    aC (Mem.ld Ll ⟨b0, (o0 + 5), none⟩) fun Wr Ws k192 =>
    ((0 : Int) ≤ Pj) ∧
    ((Pj : Int) < ((Ws : Nat) : Int)) ∧
    aD Wr fun Wu Wv =>
    cj (Mem.ld Ll ⟨Wu, (Wv + ((Int.toNat Pj) * 3)), none⟩) fun Ww =>
    aa Tryz.prog 133 #[(.pointer Wq), (.pointer Ww)] Ll (fun Wx Wy =>
    ∃ Sx : Int, ∃ t199 : Bool, (Wx = (.tuple #[(.int .i64 Sx), (.bool t199)])) ∧
    Ph [(.int .i64 5), (.int .i64 Sx), (.bool t199)] Wy) Kp) Kp)
   (Ph [(.int .i64 4), (.int .i64 Pg), (.bool t181)] FX)) ∧
  ∀ TS : Nat → Value, ∀ Sy : Int, ∀ Pk : Int, ∀ t203 : Bool, ∀ I2 : Mem, (Ph [(.int .i64 Sy), (.int .i64 Pk), (.bool t203)] I2) → aQ (!t203)
   (aC (Mem.ld I2 ⟨b0, (o0 + 6), none⟩) fun Wz WB k207 =>
   aF I2 ⟨fO, ((dx + ((Int.toNat gQ) * 3)) + 2), none⟩ (.int .i64 (-1)) fun WC =>
   ((0 : Int) ≤ x1) ∧
   ((x1 : Int) < ((WB : Nat) : Int)) ∧
   aD Wz fun Pm Pn =>
   aF WC ⟨Pm, (Pn + ((Int.toNat x1) * 3)), none⟩ (.int .i64 (-1)) fun WD =>
   aF WD ⟨Pm, ((Pn + ((Int.toNat x1) * 3)) + 1), none⟩ (.int .i64 (-1)) fun WE =>
   aF WE ⟨Pm, ((Pn + ((Int.toNat x1) * 3)) + 2), none⟩ (.int .i64 0) fun WG =>
   aF WG ⟨k1, 0, none⟩ (.int .i64 6) fun WH =>
   aF WH ⟨k1, (0 + 1), none⟩ (.int .i64 x1) fun WI =>
   aF WI ⟨k1, (0 + 2), none⟩ (.int .i64 (-1)) fun WJ =>
   aF WJ ⟨k1, (0 + 3), none⟩ (.slice none 0 0) fun I3 =>
   aG (Mem.ld I3 ⟨k1, 0, none⟩) .i64 fun WK =>
   aG (Mem.ld I3 ⟨k1, (0 + 1), none⟩) .i64 fun WL =>
   aG (Mem.ld I3 ⟨k1, (0 + 2), none⟩) .i64 fun WM =>
   aC (Mem.ld I3 ⟨k1, (0 + 3), none⟩) fun WN WO WQ =>
   K (.agg #[(.int .i64 WK), (.int .i64 WL), (.int .i64 WM), (.slice WN WO WQ)]) I3)
   (aG (Mem.ld I2 ⟨fO, ((dx + ((Int.toNat gQ) * 3)) + 1), none⟩) .i64 fun WR =>
   aF I2 ⟨fO, ((dx + ((Int.toNat gQ) * 3)) + 1), none⟩ (.int .i64 (IntKind.wrap .i64 (WR + 1))) fun Lm =>
   aC (Mem.ld Lm ⟨b0, (o0 + 6), none⟩) fun WS WT k228 =>
   aC (Mem.ld Lm ⟨b0, (o0 + 6), none⟩) fun WU WW k231 =>
   aG (Mem.ld Lm ⟨b0, ((o0 + 1) + 3), none⟩) .i64 fun WX =>
   ((0 : Int) ≤ x1) ∧
   ((x1 : Int) < ((WT : Nat) : Int)) ∧
   aD WS fun WY WZ =>
   aF Lm ⟨WY, ((WZ + ((Int.toNat x1) * 3)) + 1), none⟩ (.int .i64 Pk) fun W0 =>
   ((0 : Int) ≤ x1) ∧
   ((x1 : Int) < ((WW : Nat) : Int)) ∧
   aD WU fun W1 W2 =>
   aF W0 ⟨W1, ((W2 + ((Int.toNat x1) * 3)) + 2), none⟩ (.int .i64 WX) fun W3 =>
   aF W3 ⟨k1, 0, none⟩ (.int .i64 Sy) fun W4 =>
   aF W4 ⟨k1, (0 + 1), none⟩ (.int .i64 x1) fun W5 =>
   aF W5 ⟨k1, (0 + 2), none⟩ (.int .i64 Pk) fun W6 =>
   aF W6 ⟨k1, (0 + 3), none⟩ (.slice none 0 0) fun I7 =>
   aG (Mem.ld I7 ⟨k1, 0, none⟩) .i64 fun W7 =>
   aG (Mem.ld I7 ⟨k1, (0 + 1), none⟩) .i64 fun W8 =>
   aG (Mem.ld I7 ⟨k1, (0 + 2), none⟩) .i64 fun W9 =>
   aC (Mem.ld I7 ⟨k1, (0 + 3), none⟩) fun Xa Xb Xc =>
   K (.agg #[(.int .i64 W7), (.int .i64 W8), (.int .i64 W9), (.slice Xa Xb Xc)]) I7))
  (∃ Sz : List Value → Mem → Prop, (Sz [(.int .i64 4), (.int .i64 Pg), (.bool t181)] FX) ∧
  ∀ TT : Nat → Value, ∀ SB : Int, ∀ Po : Int, ∀ t253 : Bool, ∀ I9 : Mem, (Sz [(.int .i64 SB), (.int .i64 Po), (.bool t253)] I9) → aQ (!t253)
   (aC (Mem.ld I9 ⟨b0, (o0 + 6), none⟩) fun Xd Xe k257 =>
   aF I9 ⟨fO, ((dx + ((Int.toNat gQ) * 3)) + 2), none⟩ (.int .i64 (-1)) fun Xf =>
   ((0 : Int) ≤ x1) ∧
   ((x1 : Int) < ((Xe : Nat) : Int)) ∧
   aD Xd fun Pp Pq =>
   aF Xf ⟨Pp, (Pq + ((Int.toNat x1) * 3)), none⟩ (.int .i64 (-1)) fun Xg =>
   aF Xg ⟨Pp, ((Pq + ((Int.toNat x1) * 3)) + 1), none⟩ (.int .i64 (-1)) fun Xh =>
   aF Xh ⟨Pp, ((Pq + ((Int.toNat x1) * 3)) + 2), none⟩ (.int .i64 0) fun Xi =>
   aF Xi ⟨k1, 0, none⟩ (.int .i64 6) fun Xj =>
   aF Xj ⟨k1, (0 + 1), none⟩ (.int .i64 x1) fun Xk =>
   aF Xk ⟨k1, (0 + 2), none⟩ (.int .i64 (-1)) fun Xl =>
   aF Xl ⟨k1, (0 + 3), none⟩ (.slice none 0 0) fun Ja =>
   aG (Mem.ld Ja ⟨k1, 0, none⟩) .i64 fun Xm =>
   aG (Mem.ld Ja ⟨k1, (0 + 1), none⟩) .i64 fun Xn =>
   aG (Mem.ld Ja ⟨k1, (0 + 2), none⟩) .i64 fun Xo =>
   aC (Mem.ld Ja ⟨k1, (0 + 3), none⟩) fun Xp Xq Xr =>
   K (.agg #[(.int .i64 Xm), (.int .i64 Xn), (.int .i64 Xo), (.slice Xp Xq Xr)]) Ja)
   (aG (Mem.ld I9 ⟨fO, ((dx + ((Int.toNat gQ) * 3)) + 1), none⟩) .i64 fun Xs =>
   aF I9 ⟨fO, ((dx + ((Int.toNat gQ) * 3)) + 1), none⟩ (.int .i64 (IntKind.wrap .i64 (Xs + 1))) fun Ln =>
   aC (Mem.ld Ln ⟨b0, (o0 + 6), none⟩) fun Xt Xu k278 =>
   aC (Mem.ld Ln ⟨b0, (o0 + 6), none⟩) fun Xv Xw k281 =>
   aG (Mem.ld Ln ⟨b0, ((o0 + 1) + 3), none⟩) .i64 fun Xx =>
   ((0 : Int) ≤ x1) ∧
   ((x1 : Int) < ((Xu : Nat) : Int)) ∧
   aD Xt fun Xy Xz =>
   aF Ln ⟨Xy, ((Xz + ((Int.toNat x1) * 3)) + 1), none⟩ (.int .i64 Po) fun XA =>
   ((0 : Int) ≤ x1) ∧
   ((x1 : Int) < ((Xw : Nat) : Int)) ∧
   aD Xv fun XB XC =>
   aF XA ⟨XB, ((XC + ((Int.toNat x1) * 3)) + 2), none⟩ (.int .i64 Xx) fun XD =>
   aF XD ⟨k1, 0, none⟩ (.int .i64 SB) fun XE =>
   aF XE ⟨k1, (0 + 1), none⟩ (.int .i64 x1) fun XF =>
   aF XF ⟨k1, (0 + 2), none⟩ (.int .i64 Po) fun XG =>
   aF XG ⟨k1, (0 + 3), none⟩ (.slice none 0 0) fun Jb =>
   aG (Mem.ld Jb ⟨k1, 0, none⟩) .i64 fun XH =>
   aG (Mem.ld Jb ⟨k1, (0 + 1), none⟩) .i64 fun XI =>
   aG (Mem.ld Jb ⟨k1, (0 + 2), none⟩) .i64 fun XJ =>
   aC (Mem.ld Jb ⟨k1, (0 + 3), none⟩) fun XK XL XM =>
   K (.agg #[(.int .i64 XH), (.int .i64 XI), (.int .i64 XJ), (.slice XK XL XM)]) Jb))) Kp)) :
 aa Tryz.prog 101 ([.pointer (some ⟨b0, o0, none⟩), .int .i64 x1] : List Value).toArray M K Kp :=
 bX (C := Cx) good [(1, .bL [0, 1, 3, 7, 0, 16, 48, 112, 0, 496, 1008, 2032, 4095, 8191] (.step 0 (.step 1 (.step 2 (.step 4 (.step 5 (.step 6 (.step 8 (.step 3 (.step 7 (.step 9 (.step 10 (.step 11 (.step 12 (.step 13 .done))))))))))))))), (3000039, .cut []), (3, .bL [0, 1, 3, 7, 0, 0, 32, 96, 224, 480, 992, 2016, 2016, 4095, 12287, 28671] (.step 0 (.step 1 (.step 2 (.step 4 (.step 5 (.step 6 (.step 7 (.step 8 (.fK 3 (.step 9 (.step 10 (.step 11 (.step 12 (.step 13 (.step 14 (.step 15 .done))))))))))))))))), (3000080, .cut [(6, .c (.int .i64)), (7, .c (.int .i64)), (8, .c .bool)]), (8, .bL [0, 1, 3, 7, 0, 16, 48, 112, 240, 511, 1023] (.step 0 (.step 1 (.step 2 (.step 4 (.step 5 (.step 6 (.step 7 (.step 3 (.step 8 (.step 9 (.step 10 .done)))))))))))), (10, .bL [0, 1, 3, 7, 0, 16, 48, 112, 0, 496, 1008, 2032, 4095, 8191, 16383, 16383, 32767, 131071] (.step 0 (.step 1 (.step 2 (.step 4 (.step 5 (.step 6 (.step 8 (.step 3 (.step 7 (.step 9 (.step 10 (.step 11 (.step 12 (.step 13 (.step 14 (.step 15 (.step 16 (.step 17 .done))))))))))))))))))), (15, .bL [0, 1, 3, 7, 0, 0, 32, 96, 224, 0, 0, 0, 2048, 6144, 14336, 30720, 65023, 130559, 261631, 524287, 1048575, 2097151] (.step 0 (.step 1 (.step 2 (.step 4 (.step 5 (.step 6 (.step 7 (.step 9 (.step 10 (.step 11 (.step 12 (.step 13 (.step 14 (.step 3 (.step 8 (.step 15 (.step 16 (.step 17 (.step 18 (.step 19 (.step 20 (.step 21 .done)))))))))))))))))))))))] Tryz.func101 (by kernel_rfl) (by kernel_rfl) h
theorem qp {b0 o0 : Nat} {x1 : Int} (h :
bg M (.cells #[(.int .i64 0), (.int .i64 0), (.int .i64 0), (.slice none 0 0)] 47 (0, 0)) fun k1 M2 =>
aC (Mem.ld M2 ⟨b0, (o0 + 6), none⟩) fun A3 k4 k5 =>
((0 : Int) ≤ x1) ∧
((x1 : Int) < ((k4 : Nat) : Int)) ∧
aD A3 fun k6 k7 =>
aG (Mem.ld M2 ⟨k6, ((k7 + ((Int.toNat x1) * 3)) + 1), none⟩) .i64 fun n8 =>
cj (Mem.ld M2 ⟨b0, o0, none⟩) fun A9 =>
cj (Mem.ld M2 ⟨b0, (o0 + 8), none⟩) fun Cc =>
(True) ∧
aa Tryz.prog 41 #[(.pointer A9), (.int .i64 n8), (.func (.func 98) #[(.pointer Cc)] #[])] M2 (fun v11 sw =>
∃ t13 : Bool, ∃ mP : Option Addr, ∃ gn : Nat, ∃ fU : Nat, (v11 = (.agg #[(.bool t13), (.slice mP gn fU)])) ∧
bg sw (.cells #[(.bool false), (.slice none 0 0)] 120 (0, 0)) fun eG pZ =>
aF pZ ⟨eG, 0, none⟩ (.bool t13) fun jV =>
aF jV ⟨eG, (0 + 1), none⟩ (.slice mP gn fU) fun rm =>
aC (Mem.ld rm ⟨eG, (0 + 1), none⟩) fun xA gO ji =>
∃ Pr : Nat → List Value → Mem → Prop, (∃ uR : Nat, Pr uR [(.int .i64 0)] rm) ∧
∀ rq : Nat, ∀ Ps : Nat → Value, ∀ tT : Int, ∀ mO : Mem, (Pr rq [(.int .i64 tT)] mO) → aQ (decide ((tT : Int) < ((gO : Nat) : Int)))
 (((0 : Int) ≤ tT) ∧
 ((tT : Int) < ((gO : Nat) : Int)) ∧
 aD xA fun lF pL =>
 aG (Mem.ld mO ⟨lF, (pL + (Int.toNat tT)), none⟩) .i64 fun n32 =>
 aC (Mem.ld mO ⟨b0, (o0 + 5), none⟩) fun Ic yp w6 =>
 aG (Mem.ld mO ⟨k6, (k7 + ((Int.toNat x1) * 3)), none⟩) .i64 fun xF =>
 ((0 : Int) ≤ xF) ∧
 ((xF : Int) < ((yp : Nat) : Int)) ∧
 aD Ic fun xe ia =>
 cj (Mem.ld mO ⟨xe, (ia + ((Int.toNat xF) * 3)), none⟩) fun TH =>
 aa Tryz.prog 134 #[(.pointer TH), (.int .i64 n32), (.pointer (some ⟨b0, (o0 + 7), none⟩))] mO (fun K5 Be =>
 aG (some K5) .i64 fun RQ =>
 ∃ w7 : Nat, (w7 < rq) ∧
 Pr w7 [(.int .i64 (IntKind.wrap .i64 (tT + 1)))] Be) Kp)
 (aG (Mem.ld mO ⟨k6, ((k7 + ((Int.toNat x1) * 3)) + 2), none⟩) .i64 fun FK =>
 aF mO ⟨k6, ((k7 + ((Int.toNat x1) * 3)) + 2), none⟩ (.int .i64 (IntKind.wrap .i64 (FK - 1))) fun ua =>
 c6 (Mem.ld ua ⟨eG, 0, none⟩) fun t46 =>
 aQ (!t46)
  (aF ua ⟨k6, ((k7 + ((Int.toNat x1) * 3)) + 1), none⟩ (.int .i64 (-1)) fun vH =>
  cj (Mem.ld vH ⟨b0, o0, none⟩) fun Le =>
  aa Tryz.prog 65 #[(.pointer Le), (.int .i64 n8)] vH (fun H9 w5 =>
  aG (some H9) .i64 fun Ip =>
  aQ (Ip == 1)
   (bg w5 (.cells #[(.int .i64 n8)] 3 (0, 0)) fun sA Iv =>
   aa Tryz.prog 53 #[(.pointer (some ⟨b0, (o0 + 7), none⟩)), (.slice (some ⟨sA, 0, none⟩) 1 1)] Iv (fun Lh xh =>
   (Lh = (.tuple #[])) ∧
   aC (Mem.ld xh ⟨eG, (0 + 1), none⟩) fun Pt xg FE =>
   aF xh ⟨k1, 0, none⟩ (.int .i64 7) fun yx =>
   aF yx ⟨k1, (0 + 1), none⟩ (.int .i64 x1) fun AV =>
   aF AV ⟨k1, (0 + 2), none⟩ (.int .i64 n8) fun CO =>
   aF CO ⟨k1, (0 + 3), none⟩ (.slice Pt xg FE) fun qJ =>
   aG (Mem.ld qJ ⟨k1, 0, none⟩) .i64 fun GP =>
   aG (Mem.ld qJ ⟨k1, (0 + 1), none⟩) .i64 fun n64 =>
   aG (Mem.ld qJ ⟨k1, (0 + 2), none⟩) .i64 fun yo =>
   aC (Mem.ld qJ ⟨k1, (0 + 3), none⟩) fun IL yw ud =>
   K (.agg #[(.int .i64 GP), (.int .i64 n64), (.int .i64 yo), (.slice IL yw ud)]) qJ) Kp)
   (aC (Mem.ld w5 ⟨eG, (0 + 1), none⟩) fun SC IG Km =>
   aF w5 ⟨k1, 0, none⟩ (.int .i64 7) fun z8 =>
   aF z8 ⟨k1, (0 + 1), none⟩ (.int .i64 x1) fun Bh =>
   aF Bh ⟨k1, (0 + 2), none⟩ (.int .i64 n8) fun Bf =>
   aF Bf ⟨k1, (0 + 3), none⟩ (.slice SC IG Km) fun uc =>
   aG (Mem.ld uc ⟨k1, 0, none⟩) .i64 fun KZ =>
   aG (Mem.ld uc ⟨k1, (0 + 1), none⟩) .i64 fun sU =>
   aG (Mem.ld uc ⟨k1, (0 + 2), none⟩) .i64 fun uE =>
   aC (Mem.ld uc ⟨k1, (0 + 3), none⟩) fun OJ Ld uU =>
   K (.agg #[(.int .i64 KZ), (.int .i64 sU), (.int .i64 uE), (.slice OJ Ld uU)]) uc)) Kp)
  (aG (Mem.ld ua ⟨k6, ((k7 + ((Int.toNat x1) * 3)) + 2), none⟩) .i64 fun GQ =>
  aQ (GQ == 0)
   (aF ua ⟨k6, ((k7 + ((Int.toNat x1) * 3)) + 1), none⟩ (.int .i64 (-1)) fun FL =>
   cj (Mem.ld FL ⟨b0, o0, none⟩) fun XN =>
   aa Tryz.prog 65 #[(.pointer XN), (.int .i64 n8)] FL (fun Si Lf =>
   aG (some Si) .i64 fun XO =>
   aQ (XO == 1)
    (bg Lf (.cells #[(.int .i64 n8)] 3 (0, 0)) fun OG Aa =>
    aa Tryz.prog 53 #[(.pointer (some ⟨b0, (o0 + 7), none⟩)), (.slice (some ⟨OG, 0, none⟩) 1 1)] Aa (fun La pX =>
    (La = (.tuple #[])) ∧
    aC (Mem.ld pX ⟨eG, (0 + 1), none⟩) fun R8 Sj OH =>
    aF pX ⟨k1, 0, none⟩ (.int .i64 7) fun Lo =>
    aF Lo ⟨k1, (0 + 1), none⟩ (.int .i64 x1) fun XP =>
    aF XP ⟨k1, (0 + 2), none⟩ (.int .i64 n8) fun Lb =>
    aF Lb ⟨k1, (0 + 3), none⟩ (.slice R8 Sj OH) fun Jc =>
    aG (Mem.ld Jc ⟨k1, 0, none⟩) .i64 fun QL =>
    aG (Mem.ld Jc ⟨k1, (0 + 1), none⟩) .i64 fun ru =>
    aG (Mem.ld Jc ⟨k1, (0 + 2), none⟩) .i64 fun Ig =>
    aC (Mem.ld Jc ⟨k1, (0 + 3), none⟩) fun zB uD FU =>
    K (.agg #[(.int .i64 QL), (.int .i64 ru), (.int .i64 Ig), (.slice zB uD FU)]) Jc) Kp)
    (aC (Mem.ld Lf ⟨eG, (0 + 1), none⟩) fun zC uB FV =>
    aF Lf ⟨k1, 0, none⟩ (.int .i64 7) fun FY =>
    aF FY ⟨k1, (0 + 1), none⟩ (.int .i64 x1) fun uy =>
    aF uy ⟨k1, (0 + 2), none⟩ (.int .i64 n8) fun Pu =>
    aF Pu ⟨k1, (0 + 3), none⟩ (.slice zC uB FV) fun lK =>
    aG (Mem.ld lK ⟨k1, 0, none⟩) .i64 fun CQ =>
    aG (Mem.ld lK ⟨k1, (0 + 1), none⟩) .i64 fun Ih =>
    aG (Mem.ld lK ⟨k1, (0 + 2), none⟩) .i64 fun Ii =>
    aC (Mem.ld lK ⟨k1, (0 + 3), none⟩) fun Pv Pw Px =>
    K (.agg #[(.int .i64 CQ), (.int .i64 Ih), (.int .i64 Ii), (.slice Pv Pw Px)]) lK)) Kp)
   (aC (Mem.ld ua ⟨eG, (0 + 1), none⟩) fun Py Jd FZ =>
   aF ua ⟨k1, 0, none⟩ (.int .i64 7) fun Pz =>
   aF Pz ⟨k1, (0 + 1), none⟩ (.int .i64 x1) fun PB =>
   aF PB ⟨k1, (0 + 2), none⟩ (.int .i64 n8) fun Db =>
   aF Db ⟨k1, (0 + 3), none⟩ (.slice Py Jd FZ) fun vP =>
   aG (Mem.ld vP ⟨k1, 0, none⟩) .i64 fun PC =>
   aG (Mem.ld vP ⟨k1, (0 + 1), none⟩) .i64 fun F0 =>
   aG (Mem.ld vP ⟨k1, (0 + 2), none⟩) .i64 fun uF =>
   aC (Mem.ld vP ⟨k1, (0 + 3), none⟩) fun PD PE F1 =>
   K (.agg #[(.int .i64 PC), (.int .i64 F0), (.int .i64 uF), (.slice PD PE F1)]) vP)))) Kp) :
 aa Tryz.prog 102 ([.pointer (some ⟨b0, o0, none⟩), .int .i64 x1] : List Value).toArray M K Kp :=
 bX (C := Cx) good [(3, .bL [0, 1, 3, 7, 0, 0, 32, 96, 224, 480, 1023, 0, 4095] (.step 0 (.step 1 (.step 2 (.step 4 (.step 5 (.step 6 (.step 7 (.step 3 (.step 8 (.step 9 (.late 10 (.step 11 (.step 12 .done)))))))))))))), (2000000, .loop [(34, .c (.int .i64))]), (7, .bL [0, 1, 3, 7, 0, 16, 48, 112, 255, 511, 1023, 0, 0, 4096, 12288, 32767] (.step 0 (.step 1 (.step 2 (.step 4 (.step 5 (.step 6 (.step 11 (.step 12 (.step 13 (.step 14 (.step 3 (.step 7 (.step 8 (.step 9 (.step 10 (.step 15 .done)))))))))))))))))] Tryz.func102 (by kernel_rfl) (by kernel_rfl) h
theorem qq {b0 o0 : Nat} {b1 o1 : Nat} (h :
rP M b1 o1 fun A1 =>
aa Tryz.prog 177 #[(.pointer A1), (.pointer (some ⟨b0, (o0 + 7), none⟩))] M (fun v2 M3 =>
aG (some v2) .i64 fun n4 =>
rI M3 b1 (o1 + 1) fun n5 =>
((7 : Int) ≠ 0) ∧
aQ ((Int.tmod n5 7) == 6)
 (aa Tryz.prog 178 #[(.pointer (some ⟨b0, (o0 + 7), none⟩)), (iV 1)] M3 (fun v6 M7 =>
 aC (some v6) fun A8 k9 eM =>
 aQ ((k9 : Int) == 1)
 (((0 : Int) ≤ 0) ∧
 ((0 : Int) < k9) ∧
 aD A8 fun ei fO =>
 rI M7 ei (fO + 0) fun ju =>
 K (.tuple #[(iV ju), (.bool true)]) M7)
 (rP M7 b1 o1 fun mP =>
 aa Tryz.prog 131 #[(.pointer mP)] M7 (fun CV eF =>
 ∃ jY : Int, ∃ t18 : Bool, (CV = (.tuple #[(iV jY), (.bool t18)])) ∧
 aQ t18
 (K (.tuple #[(iV jY), (.bool true)]) eF)
 (rP eF b1 o1 fun Eg =>
 aa Tryz.prog 179 #[(.pointer Eg), (.pointer (some ⟨b0, (o0 + 7), none⟩)), (iV 0)] eF (fun v20 tS =>
 ∃ ux : Int, ∃ t23 : Bool, (v20 = (.tuple #[(iV ux), (.bool t23)])) ∧
 K (.tuple #[(iV ux), (.bool t23)]) tS) Kp)) Kp)) Kp)
 (rP M3 b1 o1 fun K2 =>
 aa Tryz.prog 131 #[(.pointer K2)] M3 (fun Ow tZ =>
 ∃ xE : Int, ∃ t28 : Bool, (Ow = (.tuple #[(iV xE), (.bool t28)])) ∧
 aQ t28
 (K (.tuple #[(iV xE), (.bool true)]) tZ)
 (rP tZ b1 o1 fun GR =>
 aa Tryz.prog 179 #[(.pointer GR), (.pointer (some ⟨b0, (o0 + 7), none⟩)), (iV 0)] tZ (fun v30 Na =>
 ∃ n32 : Int, ∃ t33 : Bool, (v30 = (.tuple #[(iV n32), (.bool t33)])) ∧
 K (.tuple #[(iV n32), (.bool t33)]) Na) Kp)) Kp)) Kp) :
 aa Tryz.prog 132 #[.pointer (some ⟨b0, o0, none⟩), .pointer (some ⟨b1, o1, none⟩)] M K Kp := vw [(1, .bL [0, 1, 3, 7, 0, 16, 48, 127] (sy [0, 1, 2, 4, 5, 6, 3, 7] .done)), (9, .bL [0, 1, 3, 7, 0, 16, 48, 127, 255, 255, 1023, 2047] (sy [0, 1, 2, 4, 5, 6, 3, 7, 8, 9, 10, 11] .done))] Tryz.func132 h
end Go.Proofs
namespace Go.AF
theorem cu.two : ∀ (zs : List HP) (i j : Nat), i ≠ j → i < zs.length → j < zs.length → ∃ rest, ∀ P Q, ∃ l1, cu ((zs.set i P).set j Q) P l1 ∧ cu l1 Q rest
 | [], _, _, _, h, _ => by simp at h
 | z :: zs, 0, 0, h, _, _ => absurd rfl h
 | z :: zs, 0, j + 1, _, _, hj => ⟨zs.eraseIdx j, fun P Q => ⟨zs.set j Q, by simp only [List.set_cons_zero, List.set_cons_succ]; exact .here, cu.idx (by simpa using hj)⟩⟩
 | z :: zs, i + 1, 0, _, hi, _ => ⟨zs.eraseIdx i, fun P Q => ⟨Q :: zs.eraseIdx i, by simp only [List.set_cons_zero, List.set_cons_succ]; exact .there (cu.idx (by simpa using hi)), .here⟩⟩
 | z :: zs, i + 1, j + 1, h, hi, hj => by
  obtain ⟨rest, hr⟩ := cu.two zs i j (by omega) (by simpa using hi) (by simpa using hj)
  refine ⟨z :: rest, fun P Q => ?_⟩
  obtain ⟨l1, h1, h2⟩ := hr P Q
  exact ⟨z :: l1, by simp only [List.set_cons_succ]; exact .there h1, .there h2⟩
section
variable {α : Type} {r : qH α} {R : Mem} {L L' lY : List HP} {M : Mem} {bs : List Nat} {cs : List α} {b b' i j : Nat} {c c' : α}
theorem Hp.Je (h : Hp R L M) (r : qH α) {bs : List Nat} {cs : List α} [o : eC r L bs cs L'] (hij : i ≠ j) (hb : bs[i]? = some b) (hc : cs[i]? = some c) (hb' : bs[j]? = some b') (Ce : cs[j]? = some c') :
  ∃ X : HP, Hp R (ax r b c :: ax r b' c' :: X :: L') M ∧ ∀ {R' : Mem} {L2 : List HP} {M' : Mem} {d d' : α}, Hp R' (ax r b d :: ax r b' d' :: X :: L2) M' → Hp R' (aR r bs ((cs.set i d).set j d') :: L2) M' := by
 have hi := (List.getElem?_eq_some_iff.1 hb).1
 have hj := (List.getElem?_eq_some_iff.1 hb').1
 have Jf := (List.getElem?_eq_some_iff.1 hc).1
 have Kh := (List.getElem?_eq_some_iff.1 Ce).1
 have hl : (List.zipWith (ax r) bs cs).length = min bs.length cs.length := List.length_zipWith
 obtain ⟨rest, hr⟩ := cu.two (List.zipWith (ax r) bs cs) i j hij (by omega) (by omega)
 refine ⟨sep rest, ?_, ?_⟩
 ·have h0 : Hp R (sep (List.zipWith (ax r) bs cs) :: L') M := h.pick o.pick
  obtain ⟨l1, p1, p2⟩ := hr (ax r b c) (ax r b' c')
  have e : ((List.zipWith (ax r) bs cs).set i (ax r b c)).set j (ax r b' c') = List.zipWith (ax r) bs cs := by
   rw [lG hb, lG hb']
   congr 1
   obtain ⟨_, e1⟩ := List.getElem?_eq_some_iff.1 hc
   obtain ⟨_, e2⟩ := List.getElem?_eq_some_iff.1 Ce
   subst e1; subst e2
   rw [List.set_getElem_self, List.set_getElem_self]
  rw [e] at p1
  refine h0.map fun A hs => ?_
  have h1 := bK.pick p1.app (bK.aO.1 hs)
  exact h1.tail fun B Kf => (bK.pick p2.app Kf).tail fun C MW => bK.aO.2 MW
 ·intro R' L2 M' d d' h1
  obtain ⟨l1, p1, p2⟩ := hr (ax r b d) (ax r b' d')
  rw [lG hb, lG hb'] at p1
  show Hp R' (sep (List.zipWith (ax r) bs ((cs.set i d).set j d')) :: L2) M'
  refine h1.map fun A hs => bK.aO.2 (bK.lu p1.app ?_)
  exact hs.tail fun B Kf => bK.lu p2.app (Kf.tail fun C MW => bK.aO.1 MW)
end
end Go.AF
namespace Go.Proofs
open Go.AF
set_option maxRecDepth 100000
variable {M : Mem} {K : Value → Mem → Prop} {Kp : List PanicEntry → Mem → Prop}
theorem mG  (h :
bg M (cl [(iV 20), (iV 0), (iV 0), (iV 0), (iV 10), (iV 0), (iV 0), (iV 0)] 34) fun k1 M2 =>
bg M2 (cl [(.slice (some ⟨k1, 0, none⟩) 2 2)] 31) fun k3 M4 =>
bg M4 Fw fun k5 M6 =>
Fv M6 k5 (.slice (some ⟨k3, 0, none⟩) 1 1) (.slice none 0 0) (iV 0) (.slice none 0 0) fun js =>
HT js k5 0 fun Iu fO dx mP gn fU jY Em iw jy =>
bg js Fx fun eY oL =>
aa Tryz.prog 17 #[(.slice (some ⟨eY, 0, none⟩) 4 4)] oL (fun RL iS =>
cj (some RL) fun KX =>
((Mem.gh iS ⟨k5, 0, none⟩ 0 4) = some [(.slice Iu fO dx), (.slice mP gn fU), (iV jY), (.slice Em iw jy)]) ∧
aa Tryz.prog 16 #[(.agg #[(.slice Iu fO dx), (.slice mP gn fU), (iV jY), (.slice Em iw jy)]), (.agg #[(iV 1), (iV 1), (iV 2), (iV 9)]), (.pointer KX)] iS (fun RJ tV =>
cj (some RJ) fun FG =>
((Mem.gh tV ⟨k5, 0, none⟩ 0 4) = some [(.slice Iu fO dx), (.slice mP gn fU), (iV jY), (.slice Em iw jy)]) ∧
aQ (Option.isNone FG)
 (K (.bool false) tV)
 (aa Tryz.prog 50 #[(.pointer FG)] tV (fun We vA =>
 ∃ uS n32 Ee : Int, ∃ Zi : Option Addr, ∃ w6 Ej : Nat, (We = (.agg #[(iV uS), (iV n32), (iV Ee), (.slice Zi w6 Ej)])) ∧
 aa Tryz.prog 50 #[(.pointer FG)] vA (fun U7 kV =>
 ∃ GM MY Ng : Int, ∃ QD : Option Addr, ∃ w7 Oj : Nat, (U7 = (.agg #[(iV GM), (iV MY), (iV Ng), (.slice QD w7 Oj)])) ∧
 aa Tryz.prog 50 #[(.pointer FG)] kV (fun RZ IF =>
 ∃ z0 GU QJ : Int, ∃ TQ : Option Addr, ∃ GV sA : Nat, (RZ = (.agg #[(iV z0), (iV GU), (iV QJ), (.slice TQ GV sA)])) ∧
 bg IF gk fun rj GO =>
 bg GO gk fun Nb Ol =>
 bg Ol gk fun xg OD =>
 Fv OD rj (iV uS) (iV n32) (iV Ee) (.slice Zi w6 Ej) fun qJ =>
 Fv qJ Nb (iV GM) (iV MY) (iV Ng) (.slice QD w7 Oj) fun QG =>
 Fv QG xg (iV z0) (iV GU) (iV QJ) (.slice TQ GV sA) fun Cf =>
 aa Tryz.prog 50 #[(.pointer FG)] Cf (fun v71 z8 =>
 ∃ Om Lg KY : Int, ∃ Vp : Option Addr, ∃ Vq OE : Nat, (v71 = (.agg #[(iV Om), (iV Lg), (iV KY), (.slice Vp Vq OE)])) ∧
 rI z8 rj 0 fun F2 =>
 aQ (F2 == 2)
 (rI z8 Nb 0 fun CP =>
 aQ (CP == 4)
 (rI z8 Nb 2 fun QM =>
 aQ (QM == 0)
 (rI z8 xg 0 fun GQ =>
 aQ (GQ == 7)
 (aa Tryz.prog 23 #[(.pointer FG)] z8 (fun XQ FN =>
 aG (some XQ) .i64 fun Nf =>
 aQ (Nf == 1)
 (aa Tryz.prog 33 #[(.pointer FG)] FN (fun XR IN =>
 aG (some XR) .i64 fun n88 =>
 K (.bool (n88 == 4)) IN) Kp)
 (K (.bool false) FN)) Kp)
 (K (.bool false) z8))
 (K (.bool false) z8))
 (K (.bool false) z8))
 (K (.bool false) z8)) Kp) Kp) Kp) Kp)) Kp) Kp) :
 aa Tryz.prog 12 #[] M K Kp := vw [(2, .bL [0, 0, 0, 4, 15, 31] (sy [1] (.fK 0 (sy [2, 3, 4, 5] .done))))] Tryz.func12 h
theorem nD {AZ : Int} {Ba : Int} {rD : Int} {SD : Int} (h :
bg M (cl [(iV AZ), (iV Ba), (iV rD), (iV SD)] 23) fun k1 M2 =>
bg M2 Fy fun k3 M4 =>
jg M4 k1 0 fun n5 n6 n7 n8 =>
aa Tryz.prog 51 #[(iV n5), (iV 5)] M4 (fun v9 js =>
aG (some v9) .i64 fun gQ =>
eI js k1 3 n8 ∧
eI js k1 2 n7 ∧
eI js k1 1 n6 ∧
aa Tryz.prog 51 #[(iV n6), (iV 5)] js (fun GK ku =>
aG (some GK) .i64 fun mj =>
eI ku k1 3 n8 ∧
eI ku k1 2 n7 ∧
eI ku k1 1 n6 ∧
aa Tryz.prog 51 #[(iV n7), (iV 5)] ku (fun CV eF =>
aG (some CV) .i64 fun jY =>
eI eF k1 3 n8 ∧
eI eF k1 2 n7 ∧
eI eF k1 1 n6 ∧
aa Tryz.prog 51 #[(iV n8), (iV 12)] eF (fun CN jV =>
aG (some CN) .i64 fun hG =>
eI jV k1 3 n8 ∧
eI jV k1 2 n7 ∧
eI jV k1 1 n6 ∧
Fv jV k3 (iV (IntKind.wrap .i64 (1 + gQ))) (iV (IntKind.wrap .i64 (1 + mj))) (iV (IntKind.wrap .i64 (2 + jY))) (iV (IntKind.wrap .i64 (1 + hG))) fun iS =>
eI iS k1 3 n8 ∧
eI iS k1 2 n7 ∧
eI iS k1 1 n6 ∧
jg iS k3 0 fun sY rH xE tT =>
K (.agg #[(iV sY), (iV rH), (iV xE), (iV tT)]) iS) Kp) Kp) Kp) Kp) :
 aa Tryz.prog 15 #[.agg #[.int .i64 AZ, .int .i64 Ba, .int .i64 rD, .int .i64 SD]] M K Kp := vw [(2, .bL [0, 0, 2, 7, 15, 0, 0, 64, 239, 495, 0, 0, 2048, 7663, 15855, 0, 0, 65536, 245231, 507375, 1048575, 2097151] (sy [0, 1, 5, 6, 10, 11, 15, 16, 2] (.fK 7 (.fK 12 (.fK 17 (sy [3, 4, 8, 9, 13, 14, 18, 19, 20, 21] .done))))))] Tryz.func15 h
theorem lM {x0 : Int} {x1 : Int} (h :
((x1 : Int) ≠ 0) ∧
K (iV (Int.tmod (IntKind.wrap .i64 (((Nat.bitwise and (BitVec.ofInt IntKind.i64.bits x0).toNat (BitVec.ofInt IntKind.i64.bits 255).toNat) : Nat) : Int)) x1)) M) :
 aa Tryz.prog 51 #[.int .i64 x0, .int .i64 x1] M K Kp := vw [] Tryz.func51 h
end Go.Proofs
namespace Go.Proofs
open Go.AF
set_option maxRecDepth 100000
theorem nE {b0 o0 : Nat} {M : Mem} {K : Value → Mem → Prop} {Kp : List PanicEntry → Mem → Prop} (h :
bg M (cl [(.pointer (some ⟨b0, o0, none⟩))] 42) fun k1 M2 =>
bg M2 gk fun k3 M4 =>
bg M4 gk fun k5 M6 =>
aa Tryz.prog 56 #[(.func (.func 57) #[] #[(.pointer (some ⟨k1, 0, none⟩)), (.pointer (some ⟨k5, 0, none⟩))])] M6 (fun v7 M8 =>
∃ n9 jX gQ iy ju mj : Int, (v7 = (.tuple #[(iV n9), (.agg #[(iV jX), (iV gQ), (iV iy), (iV ju), (.int .u64 mj)])])) ∧
bg M8 m9 fun gn eF =>
UW eF gn (iV jX) (iV gQ) (iV iy) (iV ju) (.int .u64 mj) fun tS =>
AR tS k5 0 fun ux zn z9 KX rq zl =>
Fv tS k3 (iV ux) (iV zn) (iV z9) (.slice KX rq zl) fun Na =>
AR Na k3 0 fun n32 Ee Oy Ve Ej xe =>
K (.tuple #[(.agg #[(iV n32), (iV Ee), (iV Oy), (.slice Ve Ej xe)]), (iV n9)]) Na) Kp) :
 aa Tryz.prog 18 #[.pointer (some ⟨b0, o0, none⟩)] M K Kp := vw [] Tryz.func18 h
theorem gD {b0 o0 : Nat} {b1 o1 : Nat} {M : Mem} {K : Value → Mem → Prop} {Kp : List PanicEntry → Mem → Prop} (h :
rP M b0 o0 fun A1 =>
aa Tryz.prog 50 #[(.pointer A1)] M (fun v2 M3 =>
∃ n4 n5 n6 : Int, ∃ A7 : Option Addr, ∃ k8 k9 : Nat, (v2 = (.agg #[(iV n4), (iV n5), (iV n6), (.slice A7 k8 k9)])) ∧
sT M3 b1 o1 (iV n4) fun js =>
sT js b1 (o1 + 1) (iV n5) fun jG =>
sT jG b1 (o1 + 2) (iV n6) fun sw =>
sT sw b1 (o1 + 3) (.slice A7 k8 k9) fun ku =>
K (.tuple #[]) ku) Kp) :
 aa Tryz.prog 57 #[.pointer (some ⟨b0, o0, none⟩), .pointer (some ⟨b1, o1, none⟩)] M K Kp := vw [] Tryz.func57 h
theorem jj {x0 : Int} {x1 : Int} {Iq : Int} {Ir : Int} {Is : Int} {It : Int} {M : Mem} {K : Value → Mem → Prop} {Kp : List PanicEntry → Mem → Prop} (h :
bg M (cl [(iV Iq), (iV Ir), (iV Is), (iV It)] 23) fun k1 M2 =>
aa Tryz.prog 12 #[] M2 (fun v3 M4 =>
c6 (some v3) fun t5 =>
aQ (!t5)
 (K (.bool false) M4)
 (((30 : Int) ≠ 0) ∧
 ((5 : Int) ≠ 0) ∧
 bg M4 (cl [] 34) fun k6 M7 =>
 ∃ I8 : IT, (∃ k9, I8 k9 [(.slice (some ⟨k6, 0, none⟩) 0 0), (iV 0)] M7) ∧
 ∀ (eM : Nat) (_ : Nat → Value) (w8 : Option Addr) (dx : Nat) (iB : Nat) (jt : Int) (eF : Mem), (I8 eM [(.slice w8 dx iB), (iV jt)] eF) → aQ (decide ((jt : Int) < (IntKind.wrap .i64 (1 + (Int.tmod (IntKind.wrap .i64 (((Nat.bitwise and (BitVec.ofInt IntKind.i64.bits x0).toNat (BitVec.ofInt IntKind.i64.bits 255).toNat) : Nat) : Int)) 30)))))
 (bg eF (cl [(iV 11), (iV 1), (iV 0), (iV 1)] 34) fun eG pZ =>
 aA 31 w8 dx iB (some ⟨eG, 0, none⟩) 1 1 pZ (fun K8 rm =>
 aC (some K8) fun xA gO ji =>
 ∃ sS : Nat, (sS < eM) ∧
 I8 sS [(.slice xA gO ji), (iV (IntKind.wrap .i64 (jt + 1)))] rm) Kp)
 (bg eF (cl [(iV 12), (iV 0), (iV 0), (iV 0), (iV 7), (iV (IntKind.wrap .i64 (1 + (Int.tmod (IntKind.wrap .i64 (((Nat.bitwise and (BitVec.ofInt IntKind.i64.bits x0).toNat (BitVec.ofInt IntKind.i64.bits 255).toNat) : Nat) : Int)) 30)))), (iV 0), (iV 0)] 34) fun uR tZ =>
 aA 31 w8 dx iB (some ⟨uR, 0, none⟩) 2 2 tZ (fun Ij zZ =>
 aC (some Ij) fun GR lF pL =>
 bg zZ (cl [] 34) fun w9 Cd =>
 ∃ XS : IT, (∃ w6, XS w6 [(.slice (some ⟨w9, 0, none⟩) 0 0), (iV 0)] Cd) ∧
 ∀ (Ej : Nat) (_ : Nat → Value) (Se : Option Addr) (vK : Nat) (Ef : Nat) (Ng : Int) (FJ : Mem), (XS Ej [(.slice Se vK Ef), (iV Ng)] FJ) → aQ (decide ((Ng : Int) < (Int.tmod (IntKind.wrap .i64 (((Nat.bitwise and (BitVec.ofInt IntKind.i64.bits x1).toNat (BitVec.ofInt IntKind.i64.bits 255).toNat) : Nat) : Int)) 5)))
 (bg FJ (cl [(iV 12), (iV 0), (iV 0), (iV 0)] 34) fun w7 xG =>
 aA 31 Se vK Ef (some ⟨w7, 0, none⟩) 1 1 xG (fun RZ IF =>
 aC (some RZ) fun Vk QF K6 =>
 ∃ Kl : Nat, (Kl < Ej) ∧
 XS Kl [(.slice Vk QF K6), (iV (IntKind.wrap .i64 (Ng + 1)))] IF) Kp)
 (bg FJ (cl [(iV 20), (iV 0), (iV 0), (iV 0), (iV 10), (iV 0), (iV 0), (iV 0)] 34) fun GV OC =>
 aA 31 Se vK Ef (some ⟨GV, 0, none⟩) 2 2 OC (fun v53 GO =>
 aC (some v53) fun R9 Nc xg =>
 jg GO k1 0 fun Ib FD KW Ie =>
 aa Tryz.prog 15 #[(.agg #[(iV Ib), (iV FD), (iV KW), (iV Ie)])] GO (fun OA zk =>
 ∃ n64 yo QC QH : Int, (OA = (.agg #[(iV n64), (iV yo), (iV QC), (iV QH)])) ∧
 bg zk Fz fun ud VK =>
 Fv VK ud (iV n64) (iV yo) (iV QC) (iV QH) fun Bh =>
 UU Bh ud (iV 1) (iV 1) fun uc =>
 ∃ TU : List Value → Mem → Prop, (rI uc ud 0 fun sU =>
 rI uc ud 1 fun uE =>
 rI uc ud 2 fun F2 =>
 rI uc ud 3 fun CP =>
 (bg uc (cl [(.slice GR lF pL), (.slice R9 Nc xg)] 31) fun uU VL =>
 aZ Tryz.prog (Go.Instr.makeSlice 35 (iV 4000) (iV 4000)) VL (fun XQ FN =>
 aC (some XQ) fun A85 FT Vr =>
 ((Mem.gh FN ⟨ud, 0, none⟩ 0 4) = some [(iV sU), (iV uE), (iV F2), (iV CP)]) ∧
 aa Tryz.prog 17 #[(.slice A85 FT Vr)] FN (fun XT Aa =>
 cj (some XT) fun VM =>
 ((Mem.gh Aa ⟨ud, 0, none⟩ 0 4) = some [(iV sU), (iV uE), (iV F2), (iV CP)]) ∧
 aa Tryz.prog 16 #[(.agg #[(.slice (some ⟨uU, 0, none⟩) 2 2), (.slice none 0 0), (iV 0), (.slice none 0 0)]), (.agg #[(iV sU), (iV uE), (iV F2), (iV CP)]), (.pointer VM)] Aa (fun v91 Nh =>
 cj (some v91) fun Vs =>
 ((Mem.gh Nh ⟨ud, 0, none⟩ 0 4) = some [(iV sU), (iV uE), (iV F2), (iV CP)]) ∧
 TU [(.pointer Vs)] Nh) Kp) Kp) Kp) ∧
 (aZ Tryz.prog (Go.Instr.makeSlice 35 (iV 4000) (iV 4000)) uc (fun v94 Lo =>
 aC (some v94) fun Zj Zk Ni =>
 ((Mem.gh Lo ⟨ud, 0, none⟩ 0 4) = some [(iV sU), (iV uE), (iV F2), (iV CP)]) ∧
 (bg Lo (cl [(.slice GR lF pL), (.slice R9 Nc xg)] 31) fun ON XU =>
 aa Tryz.prog 17 #[(.slice Zj Zk Ni)] XU (fun XV SE =>
 cj (some XV) fun XW =>
 ((Mem.gh SE ⟨ud, 0, none⟩ 0 4) = some [(iV sU), (iV uE), (iV F2), (iV CP)]) ∧
 aa Tryz.prog 16 #[(.agg #[(.slice (some ⟨ON, 0, none⟩) 2 2), (.slice none 0 0), (iV 0), (.slice none 0 0)]), (.agg #[(iV sU), (iV uE), (iV F2), (iV CP)]), (.pointer XW)] SE (fun XX CZ =>
 cj (some XX) fun XY =>
 ((Mem.gh CZ ⟨ud, 0, none⟩ 0 4) = some [(iV sU), (iV uE), (iV F2), (iV CP)]) ∧
 TU [(.pointer XY)] CZ) Kp) Kp) ∧
 (aa Tryz.prog 17 #[(.slice Zj Zk Ni)] Lo (fun XZ FY =>
 cj (some XZ) fun X0 =>
 ((Mem.gh FY ⟨ud, 0, none⟩ 0 4) = some [(iV sU), (iV uE), (iV F2), (iV CP)]) ∧
 bg FY (cl [(.slice GR lF pL), (.slice R9 Nc xg)] 31) fun C8 lK =>
 aa Tryz.prog 16 #[(.agg #[(.slice (some ⟨C8, 0, none⟩) 2 2), (.slice none 0 0), (iV 0), (.slice none 0 0)]), (.agg #[(iV sU), (iV uE), (iV F2), (iV CP)]), (.pointer X0)] lK (fun X1 SF =>
 cj (some X1) fun X3 =>
 ((Mem.gh SF ⟨ud, 0, none⟩ 0 4) = some [(iV sU), (iV uE), (iV F2), (iV CP)]) ∧
 TU [(.pointer X3)] SF) Kp) Kp) ∧
 True) Kp) ∧
 True) ∧
 ∀ TV : Nat → Value, ∀ Lp : Option Addr, ∀ xI : Mem, (TU [(.pointer Lp)] xI) → ∃ PF : IT, (∃ Jd, PF Jd [(iV 0)] xI) ∧
 ∀ (FZ : Nat) (_ : Nat → Value) (IK : Int) (Db : Mem), (PF FZ [(iV IK)] Db) → aQ (decide (IK < 4000))
 (aa Tryz.prog 18 #[(.pointer Lp)] Db (fun X4 X5 =>
 ∃ F0 uF tf : Int, ∃ SG : Option Addr, ∃ F1 SH : Nat, ∃ SI : Int, (X4 = (.tuple #[(.agg #[(iV F0), (iV uF), (iV tf), (.slice SG F1 SH)]), (iV SI)])) ∧
 bg X5 gk fun FQ C5 =>
 Fv C5 FQ (iV F0) (iV uF) (iV tf) (.slice SG F1 SH) fun FW =>
 aQ (SI != 0)
 (K (.bool false) FW)
 (∃ SJ : Nat, (SJ < FZ) ∧
 PF SJ [(iV (IntKind.wrap .i64 (IK + 1)))] FW)) Kp)
 (aa Tryz.prog 21 #[(.pointer Lp)] Db (fun X6 I0 =>
 cj (some X6) fun X7 =>
 aa Tryz.prog 22 #[(.pointer X7)] I0 (fun X8 SK =>
 aC (some X8) fun A145 X9 k147 =>
 aQ ((X9 : Int) == (IntKind.wrap .i64 (1 + (Int.tmod (IntKind.wrap .i64 (((Nat.bitwise and (BitVec.ofInt IntKind.i64.bits x0).toNat (BitVec.ofInt IntKind.i64.bits 255).toNat) : Nat) : Int)) 30))))
 (aa Tryz.prog 23 #[(.pointer Lp)] SK (fun Ya C6 =>
 aG (some Ya) .i64 fun C7 =>
 K (.bool (C7 == 0)) C6) Kp)
 (K (.bool false) SK)) Kp) Kp)) Kp) Kp)) Kp))) Kp) :
 aa Tryz.prog 5 #[.int .i64 x0, .int .i64 x1, .agg #[.int .i64 Iq, .int .i64 Ir, .int .i64 Is, .int .i64 It]] M K Kp := vw [(2000000, .loop [(7, .c .sl), (24, .c (.int .i64))]), (2000002, .loop [(8, .c .sl), (39, .c (.int .i64))]), (18, .Fj [0, 0, 3, 7, 0, 0, 32, 127, 255] (sy [0, 1] (.fK 4 (.fork 2 (sy [3, 5, 6, 7, 8] .done) (.fork 5 (.fork 2 (sy [3, 6, 7, 8] .done) (.fork 6 (sy [2, 3, 7, 8] .done) .dead)) .dead)))) [(10, .c .ptr)]), (2000004, .loop [(63, .c (.int .i64))])] Tryz.func5 h
end Go.Proofs
