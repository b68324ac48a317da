/- A part of proofs about one program. -/
import Derived.Test.YtnnlgknlialpmaaGreatProg
import Derived.Test.YtnnlgknlialpmaaGreatZFairBoundStC
import Derived.Test.YtnnlgknlialpmaaGreatZFairBoundMod
import Derived.Test.YtnnlgknlialpmaaGreatZFairBoundWin2
set_option linter.unusedVariables false
namespace Go.Proofs
open Go.AF
noncomputable def Cx : Ctx := ⟨Tryz.prog, 255⟩
theorem good : Cx.Good := by
 refine ⟨?_, by kernel_rfl⟩
 have h : (List.range 253).all (fun g => pb Tryz.prog (g + 2)) = true := by kernel_rfl
 intro g hg
 have h1 : g < 255 := hg.2
 have := List.all_eq_true.1 h (g - 2) (List.mem_range.2 (by omega))
 have e : g - 2 + 2 = g := by omega
 simp only [e] at this
 exact this
def sy : List Nat → Ex → Ex
 | [], e => e
 | i :: l, e => .step i (sy l e)
abbrev aA (t : Nat) (A : Option Addr) (n c : Nat) (B : Option Addr) (m d : Nat) (M : Mem) (K : Value → Mem → Prop) (Kp : List PanicEntry → Mem → Prop) : Prop := aY Tryz.prog (Go.Builtin.append_ #[t, t] t #[.slice A n c, .slice B m d]) M K Kp
theorem vw {f : FuncId} {fn : Func} {args : List Value} {M : Mem} {K : Value → Mem → Prop} {Kp : List PanicEntry → Mem → Prop} (H : List (Nat × Hint)) (hf : Cx.P.funcs[f]? = some fn) {vc : Prop} (h : vc) (h1 : xS fn args.length = true := by kernel_rfl)
  (h2 : vc = dI Cx H Kp (eK fn) 0 (JW Cx.P fn K) (fV args) M := by kernel_rfl) : aa Cx.P f args.toArray M K Kp := cq (C := Cx) good H hf h1 h2 h
end Go.Proofs
namespace Go.Proofs
open Go.AF
set_option maxRecDepth 100000
variable {M : Mem} {K : Value → Mem → Prop} {Kp : List PanicEntry → Mem → Prop}
theorem CX {x0 : Int} (h :
bh M (cl [(iV (if (16 : Int) < (if (0 : Int) > x0 then 0 else x0) then 16 else (if (0 : Int) > x0 then 0 else x0))), (.slice none 0 0), (.slice none 0 0), (.slice none 0 0), (.bool false)] 305) fun k1 M2 =>
K (.pointer (some ⟨k1, 0, none⟩)) M2) :
 aa Tryz.prog 113 #[.int .i64 x0] M K Kp := vw [] Tryz.func113 h
theorem nG {b0 o0 : Nat} {cK : Int} {cL : Int} {cN : Int} (h :
bh M (cl [(iV cK), (iV cL), (iV cN)] 280) fun k1 M2 =>
rS M2 b0 (o0 + 3) fun A3 k4 k5 =>
l9 M2 k1 0 fun n6 n7 n8 =>
bh M2 (cl [(iV n6), (iV n7), (iV n8)] 280) fun k9 iZ =>
aA 195 A3 k4 k5 (some ⟨k9, 0, none⟩) 1 1 iZ (fun v11 sj =>
aB (some v11) fun DN jJ iC =>
sT sj b0 (o0 + 3) (.slice DN jJ iC) fun fz =>
K (.tuple #[]) fz) Kp) :
 aa Tryz.prog 235 #[.pointer (some ⟨b0, o0, none⟩), .agg #[.int .i64 cK, .int .i64 cL, .int .i64 cN]] M K Kp := vw [(1, .bR [0, 0, 2, 6, 14, 0, 32, 126, 255, 511, 1023] (sy [0, 1, 2, 3, 4, 5, 6, 7, 8, 9, 10] .done))] Tryz.func235 h
theorem nH {b0 o0 : Nat} {cK : Int} {cL : Int} {cN : Int} (h :
bh M (cl [(iV cK), (iV cL), (iV cN)] 280) fun k1 M2 =>
rS M2 b0 (o0 + 2) fun A3 k4 k5 =>
l9 M2 k1 0 fun n6 n7 n8 =>
bh M2 (cl [(iV n6), (iV n7), (iV n8)] 280) fun k9 iZ =>
aA 195 A3 k4 k5 (some ⟨k9, 0, none⟩) 1 1 iZ (fun v11 sj =>
aB (some v11) fun DN jJ iC =>
sT sj b0 (o0 + 2) (.slice DN jJ iC) fun fz =>
K (.tuple #[]) fz) Kp) :
 aa Tryz.prog 236 #[.pointer (some ⟨b0, o0, none⟩), .agg #[.int .i64 cK, .int .i64 cL, .int .i64 cN]] M K Kp := vw [(1, .bR [0, 0, 2, 6, 14, 0, 32, 126, 255, 511, 1023] (sy [0, 1, 2, 3, 4, 5, 6, 7, 8, 9, 10] .done))] Tryz.func236 h
theorem sK {b0 o0 : Nat} {x1 : Int} (h :
bh M kB fun k1 M2 =>
rB M2 b0 (o0 + 4) fun t3 =>
aO t3
 (sT M2 k1 0 (iV 0) fun M4 =>
 sT M4 k1 1 (iV 0) fun M5 =>
 sT M5 k1 2 (iV 0) fun M6 =>
 l9 M6 k1 0 fun n7 n8 n9 =>
 K (.tuple #[(.agg #[(iV n7), (iV n8), (iV n9)]), (.bool false), (iV 10)]) M6)
 (rS M2 b0 (o0 + 3) fun AO eO gH =>
 aO (decide ((eO : Int) > 0))
 (bh M2 kB fun eN lK =>
 rS lK b0 (o0 + 3) fun wW fL fB =>
 aa Tryz.prog 250 #[(.slice wW fL fB)] lK (fun Ez jD =>
 ∃ gk sL wX : Int, ∃ A23 : Option Addr, ∃ sM sN : Nat, (Ez = (.tuple #[(.agg #[(iV gk), (iV sL), (iV wX)]), (.slice A23 sM sN)])) ∧
 Iu jD eN (iV gk) (iV sL) (iV wX) fun uq =>
 sT uq b0 (o0 + 3) (.slice A23 sM sN) fun mK =>
 sT mK eN 2 (iV x1) fun ur =>
 l9 ur eN 0 fun sk n32 sO =>
 Iu ur k1 (iV sk) (iV n32) (iV sO) fun Aq =>
 l9 Aq k1 0 fun MQ Ka Kb =>
 K (.tuple #[(.agg #[(iV MQ), (iV Ka), (iV Kb)]), (.bool true), (iV 0)]) Aq) Kp)
 (rS M2 b0 (o0 + 1) fun A40 MR Qq =>
 rI M2 b0 o0 fun xY =>
 aO (decide ((MR : Int) < xY))
 (rS M2 b0 (o0 + 1) fun A44 Kc MS =>
 bh M2 (cl [(iV x1)] 2) fun TT MT =>
 aA 53 A44 Kc MS (some ⟨TT, 0, none⟩) 1 1 MT (fun Kd xZ =>
 aB (some Kd) fun Qr qG sP =>
 sT xZ b0 (o0 + 1) (.slice Qr qG sP) fun Qs =>
 Iu Qs k1 (iV 0) (iV 0) (iV 0) fun MU =>
 l9 MU k1 0 fun FP tO MW =>
 K (.tuple #[(.agg #[(iV FP), (iV tO), (iV MW)]), (.bool false), (iV 0)]) MU) Kp)
 (sT M2 k1 0 (iV 0) fun Au =>
 sT Au k1 1 (iV 0) fun vo =>
 sT vo k1 2 (iV 0) fun CY =>
 l9 CY k1 0 fun n64 AP X5 =>
 K (.tuple #[(.agg #[(iV n64), (iV AP), (iV X5)]), (.bool false), (iV 6)]) CY)))) :
 aa Tryz.prog 237 #[.pointer (some ⟨b0, o0, none⟩), .int .i64 x1] M K Kp := vw [(8, .bR [0, 1, 3, 7, 15, 0, 32, 96, 224, 511, 1023] (sy [0, 1, 2, 5, 6, 7, 3, 4, 8, 9, 10] .done))] Tryz.func237 h
theorem sQ {b0 o0 : Nat} (h :
bh M nE fun k1 M2 =>
bh M2 nE fun k3 M4 =>
rS M4 b0 (o0 + 2) fun A5 k6 k7 =>
∃ J8 : List Value → Mem → Prop, (aO (decide ((k6 : Int) > 0))
 (rS M4 b0 (o0 + 2) fun A9 gn eO =>
 aa Tryz.prog 250 #[(.slice A9 gn eO)] M4 (fun It mL =>
 ∃ mb lq nm : Int, ∃ PE : Option Addr, ∃ en jK : Nat, (It = (.tuple #[(.agg #[(iV mb), (iV lq), (iV nm)]), (.slice PE en jK)])) ∧
 sT mL k3 2 (iV mb) fun vP =>
 sT vP k3 (2 + 1) (iV lq) fun oB =>
 sT oB k3 (2 + 2) (iV nm) fun dP =>
 sT dP b0 (o0 + 2) (.slice PE en jK) fun me =>
 sT me k3 5 (.bool true) fun j8 =>
 rS j8 b0 (o0 + 1) fun X6 tP Av =>
 rI j8 k3 (2 + 2) fun wY =>
 bh j8 (cl [(iV wY)] 2) fun iy ur =>
 aA 53 X6 tP Av (some ⟨iy, 0, none⟩) 1 1 ur (fun TU so =>
 aB (some TU) fun Gx oW Aw =>
 sT so b0 (o0 + 1) (.slice Gx oW Aw) fun Aq =>
 J8 [] Aq) Kp) Kp)
 (J8 [] M4)) ∧
∀ junk37 : Nat → Value, ∀ mh : Mem, (J8 [] mh) → rS mh b0 (o0 + 1) fun A39 FQ MR =>
aO (decide ((FQ : Int) > 0))
 (rS mh b0 (o0 + 1) fun Qt yQ LB =>
 ((0 : Int) ≤ 0) ∧
 ((0 : Int) < yQ) ∧
 aF Qt fun Kc MS =>
 rI mh Kc (MS + 0) fun sq =>
 sT2 mh k3 (iV sq) (.bool true) fun vQ =>
 bh vQ (cl [] 2) fun MX X7 =>
 rS X7 b0 (o0 + 1) fun A52 sP Ke =>
 ((0 : Int) ≤ Ke) ∧
 ((Ke : Int) ≤ Ke) ∧
 ((0 : Int) ≤ sP) ∧
 ((sP : Int) ≤ Ke) ∧
 ((0 : Int) ≤ 1) ∧
 ((1 : Int) ≤ sP) ∧
 aY Tryz.prog (Go.Builtin.append_ #[53, 53] 53 #[(.slice (some ⟨MX, 0, none⟩) 0 0), (.slice (lF A52 1 (Int.toNat (Ke : Int)) 1) ((Int.toNat (sP : Int)) - 1) ((Int.toNat (Ke : Int)) - 1))]) X7 (fun X8 X9 =>
 aB (some X8) fun W4 DO Sz =>
 sT X9 b0 (o0 + 1) (.slice W4 DO Sz) fun pI =>
 xU pI k3 0 fun Kf t62 Gy n64 AP t66 =>
 sT6 pI k1 (iV Kf) (.bool t62) (iV Gy) (iV n64) (iV AP) (.bool t66) fun SB =>
 xU SB k1 0 fun Ya t74 EA MY EB t78 =>
 K (.tuple #[(.agg #[(iV Ya), (.bool t74), (iV EA), (iV MY), (iV EB), (.bool t78)]), (iV 0)]) SB) Kp)
 (rB mh b0 (o0 + 4) fun t79 =>
 aO t79
 (rI mh k3 0 fun W5 =>
 rB mh k3 1 fun t81 =>
 rI mh k3 2 fun Gz =>
 rI mh k3 3 fun SC =>
 rI mh k3 4 fun LC =>
 rB mh k3 5 fun t85 =>
 sT6 mh k1 (iV W5) (.bool t81) (iV Gz) (iV SC) (iV LC) (.bool t85) fun lu =>
 xU lu k1 0 fun TV t93 MZ GB FR t97 =>
 K (.tuple #[(.agg #[(iV TV), (.bool t93), (iV MZ), (iV GB), (iV FR), (.bool t97)]), (iV 0)]) lu)
 (rI mh k3 0 fun SD =>
 rB mh k3 1 fun t99 =>
 rI mh k3 2 fun qS =>
 rI mh k3 3 fun Na =>
 rI mh k3 4 fun Nb =>
 rB mh k3 5 fun t103 =>
 sT6 mh k1 (iV SD) (.bool t99) (iV qS) (iV Na) (iV Nb) (.bool t103) fun uu =>
 xU uu k1 0 fun Nc t111 yR Nd Nf t115 =>
 K (.tuple #[(.agg #[(iV Nc), (.bool t111), (iV yR), (iV Nd), (iV Nf), (.bool t115)]), (iV 5)]) uu))) :
 aa Tryz.prog 239 #[.pointer (some ⟨b0, o0, none⟩)] M K Kp := vw [(3000010, .cut []), (5, .bR [0, 0, 2, 6, 14, 0, 32, 96, 224, 510, 1023, 2047, 4095] (sy [0, 1, 2, 3, 5, 6, 4, 7, 8, 9, 10, 11, 12] .done))] Tryz.func239 h
theorem qT {b0 o0 : Nat} (h :
rB M b0 (o0 + 4) fun t1 =>
aO t1
 (K (.tuple #[(.slice none 0 0), (.slice none 0 0), (iV 10)]) M)
 (rS M b0 (o0 + 3) fun A2 k3 k4 =>
 rS M b0 (o0 + 2) fun A5 k6 k7 =>
 sT M b0 (o0 + 4) (.bool true) fun M8 =>
 sT M8 b0 (o0 + 3) (.slice none 0 0) fun M9 =>
 sT M9 b0 (o0 + 2) (.slice none 0 0) fun iZ =>
 K (.tuple #[(.slice A2 k3 k4), (.slice A5 k6 k7), (iV 0)]) iZ)) :
 aa Tryz.prog 243 #[.pointer (some ⟨b0, o0, none⟩)] M K Kp := vw [(3, .bR [0, 1, 3, 7, 0, 16, 48, 112, 15, 511] (sy [0, 1, 2, 4, 5, 6, 3, 8, 7, 9] .done))] Tryz.func243 h
theorem oC {b0 o0 : Nat} (h :
rB M b0 (o0 + 4) fun t1 =>
aO t1
 (K (.bool true) M)
 (rS M b0 (o0 + 2) fun A2 k3 k4 =>
 aO (decide ((k3 : Int) > 0))
 (K (.bool true) M)
 (rS M b0 (o0 + 1) fun A5 k6 k7 =>
 K (.bool (decide ((k6 : Int) > 0))) M))) :
 aa Tryz.prog 248 #[.pointer (some ⟨b0, o0, none⟩)] M K Kp := vw [] Tryz.func248 h
theorem oD {b0 o0 : Nat} (h :
rB M b0 (o0 + 4) fun t1 =>
aO t1
 (K (.bool true) M)
 (rS M b0 (o0 + 3) fun A2 k3 k4 =>
 aO (decide ((k3 : Int) > 0))
 (K (.bool true) M)
 (rS M b0 (o0 + 1) fun A5 k6 k7 =>
 rI M b0 o0 fun n8 =>
 K (.bool (decide ((k6 : Int) < n8))) M))) :
 aa Tryz.prog 249 #[.pointer (some ⟨b0, o0, none⟩)] M K Kp := vw [(1, .bR [0, 1, 3, 7, 15, 31, 63, 127, 255, 511, 1023, 2047, 4095, 8191, 16383, 32767, 65535, 131071, 8191, 270335, 794623, 1843199, 4194303, 8388607, 16777215] (sy [0, 1, 2, 3, 4, 5, 6, 7, 8, 9, 10, 11, 12, 13, 14, 15, 18, 19, 20, 16, 17, 21, 22, 23, 24] .done))] Tryz.func249 h
theorem yS {B0 : Option Addr} {m0 c0 : Nat} (h :
bh M kB fun k1 M2 =>
((0 : Int) ≤ 0) ∧
((0 : Int) < m0) ∧
aF B0 fun k3 k4 =>
((0 : Int) ≤ c0) ∧
((c0 : Int) ≤ c0) ∧
((0 : Int) ≤ m0) ∧
((m0 : Int) ≤ c0) ∧
((0 : Int) ≤ 1) ∧
((1 : Int) ≤ m0) ∧
l9 M2 k3 (k4 + 0) fun n5 n6 n7 =>
bh M2 (cl [] 280) fun k8 M9 =>
aY Tryz.prog (Go.Builtin.append_ #[195, 195] 195 #[(.slice (some ⟨k8, 0, none⟩) 0 0), (.slice (lF B0 1 (Int.toNat (c0 : Int)) 3) ((Int.toNat (m0 : Int)) - 1) ((Int.toNat (c0 : Int)) - 1))]) M9 (fun v10 jL =>
aB (some v10) fun Ax eN jJ =>
((Mem.g9 jL ⟨k3, (k4 + 0), none⟩ 0 3) = some [(iV n5), (iV n6), (iV n7)]) ∧
Iu jL k1 (iV n5) (iV n6) (iV n7) fun oE =>
((Mem.g9 oE ⟨k3, (k4 + 0), none⟩ 0 3) = some [(iV n5), (iV n6), (iV n7)]) ∧
l9 oE k1 0 fun lA yT gk =>
K (.tuple #[(.agg #[(iV lA), (iV yT), (iV gk)]), (.slice Ax eN jJ)]) oE) Kp) :
 aa Tryz.prog 250 #[.slice B0 m0 c0] M K Kp := vw [(1, .bR [0, 1, 3, 0, 0, 16, 56, 127, 255] (sy [0, 1, 4, 5] (.dw 2 (sy [3, 6, 7, 8] .done))))] Tryz.func250 h
theorem sR {b0 o0 : Nat} {x1 : Int} (h :
rS M b0 (o0 + 2) fun A1 k2 k3 =>
(aa Tryz.prog 254 #[(.slice A1 k2 k3), (iV x1)] M (fun v4 M5 =>
 aB (some v4) fun A6 k7 k8 =>
 rS M5 b0 (o0 + 3) fun A9 gn eO =>
 aa Tryz.prog 254 #[(.slice A9 gn eO), (iV x1)] M5 (fun It mL =>
 aB (some It) fun oX iC fL =>
 sT mL b0 (o0 + 2) (.slice A6 k7 k8) fun oE =>
 sT oE b0 (o0 + 3) (.slice oX iC fL) fun sS =>
 K (.tuple #[]) sS) Kp) Kp) ∧
(rS M b0 (o0 + 3) fun DP lz fM =>
 aa Tryz.prog 254 #[(.slice A1 k2 k3), (iV x1)] M (fun Kg me =>
 aB (some Kg) fun PF sN tP =>
 aa Tryz.prog 254 #[(.slice DP lz fM), (iV x1)] me (fun Qu uq =>
 aB (some Qu) fun SE mj nI =>
 sT uq b0 (o0 + 2) (.slice PF sN tP) fun so =>
 sT so b0 (o0 + 3) (.slice SE mj nI) fun Ay =>
 K (.tuple #[]) Ay) Kp) Kp) ∧
True) :
 aa Tryz.prog 253 #[.pointer (some ⟨b0, o0, none⟩), .int .i64 x1] M K Kp := vw [(0, .bR [0, 0, 0, 4, 12, 28, 0, 124, 0, 256, 768, 1792, 0, 8188, 16381, 32765, 65533, 131071, 262143, 524287] (sy [0, 1, 2, 3, 4, 6, 8, 9, 10, 12, 5] (.fork 7 (sy [11, 13, 14, 15, 16, 17, 18, 19] .done) (.fork 11 (sy [7, 13, 14, 15, 16, 17, 18, 19] .done) .dead))))] Tryz.func253 h
theorem vR {B0 : Option Addr} {m0 c0 : Nat} {x1 : Int} (h :
∃ I1 : IT, (∃ k2, I1 k2 [(.slice none 0 0), (iV 0)] M) ∧
∀ (k3 : Nat) (_ : Nat → Value) (A5 : Option Addr) (k6 : Nat) (k7 : Nat) (n8 : Int) (M9 : Mem), (I1 k3 [(.slice A5 k6 k7), (iV n8)] M9) → aO (decide (n8 < m0))
 ((0 ≤ n8) ∧
 (n8 < m0) ∧
 aF B0 fun gn eO =>
 l9 M9 gn (eO + ((Int.toNat n8) * 3)) fun jM iM mb =>
 bh M9 kB fun iC fz =>
 Iu fz iC (iV jM) (iV iM) (iV mb) fun jD =>
 rI jD iC 0 fun gk =>
 aO (gk != x1)
 (rI jD iC 0 fun sL =>
 rI jD iC 1 fun wX =>
 rI jD iC 2 fun oY =>
 bh jD (cl [(iV sL), (iV wX), (iV oY)] 280) fun sM FT =>
 aA 195 A5 k6 k7 (some ⟨sM, 0, none⟩) 1 1 FT (fun TW wZ =>
 aB (some TW) fun Qv iy mj =>
 ∃ nI : Nat, (nI < k3) ∧
 I1 nI [(.slice Qv iy mj), (iV (IntKind.wrap .i64 (n8 + 1)))] wZ) Kp)
 (∃ uv : Nat, (uv < k3) ∧
 I1 uv [(.slice A5 k6 k7), (iV (IntKind.wrap .i64 (n8 + 1)))] jD))
 (K (.slice A5 k6 k7) M9)) :
 aa Tryz.prog 254 #[.slice B0 m0 c0, .int .i64 x1] M K Kp := vw [(2000000, .loop [(5, .c .sl), (10, .c (.int .i64))])] Tryz.func254 h
end Go.Proofs
namespace Go.Proofs
open Go.AF
set_option maxRecDepth 100000
set_option maxHeartbeats 1000000
attribute [local irreducible] aJ de fA cw aB dZ aF aK bh aY bA aO
theorem CZ : bn Tryz.prog 53 2 1 8 [.int .i64 0] := bn.mk' (zv := .int .i64 0) (by kernel_rfl) (by kernel_rfl) rfl (by omega)
theorem ya : bn Tryz.prog 195 280 3 24 [.int .i64 0, .int .i64 0, .int .i64 0] := bn.mk' (zv := .agg #[.int .i64 0, .int .i64 0, .int .i64 0]) (by kernel_rfl) (by kernel_rfl) rfl (by omega)
abbrev yU (A : Option Addr) (c : Nat) (l : List Int) : HP := bO bB 2 A c l
abbrev uw (A : Option Addr) (c : Nat) (l : List Wt) : HP := bO jb 280 A c l
abbrev iz (c : aT) (Ab : Option Addr) (cb : Nat) (As : Option Addr) (cs : Nat) (Ar : Option Addr) (cr : Nat) : List Value :=
 [.int .i64 (c.room : Int), .slice Ab c.buf.length cb, .slice As c.snd.length cs, .slice Ar c.eC.length cr, .bool c.closed]
def bE : sH aT := ⟨fun b c => exs fun Ab : Option Addr => exs fun cb : Nat => exs fun As : Option Addr => exs fun cs : Nat => exs fun Ar : Option Addr => exs fun cr : Nat =>
 sep [pt b (iz c Ab cb As cs Ar cr) 305, yU Ab cb c.buf, uw As cs c.snd, uw Ar cr c.eC]⟩
section
variable {R : Mem} {L L' : List HP} {M : Mem} {K : Value → Mem → Prop} {Kp : List PanicEntry → Mem → Prop} {b : Nat} {c : aT}
theorem iA (h : Hp R L M) [o : bY bE b L c L'] : ∃ Ab cb As cs Ar cr, Hp R (pt b (iz c Ab cb As cs Ar cr) 305 :: yU Ab cb c.buf :: uw As cs c.snd :: uw Ar cr c.eC :: L') M := by
 have := h.obj bE b
 simpa only [bE, Hp.di, Hp.aX, List.cons_append, List.nil_append] using this
theorem Iz {Ab As Ar : Option Addr} {cb cs cr : Nat} (h : Hp R (pt b (iz c Ab cb As cs Ar cr) 305 :: yU Ab cb c.buf :: uw As cs c.snd :: uw Ar cr c.eC :: L) M) : Hp R (az bE b c :: L) M := by
 refine Hp.vL ?_
 simp only [bE, Hp.di, Hp.aX, List.cons_append, List.nil_append]
 exact ⟨_, _, _, _, _, _, h⟩
theorem dc {Ab As Ar : Option Addr} {nb cb ns cs nr cr room : Nat} {closed : Bool} {buf : List Int} {snd eC : List Wt} {L1 L2 L3 L4 : List HP} (h : Hp R L M) (b : Nat)
  [p : kU b L [.int .i64 (room : Int), .slice Ab nb cb, .slice As ns cs, .slice Ar nr cr, .bool closed] 305 L1] [p1 : cG Ab L1 Int bB 2 cb buf L2] [p2 : cG As L2 Wt jb 280 cs snd L3] [p3 : cG Ar L3 Wt jb 280 cr eC L4]
  (e1 : nb = buf.length := by first | rfl | simp) (e2 : ns = snd.length := by first | rfl | simp) (e3 : nr = eC.length := by first | rfl | simp) : Hp R (az bE b ⟨room, buf, snd, eC, closed⟩ :: L4) M := by
 subst e1; subst e2; subst e3
 exact Iz (h.sub (.cons p.pick (.cons p1.pick (.cons p2.pick (.cons p3.pick .refl)))))
theorem BX {room : Int} (h : Hp R L M) (k : ∀ b M', Hp R (az bE b (.new room) :: L) M' → K (.pointer (some ⟨b, 0, none⟩)) M') :
  aa Tryz.prog 113 #[.int .i64 room] M K Kp := by
 refine CX ?_
 rw [MF]
 refine aq h fun b M' h => k b M' (Iz ((((h.cz jb _).cz jb _).cz bB _).sub bD))
theorem w4 {B : Option Addr} {m c : Nat} {w : Wt} {r : List Wt} (h : Hp R L M) (hB : Src R L B (jb.cells (w :: r))) (hm : m = r.length + 1) (hc : m ≤ c) (hn : m ≤ 1000000000)
  (k : ∀ A' c' M', Hp R (uw A' c' r :: L) M' → K (.tuple #[.agg #[.int .i64 w.g, .int .i64 w.cs, .int .i64 w.v], .slice A' r.length c']) M') :
  aa Tryz.prog 250 #[.slice B m c] M K Kp := by
 refine yS ?_
 obtain ⟨b, o, rfl⟩ := hB.lI h (by simp) (by decide)
 repeat (first|(refine aq h ?_;clear h;intro kb M h)|(refine au h ?_;clear h;intro M h)|refine St.to h ?_|(apply Exists.intro;(repeat apply Exists.intro);refine And.intro rfl ?_)|refine av ?_|refine ae ?_|refine ai ?_)
 refine aZ (hB.cons.at h (i := 0) (j := 0) rfl rfl (by omega)) ?_
 refine aZ (hB.cons.at h (i := 0) (j := 1) rfl rfl (by omega)) ?_
 refine aZ (hB.cons.at h (i := 0) (j := 2) rfl rfl (by omega)) ?_
 repeat (first|(refine aq h ?_;clear h;intro kb M h)|(refine au h ?_;clear h;intro M h)|refine St.to h ?_|(apply Exists.intro;(repeat apply Exists.intro);refine And.intro rfl ?_)|refine av ?_|refine ae ?_|refine ai ?_)
 have s2 := hB.drop (m := 1) (c := c) (by simp; omega)
 simp only [Int.toNat_natCast]
 refine h.j7 jb ya r s2.cons.cons (by omega) (by omega) ?_
 clear h
 intro A' c' M h
 repeat (first|(refine aq h ?_;clear h;intro kb M h)|(refine au h ?_;clear h;intro M h)|refine St.to h ?_|(apply Exists.intro;(repeat apply Exists.intro);refine And.intro rfl ?_)|refine av ?_|refine ae ?_|refine ai ?_)
 refine ⟨hB.cons.cons.g9 h (i := 0) rfl (by omega), ?_⟩
 repeat (first|(refine aq h ?_;clear h;intro kb M h)|(refine au h ?_;clear h;intro M h)|refine St.to h ?_|(apply Exists.intro;(repeat apply Exists.intro);refine And.intro rfl ?_)|refine av ?_|refine ae ?_|refine ai ?_)
 refine ⟨hB.cons.cons.g9 h (i := 0) rfl (by omega), ?_⟩
 repeat (first|(refine aq h ?_;clear h;intro kb M h)|(refine au h ?_;clear h;intro M h)|refine St.to h ?_|(apply Exists.intro;(repeat apply Exists.intro);refine And.intro rfl ?_)|refine av ?_|refine ae ?_|refine ai ?_)
 exact k _ _ _ h.pE
theorem AQ (h : Hp R L M) [o : bY bE b L c L'] (k : K (.bool c.ug) M) : aa Tryz.prog 249 #[.pointer (some ⟨b, 0, none⟩)] M K Kp := by
 refine oD ?_
 have h' := iA h (b := b)
 clear h
 obtain ⟨Ab, cb, As, cs, Ar, cr, h⟩ := h'
 repeat (first|(refine aq h ?_;clear h;intro kb M h)|(refine au h ?_;clear h;intro M h)|refine St.to h ?_|(apply Exists.intro;(repeat apply Exists.intro);refine And.intro rfl ?_)|refine av ?_|refine ae ?_|refine ai ?_)
 refine gG.2 ⟨fun hc => ?_, fun hc => ?_⟩
 ·rwa [aT.ug, hc] at k
 ·repeat (first|(refine aq h ?_;clear h;intro kb M h)|(refine au h ?_;clear h;intro M h)|refine St.to h ?_|(apply Exists.intro;(repeat apply Exists.intro);refine And.intro rfl ?_)|refine av ?_|refine ae ?_|refine ai ?_)
  refine aM.2 ⟨fun hr => ?_, fun hr => ?_⟩
  ·have : c.eC.isEmpty = false := by cases hc : c.eC <;> simp_all
   rwa [aT.ug, hc, this] at k
  ·repeat (first|(refine aq h ?_;clear h;intro kb M h)|(refine au h ?_;clear h;intro M h)|refine St.to h ?_|(apply Exists.intro;(repeat apply Exists.intro);refine And.intro rfl ?_)|refine av ?_|refine ae ?_|refine ai ?_)
   have : c.eC.isEmpty = true := by cases hc : c.eC <;> simp_all
   rw [aT.ug, hc, this] at k
   simpa using k
theorem AR (h : Hp R L M) [o : bY bE b L c L'] (k : K (.bool c.uh) M) : aa Tryz.prog 248 #[.pointer (some ⟨b, 0, none⟩)] M K Kp := by
 refine oC ?_
 have h' := iA h (b := b)
 clear h
 obtain ⟨Ab, cb, As, cs, Ar, cr, h⟩ := h'
 repeat (first|(refine aq h ?_;clear h;intro kb M h)|(refine au h ?_;clear h;intro M h)|refine St.to h ?_|(apply Exists.intro;(repeat apply Exists.intro);refine And.intro rfl ?_)|refine av ?_|refine ae ?_|refine ai ?_)
 refine gG.2 ⟨fun hc => ?_, fun hc => ?_⟩
 ·rwa [aT.uh, hc] at k
 ·repeat (first|(refine aq h ?_;clear h;intro kb M h)|(refine au h ?_;clear h;intro M h)|refine St.to h ?_|(apply Exists.intro;(repeat apply Exists.intro);refine And.intro rfl ?_)|refine av ?_|refine ae ?_|refine ai ?_)
  refine aM.2 ⟨fun hr => ?_, fun hr => ?_⟩
  ·have : c.snd.isEmpty = false := by cases hc : c.snd <;> simp_all
   rwa [aT.uh, hc, this] at k
  ·repeat (first|(refine aq h ?_;clear h;intro kb M h)|(refine au h ?_;clear h;intro M h)|refine St.to h ?_|(apply Exists.intro;(repeat apply Exists.intro);refine And.intro rfl ?_)|refine av ?_|refine ae ?_|refine ai ?_)
   have : c.snd.isEmpty = true := by cases hc : c.snd <;> simp_all
   rw [aT.uh, hc, this] at k
   have e : (!c.buf.isEmpty) = decide ((c.buf.length : Int) > 0) := by cases c.buf <;> simp
   rw [← e]; simpa using k
theorem pJ {w : Wt} (h : Hp R L M) [o : bY bE b L c L'] (hs : c.Small 1000000000) (k : ∀ M', Hp R (az bE b { c with snd := c.snd ++ [w] } :: L') M' → K (.tuple #[]) M') :
  aa Tryz.prog 236 #[.pointer (some ⟨b, 0, none⟩), .agg #[.int .i64 w.g, .int .i64 w.cs, .int .i64 w.v]] M K Kp := by
 refine nH ?_
 have h' := iA h (b := b)
 clear h
 obtain ⟨Ab, cb, As, cs, Ar, cr, h⟩ := h'
 obtain ⟨h1, h2, h3⟩ := hs
 repeat (first|(refine aq h ?_;clear h;intro kb M h)|(refine au h ?_;clear h;intro M h)|refine St.to h ?_|(apply Exists.intro;(repeat apply Exists.intro);refine And.intro rfl ?_)|refine av ?_|refine ae ?_|refine ai ?_)
 refine h.bJ ya [w] rfl rfl (by simp; omega) ?_
 clear h
 intro A' c' M h
 repeat (first|(refine aq h ?_;clear h;intro kb M h)|(refine au h ?_;clear h;intro M h)|refine St.to h ?_|(apply Exists.intro;(repeat apply Exists.intro);refine And.intro rfl ?_)|refine av ?_|refine ae ?_|refine ai ?_)
 exact k _ (dc h b).bV
theorem pK {w : Wt} (h : Hp R L M) [o : bY bE b L c L'] (hs : c.Small 1000000000) (k : ∀ M', Hp R (az bE b { c with eC := c.eC ++ [w] } :: L') M' → K (.tuple #[]) M') :
  aa Tryz.prog 235 #[.pointer (some ⟨b, 0, none⟩), .agg #[.int .i64 w.g, .int .i64 w.cs, .int .i64 w.v]] M K Kp := by
 refine nG ?_
 have h' := iA h (b := b)
 clear h
 obtain ⟨Ab, cb, As, cs, Ar, cr, h⟩ := h'
 obtain ⟨h1, h2, h3⟩ := hs
 repeat (first|(refine aq h ?_;clear h;intro kb M h)|(refine au h ?_;clear h;intro M h)|refine St.to h ?_|(apply Exists.intro;(repeat apply Exists.intro);refine And.intro rfl ?_)|refine av ?_|refine ae ?_|refine ai ?_)
 refine h.bJ ya [w] rfl rfl (by simp; omega) ?_
 clear h
 intro A' c' M h
 repeat (first|(refine aq h ?_;clear h;intro kb M h)|(refine au h ?_;clear h;intro M h)|refine St.to h ?_|(apply Exists.intro;(repeat apply Exists.intro);refine And.intro rfl ?_)|refine av ?_|refine ae ?_|refine ai ?_)
 exact k _ (dc h b).bV
def SF (x : Wt × Bool × Int) : Value := .tuple #[.agg #[.int .i64 x.1.g, .int .i64 x.1.cs, .int .i64 x.1.v], .bool x.2.1, .int .i64 x.2.2]
theorem GC {v : Int} (h : Hp R L M) [o : bY bE b L c L'] (hs : c.Small 1000000000) (k : ∀ M', Hp R (az bE b (c.send v).1 :: L') M' → K (SF (c.send v).2) M') :
  aa Tryz.prog 237 #[.pointer (some ⟨b, 0, none⟩), .int .i64 v] M K Kp := by
 refine sK ?_
 obtain ⟨room, buf, snd, eC, closed⟩ := c
 obtain ⟨h1, h2, h3⟩ := hs
 have h' := iA h (b := b)
 clear h
 obtain ⟨Ab, cb, As, cs, Ar, cr, h⟩ := h'
 dsimp only [iz] at h1 h2 h3 h
 repeat (first|(refine aq h ?_;clear h;intro kb M h)|(refine au h ?_;clear h;intro M h)|refine St.to h ?_|(apply Exists.intro;(repeat apply Exists.intro);refine And.intro rfl ?_)|refine av ?_|refine ae ?_|refine ai ?_)
 refine gG.2 ⟨fun hc => ?_, fun hc => ?_⟩
 ·subst hc
  repeat (first|(refine aq h ?_;clear h;intro kb M h)|(refine au h ?_;clear h;intro M h)|refine St.to h ?_|(apply Exists.intro;(repeat apply Exists.intro);refine And.intro rfl ?_)|refine av ?_|refine ae ?_|refine ai ?_)
  exact k _ (dc h b).bV
 subst hc
 repeat (first|(refine aq h ?_;clear h;intro kb M h)|(refine au h ?_;clear h;intro M h)|refine St.to h ?_|(apply Exists.intro;(repeat apply Exists.intro);refine And.intro rfl ?_)|refine av ?_|refine ae ?_|refine ai ?_)
 refine aM.2 ⟨fun hr => ?_, fun hr => ?_⟩
 ·cases eC with
  | nil => simp at hr
  | cons w r =>
   repeat (first|(refine aq h ?_;clear h;intro kb M h)|(refine au h ?_;clear h;intro M h)|refine St.to h ?_|(apply Exists.intro;(repeat apply Exists.intro);refine And.intro rfl ?_)|refine av ?_|refine ae ?_|refine ai ?_)
   refine w4 h (h.src (A := Ar)) rfl (h.jH Ar) (by simpa using h3) ?_
   clear h
   intro A' c' M h
   repeat (first|(refine aq h ?_;clear h;intro kb M h)|(refine au h ?_;clear h;intro M h)|refine St.to h ?_|(apply Exists.intro;(repeat apply Exists.intro);refine And.intro rfl ?_)|refine av ?_|refine ae ?_|refine ai ?_)
   exact k _ (dc h b).bV
 cases eC with
 | cons w r => simp at hr
 | nil =>
 simp only [aT.send, Bool.false_eq_true, if_false] at k
 repeat (first|(refine aq h ?_;clear h;intro kb M h)|(refine au h ?_;clear h;intro M h)|refine St.to h ?_|(apply Exists.intro;(repeat apply Exists.intro);refine And.intro rfl ?_)|refine av ?_|refine ae ?_|refine ai ?_)
 refine aM.2 ⟨fun hl => ?_, fun hl => ?_⟩
 ·rw [if_pos (by omega)] at k
  repeat (first|(refine aq h ?_;clear h;intro kb M h)|(refine au h ?_;clear h;intro M h)|refine St.to h ?_|(apply Exists.intro;(repeat apply Exists.intro);refine And.intro rfl ?_)|refine av ?_|refine ae ?_|refine ai ?_)
  refine h.bJ CZ [v] rfl rfl (by simp; omega) ?_
  clear h
  intro A' c' M h
  repeat (first|(refine aq h ?_;clear h;intro kb M h)|(refine au h ?_;clear h;intro M h)|refine St.to h ?_|(apply Exists.intro;(repeat apply Exists.intro);refine And.intro rfl ?_)|refine av ?_|refine ae ?_|refine ai ?_)
  exact k _ (dc h b).bV
 ·rw [if_neg (by omega)] at k
  repeat (first|(refine aq h ?_;clear h;intro kb M h)|(refine au h ?_;clear h;intro M h)|refine St.to h ?_|(apply Exists.intro;(repeat apply Exists.intro);refine And.intro rfl ?_)|refine av ?_|refine ae ?_|refine ai ?_)
  exact k _ (dc h b).bV
def SG (x : Int × Bool × Wt × Bool × Int) : Value := .tuple #[.agg #[.int .i64 x.1, .bool x.2.1, .int .i64 x.2.2.1.g, .int .i64 x.2.2.1.cs, .int .i64 x.2.2.1.v, .bool x.2.2.2.1], .int .i64 x.2.2.2.2]
theorem GD (h : Hp R L M) [o : bY bE b L c L'] (hs : c.Small 1000000000) (k : ∀ M', Hp R (az bE b c.recv.1 :: L') M' → K (SG c.recv.2) M') :
  aa Tryz.prog 239 #[.pointer (some ⟨b, 0, none⟩)] M K Kp := by
 refine sQ ?_
 obtain ⟨room, buf, snd, eC, closed⟩ := c
 obtain ⟨h1, h2, h3⟩ := hs
 have h' := iA h (b := b)
 clear h
 obtain ⟨Ab, cb, As, cs, Ar, cr, h⟩ := h'
 dsimp only [iz] at h1 h2 h3 h
 refine aq h ?_
 clear h
 intro kr M h
 refine aq h ?_
 clear h
 intro kg M h
 repeat (first|(refine aq h ?_;clear h;intro kb M h)|(refine au h ?_;clear h;intro M h)|refine St.to h ?_|(apply Exists.intro;(repeat apply Exists.intro);refine And.intro rfl ?_)|refine av ?_|refine ae ?_|refine ai ?_)
 refine ⟨fun vs M => vs = [] ∧ ∃ Ab cb As cs, Hp R (pt kr [.int .i64 0, .bool false, .int .i64 0, .int .i64 0, .int .i64 0, .bool false] 381 ::
  pt kg [.int .i64 0, .bool false, .int .i64 (snd.headD .zero).g, .int .i64 (snd.headD .zero).cs, .int .i64 (snd.headD .zero).v, .bool (!snd.isEmpty)] 381 ::
  pt b (iz ⟨room, aT.all ⟨room, buf, snd, eC, closed⟩, snd.tail, eC, closed⟩ Ab cb As cs Ar cr) 305 :: yU Ab cb (aT.all ⟨room, buf, snd, eC, closed⟩) :: uw As cs snd.tail :: uw Ar cr eC :: L') M, ?_, ?_⟩
 ·refine aM.2 ⟨fun hr => ?_, fun hr => ?_⟩
  ·cases snd with
   | nil => simp at hr
   | cons w r =>
    repeat (first|(refine aq h ?_;clear h;intro kb M h)|(refine au h ?_;clear h;intro M h)|refine St.to h ?_|(apply Exists.intro;(repeat apply Exists.intro);refine And.intro rfl ?_)|refine av ?_|refine ae ?_|refine ai ?_)
    refine w4 h (h.src (A := As)) rfl (h.jH As) (by simpa using h2) ?_
    clear h
    intro A' c' M h
    repeat (first|(refine aq h ?_;clear h;intro kb M h)|(refine au h ?_;clear h;intro M h)|refine St.to h ?_|(apply Exists.intro;(repeat apply Exists.intro);refine And.intro rfl ?_)|refine av ?_|refine ae ?_|refine ai ?_)
    refine h.bJ CZ [w.v] rfl rfl (by simp; omega) ?_
    clear h
    intro A2 c2 M h
    repeat (first|(refine aq h ?_;clear h;intro kb M h)|(refine au h ?_;clear h;intro M h)|refine St.to h ?_|(apply Exists.intro;(repeat apply Exists.intro);refine And.intro rfl ?_)|refine av ?_|refine ae ?_|refine ai ?_)
    exact ⟨A2, c2, A', c', h.sub bD⟩
  ·cases snd with
   | cons w r => simp at hr
   | nil => exact ⟨rfl, Ab, cb, As, cs, h.sub bD⟩
 clear h
 rintro _ M ⟨_, Ab, cb, As, cs, h⟩
 unfold aT.recv at k
 dsimp only at k
 have gS : (aT.all ⟨room, buf, snd, eC, closed⟩).length ≤ 1000000001 := by unfold aT.all; split <;> simp <;> omega
 have Qe : aT.all ⟨room, buf, snd, eC, closed⟩ = [] → snd = [] ∧ buf = [] := by unfold aT.all; dsimp only; cases snd <;> simp
 generalize aT.all ⟨room, buf, snd, eC, closed⟩ = all at h k gS Qe
 dsimp only [iz] at h
 repeat (first|(refine aq h ?_;clear h;intro kb M h)|(refine au h ?_;clear h;intro M h)|refine St.to h ?_|(apply Exists.intro;(repeat apply Exists.intro);refine And.intro rfl ?_)|refine av ?_|refine ae ?_|refine ai ?_)
 refine aM.2 ⟨fun hr => ?_, fun hr => ?_⟩
 ·cases all with
  | nil => simp at hr
  | cons v l =>
   dsimp only at k
   repeat (first|(refine aq h ?_;clear h;intro kb M h)|(refine au h ?_;clear h;intro M h)|refine St.to h ?_|(apply Exists.intro;(repeat apply Exists.intro);refine And.intro rfl ?_)|refine av ?_|refine ae ?_|refine ai ?_)
   obtain ⟨x, rfl⟩ := h.bF (A := Ab) (by simp) (by decide)
   repeat (first|(refine aq h ?_;clear h;intro kb M h)|(refine au h ?_;clear h;intro M h)|refine St.to h ?_|(apply Exists.intro;(repeat apply Exists.intro);refine And.intro rfl ?_)|refine av ?_|refine ae ?_|refine ai ?_)
   refine aZ ((h.src (A := some ⟨x, 0, none⟩)).at h (i := 0) (j := 0) rfl rfl (by omega)) ?_
   have hcap := h.jH (some ⟨x, 0, none⟩)
   have hlen : l.length + 1 ≤ 1000000001 := by simpa using gS
   repeat (first|(refine aq h ?_;clear h;intro kb M h)|(refine au h ?_;clear h;intro M h)|refine St.to h ?_|(apply Exists.intro;(repeat apply Exists.intro);refine And.intro rfl ?_)|refine av ?_|refine ae ?_|refine ai ?_)
   simp only [Int.toNat_natCast]
   refine h.j7 bB CZ l ((h.src (A := some ⟨x, 0, none⟩)).drop (m := 1) hcap) (by simp) (by omega) ?_
   clear h
   intro A' c' M h
   repeat (first|(refine aq h ?_;clear h;intro kb M h)|(refine au h ?_;clear h;intro M h)|refine St.to h ?_|(apply Exists.intro;(repeat apply Exists.intro);refine And.intro rfl ?_)|refine av ?_|refine ae ?_|refine ai ?_)
   exact k _ (dc h b).bV
 ·cases all with
  | cons v l => simp at hr
  | nil =>
  obtain ⟨rfl, rfl⟩ := Qe rfl
  repeat (first|(refine aq h ?_;clear h;intro kb M h)|(refine au h ?_;clear h;intro M h)|refine St.to h ?_|(apply Exists.intro;(repeat apply Exists.intro);refine And.intro rfl ?_)|refine av ?_|refine ae ?_|refine ai ?_)
  refine gG.2 ⟨fun hc => ?_, fun hc => ?_⟩
  ·subst hc
   repeat (first|(refine aq h ?_;clear h;intro kb M h)|(refine au h ?_;clear h;intro M h)|refine St.to h ?_|(apply Exists.intro;(repeat apply Exists.intro);refine And.intro rfl ?_)|refine av ?_|refine ae ?_|refine ai ?_)
   exact k _ (dc h b).bV
  ·subst hc
   repeat (first|(refine aq h ?_;clear h;intro kb M h)|(refine au h ?_;clear h;intro M h)|refine St.to h ?_|(apply Exists.intro;(repeat apply Exists.intro);refine And.intro rfl ?_)|refine av ?_|refine ae ?_|refine ai ?_)
   exact k _ (dc h b).bV
theorem EC (h : Hp R L M) [o : bY bE b L c L']
  (k : ∀ A ca B cb M', Hp R (az bE b c.close.1 :: uw B cb c.close.2.2.1 :: uw A ca c.close.2.1 :: L') M' → K (.tuple #[.slice A c.close.2.1.length ca, .slice B c.close.2.2.1.length cb, .int .i64 c.close.2.2.2]) M') :
  aa Tryz.prog 243 #[.pointer (some ⟨b, 0, none⟩)] M K Kp := by
 refine qT ?_
 obtain ⟨room, buf, snd, eC, closed⟩ := c
 have h' := iA h (b := b)
 clear h
 obtain ⟨Ab, cb, As, cs, Ar, cr, h⟩ := h'
 dsimp only [iz] at h
 repeat (first|(refine aq h ?_;clear h;intro kb M h)|(refine au h ?_;clear h;intro M h)|refine St.to h ?_|(apply Exists.intro;(repeat apply Exists.intro);refine And.intro rfl ?_)|refine av ?_|refine ae ?_|refine ai ?_)
 refine gG.2 ⟨fun hc => ?_, fun hc => ?_⟩
 ·subst hc
  have h := dc ((h.cz jb 280).cz jb 280) b
  exact k none 0 none 0 _ h
 ·subst hc
  repeat (first|(refine aq h ?_;clear h;intro kb M h)|(refine au h ?_;clear h;intro M h)|refine St.to h ?_|(apply Exists.intro;(repeat apply Exists.intro);refine And.intro rfl ?_)|refine av ?_|refine ae ?_|refine ai ?_)
  have h := (h.cz jb 280).cz jb 280
  exact k _ _ _ _ _ ((dc h b).sub bD)
theorem jn {B : Option Addr} {n cc : Nat} {g : Int} {l : List Wt} (h : Hp R L M) (hB : Src R L B (jb.cells l)) (hn : n = l.length) (hs : l.length ≤ 1000000000)
  (k : ∀ A' c' M', Hp R (uw A' c' (wo g l) :: L) M' → K (.slice A' (wo g l).length c') M') :
  aa Tryz.prog 254 #[.slice B n cc, .int .i64 g] M K Kp := by
 subst hn
 refine vR ⟨fun d vs M => ∃ i A c, vs = [.slice A (wo g (l.take i)).length c, .int .i64 (i : Int)] ∧ d = l.length - i ∧ i ≤ l.length ∧ Hp R (uw A c (wo g (l.take i)) :: L) M,
  ⟨_, 0, none, 0, rfl, rfl, by omega, h.cz _ _⟩, ?_⟩
 clear h
 rintro d _ A n c' ii M ⟨i, _, _, he, hd, hi, h⟩
 simp only [List.cons.injEq, Value.slice.injEq, Value.int.injEq, and_true, true_and] at he
 obtain ⟨⟨rfl, rfl, rfl⟩, rfl⟩ := he
 refine aM.2 ⟨fun hlt => ?_, fun hge => ?_⟩
 ·obtain ⟨w, hw⟩ := aP (l := l) (i := i) (by omega)
  obtain ⟨b, o, rfl⟩ := hB.cons.lI h (by omega) (by decide)
  have e1 : IntKind.wrap .i64 ((i : Int) + 1) = ((i + 1 : Nat) : Int) := aV (by omega)
  have hl := Gs g (l.take i)
  have kW := List.length_take_le i l
  rw [e1]
  repeat (first|(refine aq h ?_;clear h;intro kb M h)|(refine au h ?_;clear h;intro M h)|refine St.to h ?_|(apply Exists.intro;(repeat apply Exists.intro);refine And.intro rfl ?_)|refine av ?_|refine ae ?_|refine ai ?_)
  refine aZ (hB.cons.at h (j := 0) hw rfl (by simp [jb])) ?_
  refine aZ (hB.cons.at h (j := 1) hw rfl (by simp [jb]; omega)) ?_
  refine aZ (hB.cons.at h (j := 2) hw rfl (by simp [jb]; omega)) ?_
  repeat (first|(refine aq h ?_;clear h;intro kb M h)|(refine au h ?_;clear h;intro M h)|refine St.to h ?_|(apply Exists.intro;(repeat apply Exists.intro);refine And.intro rfl ?_)|refine av ?_|refine ae ?_|refine ai ?_)
  refine eL.2 ⟨fun hne => ?_, fun heq => ?_⟩
  ·have e2 : wo g (l.take (i + 1)) = wo g (l.take i) ++ [w] := by rw [dD hw, MH]; simp [wo, hne]
   repeat (first|(refine aq h ?_;clear h;intro kb M h)|(refine au h ?_;clear h;intro M h)|refine St.to h ?_|(apply Exists.intro;(repeat apply Exists.intro);refine And.intro rfl ?_)|refine av ?_|refine ae ?_|refine ai ?_)
   refine h.bJ ya [w] rfl rfl (by simp; omega) ?_
   clear h
   intro A' c' M h
   repeat (first|(refine aq h ?_;clear h;intro kb M h)|(refine au h ?_;clear h;intro M h)|refine St.to h ?_|(apply Exists.intro;(repeat apply Exists.intro);refine And.intro rfl ?_)|refine av ?_|refine ae ?_|refine ai ?_)
   exact ⟨l.length - (i + 1), by omega, i + 1, A', c', by rw [e2], rfl, by omega, by rw [e2]; exact h.bV⟩
  ·have e2 : wo g (l.take (i + 1)) = wo g (l.take i) := by rw [dD hw, MH]; simp [wo, heq]
   exact ⟨l.length - (i + 1), by omega, i + 1, A, c', by rw [e2], rfl, by omega, by rw [e2]; exact h.pE⟩
 ·have : i = l.length := by omega
  subst this
  rw [List.take_length] at h ⊢
  exact k _ _ _ h
theorem GF {g : Int} (h : Hp R L M) [o : bY bE b L c L'] (hs : c.Small 1000000000) (k : ∀ M', Hp R (az bE b (c.drop g) :: L') M' → K (.tuple #[]) M') :
  aa Tryz.prog 253 #[.pointer (some ⟨b, 0, none⟩), .int .i64 g] M K Kp := by
 refine sR ?_
 have h' := iA h (b := b)
 clear h
 obtain ⟨Ab, cb, As, cs, Ar, cr, h⟩ := h'
 obtain ⟨h1, h2, h3⟩ := hs
 repeat (first|(refine aq h ?_;clear h;intro kb M h)|(refine au h ?_;clear h;intro M h)|refine St.to h ?_|(apply Exists.intro;(repeat apply Exists.intro);refine And.intro rfl ?_)|refine av ?_|refine ae ?_|refine ai ?_)
 refine ⟨?_, ?_, trivial⟩
 ·refine jn h (h.src (A := As)) rfl h2 ?_
  clear h
  intro A' c' M h
  repeat (first|(refine aq h ?_;clear h;intro kb M h)|(refine au h ?_;clear h;intro M h)|refine St.to h ?_|(apply Exists.intro;(repeat apply Exists.intro);refine And.intro rfl ?_)|refine av ?_|refine ae ?_|refine ai ?_)
  refine jn h (h.src (A := Ar)) rfl h3 ?_
  clear h
  intro B' d' M h
  repeat (first|(refine aq h ?_;clear h;intro kb M h)|(refine au h ?_;clear h;intro M h)|refine St.to h ?_|(apply Exists.intro;(repeat apply Exists.intro);refine And.intro rfl ?_)|refine av ?_|refine ae ?_|refine ai ?_)
  exact k _ (dc h b).bV
 ·repeat (first|(refine aq h ?_;clear h;intro kb M h)|(refine au h ?_;clear h;intro M h)|refine St.to h ?_|(apply Exists.intro;(repeat apply Exists.intro);refine And.intro rfl ?_)|refine av ?_|refine ae ?_|refine ai ?_)
  refine jn h (h.src (A := As)) rfl h2 ?_
  clear h
  intro A' c' M h
  repeat (first|(refine aq h ?_;clear h;intro kb M h)|(refine au h ?_;clear h;intro M h)|refine St.to h ?_|(apply Exists.intro;(repeat apply Exists.intro);refine And.intro rfl ?_)|refine av ?_|refine ae ?_|refine ai ?_)
  refine jn h (h.src (A := Ar)) rfl h3 ?_
  clear h
  intro B' d' M h
  repeat (first|(refine aq h ?_;clear h;intro kb M h)|(refine au h ?_;clear h;intro M h)|refine St.to h ?_|(apply Exists.intro;(repeat apply Exists.intro);refine And.intro rfl ?_)|refine av ?_|refine ae ?_|refine ai ?_)
  exact k _ (dc h b).bV
end
end Go.Proofs
namespace Go.AF
theorem nJ {α β γ : Type} {f : α → β → γ} : ∀ {l : List α} {m : List β} {i : Nat} {a : α} {b : β}, l[i]? = some a → (List.zipWith f l m).set i (f a b) = List.zipWith f l (m.set i b)
 | [], _, _, _, _, h => by simp at h
 | x :: l, [], i, a, b, h => by simp
 | x :: l, y :: m, 0, a, b, h => by simp at h; subst h; rfl
 | x :: l, y :: m, i + 1, a, b, h => by
  have := nJ (f := f) (m := m) (b := b) (show l[i]? = some a from by simpa using h)
  simp [this]
theorem GH {α β γ : Type} {f : α → β → γ} : ∀ {l : List α} {m : List β} {i : Nat} {a : α} {b : β}, l[i]? = some a → m[i]? = some b → (List.zipWith f l m)[i]? = some (f a b)
 | [], _, _, _, _, h, _ => by simp at h
 | x :: l, [], i, a, b, h, g => by simp at g
 | x :: l, y :: m, 0, a, b, h, g => by simp at h g; subst h; subst g; rfl
 | x :: l, y :: m, i + 1, a, b, h, g => by simpa using GH (f := f) (show l[i]? = some a from by simpa using h) (show m[i]? = some b from by simpa using g)
theorem cY.Yb {P : HP} {L : List HP} : ∀ (l : List HP), cY (l ++ P :: L) P (l ++ L)
 | [] => .here
 | Q :: l => .there (cY.Yb l)
section
variable {α : Type} {r : sH α} {R : Mem} {L L' ou : List HP} {M : Mem} {bs : List Nat} {cs : List α} {b i : Nat} {c : α}
def bj (r : sH α) (bs : List Nat) (cs : List α) : HP := sep (List.zipWith (az r) bs cs)
def lM (r : sH α) (bs : List Nat) (cs : List α) (i : Nat) : HP := sep ((List.zipWith (az r) bs cs).eraseIdx i)
class fG (r : sH α) (L : List HP) (bs : outParam (List Nat)) (cs : outParam (List α)) (L' : outParam (List HP)) : Prop where
 pick : cY L (bj r bs cs) L'
instance fG.here : fG r (bj r bs cs :: L) bs cs L := ⟨.here⟩
instance (priority := low) fG.there {P : HP} [h : fG r L bs cs L'] : fG r (P :: L) bs cs (P :: L') := ⟨.there h.pick⟩
class w5 (r : sH α) (L : List HP) (bs : outParam (List Nat)) (cs : outParam (List α)) (i : outParam Nat) (L' : outParam (List HP)) : Prop where
 pick : cY L (lM r bs cs i) L'
instance w5.here : w5 r (lM r bs cs i :: L) bs cs i L := ⟨.here⟩
instance (priority := low) w5.there {P : HP} [h : w5 r L bs cs i L'] : w5 r (P :: L) bs cs i (P :: L') := ⟨.there h.pick⟩
theorem Hp.nK (h : Hp R L M) (r : sH α) {bs : List Nat} {cs : List α} [o : fG r L bs cs L'] : Hp R (bj r bs cs :: L') M := h.pick o.pick
theorem Hp.ux (h : Hp R L M) (r : sH α) : Hp R (bj r [] [] :: L) M := Hp.aX.2 h
theorem Hp.c6 (h : Hp R L M) (r : sH α) {bs : List Nat} {cs : List α} [o : fG r L bs cs L'] (hb : bs[i]? = some b) (hc : cs[i]? = some c) : Hp R (az r b c :: lM r bs cs i :: L') M :=
 (h.pick o.pick).focus (GH hb hc)
theorem Hp.dN (h : Hp R L M) (r : sH α) (b : Nat) {bs : List Nat} {cs : List α} {i : Nat} {c : α} [o : bY r b L c L'] [x : w5 r L' bs cs i ou] (hb : bs[i]? = some b) (hc : i < cs.length) : Hp R (bj r bs (cs.set i c) :: ou) M := by
 have h1 : Hp R (az r b c :: lM r bs cs i :: ou) M := (h.pick o.pick).map fun _ hs => hs.tail (fun _ => bU.pick x.pick)
 have h2 := Hp.Ql (ls := List.zipWith (az r) bs cs) h1 (by rw [List.length_zipWith]; have := (List.getElem?_eq_some_iff.1 hb).1; omega)
 rw [nJ hb] at h2
 exact h2
theorem Hp.vS (h : Hp R L M) (r : sH α) (b : Nat) {bs : List Nat} {cs : List α} {i : Nat} {c : α} [o : bY r b L c L'] [x : w5 r L' bs cs i ou] (hb : bs[i]? = some b) (hc : cs[i]? = some c) : Hp R (bj r bs cs :: ou) M := by
 have := h.dN r b hb (List.getElem?_eq_some_iff.1 hc).1
 obtain ⟨hi, rfl⟩ := List.getElem?_eq_some_iff.1 hc
 rwa [List.set_getElem_self] at this
theorem Hp.kF (h : Hp R L M) (r : sH α) (b : Nat) {bs : List Nat} {cs : List α} {c : α} [o : bY r b L c L'] [x : fG r L' bs cs ou] (hl : bs.length = cs.length) : Hp R (bj r (bs ++ [b]) (cs ++ [c]) :: ou) M := by
 have h1 : Hp R (az r b c :: bj r bs cs :: ou) M := (h.pick o.pick).map fun _ hs => hs.tail (fun _ => bU.pick x.pick)
 refine Hp.aX.2 ?_
 rw [List.zipWith_append hl, List.append_assoc]
 refine Hp.nB (P := az r b c) ?_ (cY.Yb _)
 exact h1.map fun _ hs => hs.tail fun _ hb => bU.aX.1 hb
end
end Go.AF
namespace Go.Proofs
open Go.AF
set_option maxRecDepth 100000
variable {M : Mem} {K : Value → Mem → Prop} {Kp : List PanicEntry → Mem → Prop}
theorem vT {B0 : Option Addr} {m0 c0 : Nat} {B1 : Option Addr} {m1 c1 : Nat} (h :
∃ I1 : IT, (∃ k2, I1 k2 [(.slice none 0 0), (iV 0)] M) ∧
∀ (k3 : Nat) (_ : Nat → Value) (A5 : Option Addr) (k6 : Nat) (k7 : Nat) (n8 : Int) (M9 : Mem), (I1 k3 [(.slice A5 k6 k7), (iV n8)] M9) → aO (decide (n8 < m0))
 ((0 ≤ n8) ∧
 (n8 < m0) ∧
 aF B0 fun gn eO =>
 l9 M9 gn (eO + ((Int.toNat n8) * 3)) fun jM iM mb =>
 bh M9 qE fun iC fz =>
 Iu fz iC (iV jM) (iV iM) (iV mb) fun jD =>
 l9 jD iC 0 fun gk sL wX =>
 aa Tryz.prog 234 #[(.agg #[(iV gk), (iV sL), (iV wX)]), (.slice B1 m1 c1)] jD (fun Yc j8 =>
 de (some Yc) fun t25 =>
 aO t25
 (bh j8 (cl [(iV n8)] 3) fun tP wZ =>
 aA 36 A5 k6 k7 (some ⟨tP, 0, none⟩) 1 1 wZ (fun TX mK =>
 aB (some TX) fun SH nI uv =>
 ∃ tQ : Nat, (tQ < k3) ∧
 I1 tQ [(.slice SH nI uv), (iV (IntKind.wrap .i64 (n8 + 1)))] mK) Kp)
 (∃ oW : Nat, (oW < k3) ∧
 I1 oW [(.slice A5 k6 k7), (iV (IntKind.wrap .i64 (n8 + 1)))] j8)) Kp)
 (K (.slice A5 k6 k7) M9)) :
 aa Tryz.prog 205 #[.slice B0 m0 c0, .slice B1 m1 c1] M K Kp := vw [(2000000, .loop [(5, .c .sl), (10, .c (.int .i64))])] Tryz.func205 h
theorem AS {B0 : Option Addr} {m0 c0 : Nat} (h :
∃ I1 : IT, (∃ k2, I1 k2 [(iV 0)] M) ∧
∀ (k3 : Nat) (_ : Nat → Value) (n5 : Int) (M6 : Mem), (I1 k3 [(iV n5)] M6) → aO (decide (n5 < m0))
 ((0 ≤ n5) ∧
 (n5 < m0) ∧
 aF B0 fun k7 k8 =>
 l9 M6 k7 (k8 + ((Int.toNat n5) * 3)) fun n9 jc iN =>
 bh M6 qE fun gH mL =>
 Iu mL gH (iV n9) (iV jc) (iV iN) fun fz =>
 rI fz gH 0 fun iW =>
 aO (iW == 2)
 (K (.tuple #[(iV n5), (.bool true)]) fz)
 (∃ en : Nat, (en < k3) ∧
 I1 en [(iV (IntKind.wrap .i64 (n5 + 1)))] fz))
 (K (.tuple #[(iV 0), (.bool false)]) M6)) :
 aa Tryz.prog 206 #[.slice B0 m0 c0] M K Kp := vw [(2000000, .loop [(8, .c (.int .i64))])] Tryz.func206 h
theorem AT {x0 : Int} {B1 : Option Addr} {m1 c1 : Nat} {B2 : Option Addr} {m2 c2 : Nat} {B3 : Option Addr} {m3 c3 : Nat} (h :
∃ I1 : IT, (∃ k2, I1 k2 [(iV 0)] M) ∧
∀ (k3 : Nat) (_ : Nat → Value) (n5 : Int) (M6 : Mem), (I1 k3 [(iV n5)] M6) → aO (decide (n5 < m1))
 ((0 ≤ n5) ∧
 (n5 < m1) ∧
 aF B1 fun k7 k8 =>
 l9 M6 k7 (k8 + ((Int.toNat n5) * 3)) fun n9 jc iN =>
 bh M6 qE fun gH mL =>
 Iu mL gH (iV n9) (iV jc) (iV iN) fun fz =>
 rI fz gH 0 fun iW =>
 aO (iW == 0)
 (rI fz gH 1 fun lA =>
 (0 ≤ lA) ∧
 (lA < m3) ∧
 aF B3 fun jK lz =>
 rP fz jK (lz + (Int.toNat lA)) fun C0 =>
 aa Tryz.prog 235 #[(.pointer C0), (.agg #[(iV x0), (iV n5), (iV 0)])] fz (fun Kg me =>
 (Kg = (.tuple #[])) ∧
 ∃ sM : Nat, (sM < k3) ∧
 I1 sM [(iV (IntKind.wrap .i64 (n5 + 1)))] me) Kp)
 (aO (iW == 1)
 (rI fz gH 1 fun mN =>
 (0 ≤ mN) ∧
 (mN < m3) ∧
 aF B3 fun tP Av =>
 rP fz tP (Av + (Int.toNat mN)) fun Qv =>
 rI fz gH 2 fun yb =>
 (0 ≤ yb) ∧
 (yb < m2) ∧
 aF B2 fun mj nI =>
 rI fz mj (nI + (Int.toNat yb)) fun n32 =>
 aa Tryz.prog 236 #[(.pointer Qv), (.agg #[(iV x0), (iV n5), (iV n32)])] fz (fun v33 sr =>
 (v33 = (.tuple #[])) ∧
 ∃ Aw : Nat, (Aw < k3) ∧
 I1 Aw [(iV (IntKind.wrap .i64 (n5 + 1)))] sr) Kp)
 (∃ Ng : Nat, (Ng < k3) ∧
 I1 Ng [(iV (IntKind.wrap .i64 (n5 + 1)))] fz)))
 (K (.tuple #[]) M6)) :
 aa Tryz.prog 207 #[.int .i64 x0, .slice B1 m1 c1, .slice B2 m2 c2, .slice B3 m3 c3] M K Kp := vw [(2000000, .loop [(12, .c (.int .i64))]), (7, .bR [0, 0, 2, 7, 15, 0, 0, 0, 0, 256, 896, 1920, 4064, 8191] (sy [0, 1, 5, 6, 7, 8, 2, 3, 4, 9, 10, 11, 12, 13] .done))] Tryz.func207 h
theorem uy {yV : Int} {yW : Int} {gU : Int} {B1 : Option Addr} {m1 c1 : Nat} (h :
bh M (cl [(iV yV), (iV yW), (iV gU)] 165) fun k1 M2 =>
rI M2 k1 0 fun n3 =>
aO (n3 == 0)
 (rI M2 k1 1 fun n4 =>
 (0 ≤ n4) ∧
 (n4 < m1) ∧
 aF B1 fun k5 k6 =>
 rP M2 k5 (k6 + (Int.toNat n4)) fun A7 =>
 aa Tryz.prog 248 #[(.pointer A7)] M2 (fun v8 M9 =>
 de (some v8) fun t10 =>
 K (.bool t10) M9) Kp)
 (aO (n3 == 1)
 (rI M2 k1 1 fun iN =>
 (0 ≤ iN) ∧
 (iN < m1) ∧
 aF B1 fun gH eN =>
 rP M2 gH (eN + (Int.toNat iN)) fun oX =>
 aa Tryz.prog 249 #[(.pointer oX)] M2 (fun C1 fz =>
 de (some C1) fun t17 =>
 K (.bool t17) fz) Kp)
 (K (.bool false) M2))) :
 aa Tryz.prog 234 #[.agg #[.int .i64 yV, .int .i64 yW, .int .i64 gU], .slice B1 m1 c1] M K Kp := vw [] Tryz.func234 h
theorem yX {x0 : Int} {B1 : Option Addr} {m1 c1 : Nat} (h :
∃ I1 : IT, (∃ k2, I1 k2 [(iV 0)] M) ∧
∀ (k3 : Nat) (_ : Nat → Value) (n5 : Int) (M6 : Mem), (I1 k3 [(iV n5)] M6) → aO (decide (n5 < m1))
 ((0 ≤ n5) ∧
 (n5 < m1) ∧
 aF B1 fun k7 k8 =>
 rP M6 k7 (k8 + (Int.toNat n5)) fun A9 =>
 aa Tryz.prog 253 #[(.pointer A9), (iV x0)] M6 (fun v10 jL =>
 (v10 = (.tuple #[])) ∧
 ∃ gH : Nat, (gH < k3) ∧
 I1 gH [(iV (IntKind.wrap .i64 (n5 + 1)))] jL) Kp)
 (K (.tuple #[]) M6)) :
 aa Tryz.prog 252 #[.int .i64 x0, .slice B1 m1 c1] M K Kp := vw [(2000000, .loop [(8, .c (.int .i64))])] Tryz.func252 h
end Go.Proofs
namespace Go.Proofs
open Go.AF
set_option maxRecDepth 100000
set_option maxHeartbeats 1000000
attribute [local irreducible] aJ de fA cw aB dZ aF aK bh aY bA aO
structure ov where
 way : Int
 ch : Int
 bR : Int
 deriving DecidableEq
def hH : iY ov := ⟨3, fun w => [.int .i64 w.way, .int .i64 w.ch, .int .i64 w.bR], fun _ => rfl, fun w v hv => by
 simp only [List.mem_cons, List.not_mem_nil, or_false] at hv; obtain rfl | rfl | rfl := hv <;> rfl⟩
def ov.Ok (n : Nat) (c : ov) : Prop := 0 ≤ c.way ∧ c.way ≤ 2 ∧ (c.way ≠ 2 → 0 ≤ c.ch ∧ c.ch < n ∧ 0 ≤ c.bR ∧ c.bR < 8)
instance (n : Nat) (c : ov) : Decidable (c.Ok n) := by unfold ov.Ok; infer_instance
def dK (cs : List aT) (k : Int) : aT := cs.getD k.toNat ⟨0, [], [], [], false⟩
def can (cs : List aT) (c : ov) : Bool := if c.way = 0 then (dK cs c.ch).uh else if c.way = 1 then (dK cs c.ch).ug else false
def Nh (cases : List ov) (cs : List aT) (j : Nat) : Bool := match cases[j]? with
 | some c => can cs c
 | none => false
def C2 (cases : List ov) (cs : List aT) (i : Nat) : List Int := ((List.range i).filter (Nh cases cs)).map Int.ofNat
def enabled (cases : List ov) (cs : List aT) : List Int := C2 cases cs cases.length
theorem ED (cases : List ov) (cs : List aT) (i : Nat) : (C2 cases cs i).length ≤ i := by
 unfold C2; rw [List.length_map]; exact Nat.le_trans (List.length_filter_le ..) (by simp)
theorem BY {cases : List ov} {cs : List aT} {i : Nat} {c : ov} (h : cases[i]? = some c) : C2 cases cs (i + 1) = C2 cases cs i ++ (if can cs c then [(i : Int)] else []) := by
 unfold C2
 rw [List.range_succ, List.filter_append, List.map_append]
 simp only [List.filter_cons, Nh, h, List.filter_nil]
 split <;> simp_all
def els (cases : List ov) : Option Nat := cases.findIdx? (fun c => c.way == 2)
def j9 (g : Int) (fH : List Int) (i : Nat) (c : ov) (cs : List aT) : List aT :=
 if c.way = 0 then cs.set c.ch.toNat { dK cs c.ch with eC := (dK cs c.ch).eC ++ [⟨g, i, 0⟩] }
 else if c.way = 1 then cs.set c.ch.toNat { dK cs c.ch with snd := (dK cs c.ch).snd ++ [⟨g, i, fH.getD c.bR.toNat 0⟩] } else cs
def dU (g : Int) (fH : List Int) (cases : List ov) (cs : List aT) : Nat → List aT
 | 0 => cs
 | i + 1 => match cases[i]? with
  | some c => j9 g fH i c (dU g fH cases cs i)
  | none => dU g fH cases cs i
theorem EE (g : Int) (fH : List Int) (i : Nat) (c : ov) (cs : List aT) : (j9 g fH i c cs).length = cs.length := by
 unfold j9; split
 ·simp
 ·split <;> simp
theorem kX (g : Int) (fH : List Int) (cases : List ov) (cs : List aT) : ∀ i, (dU g fH cases cs i).length = cs.length
 | 0 => rfl
 | i + 1 => by
  unfold dU; split
  ·rw [EE, kX _ _ _ _ i]
  ·exact kX _ _ _ _ i
theorem mem_set {α : Type} {l : List α} {i : Nat} {x y : α} (h : y ∈ l.set i x) : y ∈ l ∨ y = x := by
 rcases List.mem_or_eq_of_mem_set h with h | h
 ·exact .inl h
 ·exact .inr h
theorem uz {cs : List aT} {k : Int} (h0 : 0 ≤ k) (h : k < cs.length) : dK cs k ∈ cs := by
 unfold dK; rw [List.getD_eq_getElem?_getD, List.getElem?_eq_getElem (by omega)]; exact List.getElem_mem _
theorem AU {g : Int} {fH : List Int} {i : Nat} {c : ov} {cs : List aT} {N : Nat} (hs : ∀ x ∈ cs, x.Small N) (hc : c.Ok cs.length) : ∀ x ∈ j9 g fH i c cs, x.Small (N + 1) := by
 obtain ⟨_, _, kk⟩ := hc
 intro x hm
 unfold j9 at hm
 split at hm
 ·rename_i hw
  have hx := hs _ (uz (kk (by omega)).1 (kk (by omega)).2.1)
  rcases mem_set hm with h | rfl
  ·exact (hs x h).mono (by omega)
  ·exact hx.wr _
 split at hm
 ·rename_i hw
  have hx := hs _ (uz (kk (by omega)).1 (kk (by omega)).2.1)
  rcases mem_set hm with h | rfl
  ·exact (hs x h).mono (by omega)
  ·exact hx.ws _
 ·exact (hs x hm).mono (by omega)
theorem nL {g : Int} {fH : List Int} {cases : List ov} {cs : List aT} {N : Nat} (hs : ∀ x ∈ cs, x.Small N) (hok : ∀ c ∈ cases, c.Ok cs.length) : ∀ i, ∀ x ∈ dU g fH cases cs i, x.Small (N + i)
 | 0 => hs
 | i + 1 => by
  unfold dU; split
  ·rename_i c hc
   exact AU (nL hs hok i) (by rw [kX]; exact hok c (List.mem_of_getElem? hc))
  ·exact fun x hx => (nL hs hok i x hx).mono (by omega)
section
variable {R : Mem} {L L' : List HP} {M : Mem} {K : Value → Mem → Prop} {Kp : List PanicEntry → Mem → Prop} {bs : List Nat} {cs : List aT}
theorem pL : bn Tryz.prog 36 3 1 8 [.int .i64 0] := bn.mk' (zv := .int .i64 0) (by kernel_rfl) (by kernel_rfl) rfl (by omega)
theorem Ni {cases : List ov} {i : Nat} {c : ov} (hc : cases[i]? = some c) (hw : c.way = 2) (hp : ∀ j c, j < i → cases[j]? = some c → c.way ≠ 2) : els cases = some i := by
 obtain ⟨hi, e⟩ := List.getElem?_eq_some_iff.1 hc
 refine List.findIdx?_eq_some_iff_getElem.2 ⟨hi, by rw [e]; simpa using hw, fun j hj => ?_⟩
 have := hp j _ hj (List.getElem?_eq_getElem (by omega))
 simpa using this
theorem Nj {cases : List ov} (hp : ∀ j c, j < cases.length → cases[j]? = some c → c.way ≠ 2) : els cases = none := by
 refine List.findIdx?_eq_none_iff.2 fun c hc => ?_
 obtain ⟨j, hj, e⟩ := List.getElem_of_mem hc
 have := hp j c hj (by rw [← e]; exact List.getElem?_eq_getElem hj)
 simpa using this
theorem GI {B : Option Addr} {m cc : Nat} {cases : List ov} (h : Hp R L M) (hB : Src R L B (hH.cells cases)) (hm : m = cases.length) (hb : cases.length ≤ 1000000000)
  (k : ∀ M', Hp R L M' → K (.tuple #[.int .i64 (match els cases with | some i => (i : Int) | none => 0), .bool (els cases).isSome]) M') :
  aa Tryz.prog 206 #[.slice B m cc] M K Kp := by
 subst hm
 refine AS ⟨fun d ws M => ∃ i : Nat, ws = [.int .i64 (i : Int)] ∧ d = cases.length - i ∧ i ≤ cases.length ∧ (∀ j c, j < i → cases[j]? = some c → c.way ≠ 2) ∧ Hp R L M, ⟨_, 0, rfl, rfl, by omega, fun j c hj => by omega, h⟩, ?_⟩
 clear h
 rintro d _ ii M ⟨i, he, hd, hi, hp, h⟩
 simp only [List.cons.injEq, Value.int.injEq, and_true, true_and] at he
 subst he
 refine aM.2 ⟨fun hlt => ?_, fun hge => ?_⟩
 ·obtain ⟨c, hc⟩ := aP (l := cases) (i := i) (by omega)
  obtain ⟨b, o, rfl⟩ := hB.lI h (by omega) (by decide)
  repeat (first|(refine aq h ?_;clear h;intro kb M h)|(refine au h ?_;clear h;intro M h)|refine St.to h ?_|(apply Exists.intro;(repeat apply Exists.intro);refine And.intro rfl ?_)|refine av ?_|refine ae ?_|refine ai ?_)
  simp only [Int.toNat_natCast]
  refine aZ (hB.at h (i := i) (j := 0) hc rfl rfl) ?_
  refine aZ (hB.at h (i := i) (j := 1) hc rfl rfl) ?_
  refine aZ (hB.at h (i := i) (j := 2) hc rfl rfl) ?_
  repeat (first|(refine aq h ?_;clear h;intro kb M h)|(refine au h ?_;clear h;intro M h)|refine St.to h ?_|(apply Exists.intro;(repeat apply Exists.intro);refine And.intro rfl ?_)|refine av ?_|refine ae ?_|refine ai ?_)
  refine aR.2 ⟨fun e => ?_, fun e => ?_⟩
  ·have := Ni hc e hp
   rw [this] at k
   exact k _ h.pE
  ·rw [aV (by omega)]
   refine ⟨cases.length - (i + 1), by omega, i + 1, rfl, rfl, by omega, fun j c' hj FU => ?_, h.pE⟩
   rcases Nat.lt_or_ge j i with jC | jC
   ·exact hp j c' jC FU
   ·obtain rfl : j = i := by omega
    rw [hc] at FU; cases FU; exact e
 ·obtain rfl : i = cases.length := by omega
  rw [Nj hp] at k
  exact k _ h
theorem Kh {c : ov} {B : Option Addr} {m cc : Nat} (h : Hp R L M) [o : fG bE L bs cs L'] (hB : Src R L' B (l8.cells bs)) (hm : m = bs.length) (hl : bs.length = cs.length) (hc : c.way ≠ 2 → 0 ≤ c.ch ∧ c.ch < cs.length) (GJ : 0 ≤ c.way ∧ c.way ≤ 2)
  (k : ∀ M', Hp R (bj bE bs cs :: L') M' → K (.bool (can cs c)) M') : aa Tryz.prog 234 #[.agg #[.int .i64 c.way, .int .i64 c.ch, .int .i64 c.bR], .slice B m cc] M K Kp := by
 subst hm
 replace h := h.nK bE
 obtain ⟨way, ch, bR⟩ := c
 dsimp only at *
 by_cases hwe : way = 2
 ·subst hwe
  refine uy ?_
  repeat (first|(refine aq h ?_;clear h;intro kb M h)|(refine au h ?_;clear h;intro M h)|refine St.to h ?_|(apply Exists.intro;(repeat apply Exists.intro);refine And.intro rfl ?_)|refine av ?_|refine ae ?_|refine ai ?_)
  exact k _ h.pE
 replace hc := hc hwe
 obtain ⟨q, rfl⟩ := Int.eq_ofNat_of_zero_le hc.1
 obtain ⟨x, hx⟩ := aP (l := cs) (i := q) (by omega)
 obtain ⟨b, hb⟩ := aP (l := bs) (i := q) (by omega)
 have hxx : dK cs (q : Int) = x := by simp [dK, hx]
 obtain ⟨b0, o0, rfl⟩ := hB.cons.lI h (by omega) (by decide)
 simp only [can, hxx] at k
 refine uy ?_
 repeat (first|(refine aq h ?_;clear h;intro kb M h)|(refine au h ?_;clear h;intro M h)|refine St.to h ?_|(apply Exists.intro;(repeat apply Exists.intro);refine And.intro rfl ?_)|refine av ?_|refine ae ?_|refine ai ?_)
 refine aR.2 ⟨fun e => ?_, fun e => ?_⟩
 ·rw [if_pos e] at k
  repeat (first|(refine aq h ?_;clear h;intro kb M h)|(refine au h ?_;clear h;intro M h)|refine St.to h ?_|(apply Exists.intro;(repeat apply Exists.intro);refine And.intro rfl ?_)|refine av ?_|refine ae ?_|refine ai ?_)
  refine mI (hB.cons.cons.at h (i := q) (j := 0) hb rfl (by simp [l8])) ?_
  replace h := h.c6 bE hb hx
  refine AR h ?_
  repeat (first|(refine aq h ?_;clear h;intro kb M h)|(refine au h ?_;clear h;intro M h)|refine St.to h ?_|(apply Exists.intro;(repeat apply Exists.intro);refine And.intro rfl ?_)|refine av ?_|refine ae ?_|refine ai ?_)
  exact k _ (h.vS bE b hb hx).bV
 rw [if_neg e] at k
 refine aR.2 ⟨fun e => ?_, fun e => ?_⟩
 ·rw [if_pos e] at k
  repeat (first|(refine aq h ?_;clear h;intro kb M h)|(refine au h ?_;clear h;intro M h)|refine St.to h ?_|(apply Exists.intro;(repeat apply Exists.intro);refine And.intro rfl ?_)|refine av ?_|refine ae ?_|refine ai ?_)
  refine mI (hB.cons.cons.at h (i := q) (j := 0) hb rfl (by simp [l8])) ?_
  replace h := h.c6 bE hb hx
  refine AQ h ?_
  repeat (first|(refine aq h ?_;clear h;intro kb M h)|(refine au h ?_;clear h;intro M h)|refine St.to h ?_|(apply Exists.intro;(repeat apply Exists.intro);refine And.intro rfl ?_)|refine av ?_|refine ae ?_|refine ai ?_)
  exact k _ (h.vS bE b hb hx).bV
 ·rw [if_neg e] at k
  exact k _ h.pE
theorem AV {B A : Option Addr} {m cc n ca : Nat} {cases : List ov} (h : Hp R L M) [o : fG bE L bs cs L'] (hB : Src R L' B (hH.cells cases)) (hA : Src R L' A (l8.cells bs)) (hm : m = cases.length) (hn : n = bs.length)
  (hb : cases.length ≤ 1000000000) (hl : bs.length = cs.length) (hok : ∀ c ∈ cases, c.Ok cs.length)
  (k : ∀ A' c' M', Hp R (bO bB 3 A' c' (enabled cases cs) :: bj bE bs cs :: L') M' → K (.slice A' (enabled cases cs).length c') M') :
  aa Tryz.prog 205 #[.slice B m cc, .slice A n ca] M K Kp := by
 subst hm
 replace h := h.nK bE
 refine vT ⟨fun d ws M => ∃ (i : Nat) (X : Option Addr) (cx : Nat), ws = [.slice X (C2 cases cs i).length cx, .int .i64 (i : Int)] ∧ d = cases.length - i ∧ i ≤ cases.length ∧ Hp R (bO bB 3 X cx (C2 cases cs i) :: bj bE bs cs :: L') M, ⟨_, 0, none, 0, rfl, rfl, by omega, h.cz bB _⟩, ?_⟩
 clear h
 rintro d _ X n1 cx ii M ⟨i, _, _, he, hd, hi, h⟩
 simp only [List.cons.injEq, Value.int.injEq, Value.slice.injEq, and_true, true_and] at he
 obtain ⟨⟨rfl, rfl, rfl⟩, rfl⟩ := he
 refine aM.2 ⟨fun hlt => ?_, fun hge => ?_⟩
 ·obtain ⟨c, hc⟩ := aP (l := cases) (i := i) (by omega)
  obtain ⟨b, o, rfl⟩ := hB.cons.cons.lI h (by omega) (by decide)
  repeat (first|(refine aq h ?_;clear h;intro kb M h)|(refine au h ?_;clear h;intro M h)|refine St.to h ?_|(apply Exists.intro;(repeat apply Exists.intro);refine And.intro rfl ?_)|refine av ?_|refine ae ?_|refine ai ?_)
  simp only [Int.toNat_natCast]
  refine aZ (hB.cons.cons.at h (i := i) (j := 0) hc rfl rfl) ?_
  refine aZ (hB.cons.cons.at h (i := i) (j := 1) hc rfl rfl) ?_
  refine aZ (hB.cons.cons.at h (i := i) (j := 2) hc rfl rfl) ?_
  repeat (first|(refine aq h ?_;clear h;intro kb M h)|(refine au h ?_;clear h;intro M h)|refine St.to h ?_|(apply Exists.intro;(repeat apply Exists.intro);refine And.intro rfl ?_)|refine av ?_|refine ae ?_|refine ai ?_)
  have hco := hok c (List.mem_of_getElem? hc)
  obtain ⟨w1, w2, k1⟩ := hco
  refine Kh (c := c) h hA.cons.cons hn hl (fun e => ⟨(k1 e).1, (k1 e).2.1⟩) ⟨w1, w2⟩ ?_
  clear h
  intro M h
  repeat (first|(refine aq h ?_;clear h;intro kb M h)|(refine au h ?_;clear h;intro M h)|refine St.to h ?_|(apply Exists.intro;(repeat apply Exists.intro);refine And.intro rfl ?_)|refine av ?_|refine ae ?_|refine ai ?_)
  have hlen := ED cases cs i
  refine gG.2 ⟨fun hb => ?_, fun hb => ?_⟩
  ·have e := BY (cs := cs) hc
   rw [if_pos hb] at e
   repeat (first|(refine aq h ?_;clear h;intro kb M h)|(refine au h ?_;clear h;intro M h)|refine St.to h ?_|(apply Exists.intro;(repeat apply Exists.intro);refine And.intro rfl ?_)|refine av ?_|refine ae ?_|refine ai ?_)
   refine h.bJ pL [(i : Int)] rfl rfl (by simp; omega) ?_
   clear h
   intro A' c' M h
   repeat (first|(refine aq h ?_;clear h;intro kb M h)|(refine au h ?_;clear h;intro M h)|refine St.to h ?_|(apply Exists.intro;(repeat apply Exists.intro);refine And.intro rfl ?_)|refine av ?_|refine ae ?_|refine ai ?_)
   rw [aV (by omega)]
   rw [← e] at h
   refine ⟨cases.length - (i + 1), by omega, i + 1, A', c', ?_, rfl, by omega, h.bV⟩
   rw [e]
  ·have e := BY (cs := cs) hc
   rw [if_neg (by simp [hb]), List.append_nil] at e
   rw [aV (by omega)]
   refine ⟨cases.length - (i + 1), by omega, i + 1, X, cx, by rw [e], rfl, by omega, ?_⟩
   rw [e]; exact h.sub bD
 ·obtain rfl : i = cases.length := by omega
  exact k _ _ _ h
theorem EF {g : Int} {A : Option Addr} {n ca : Nat} (h : Hp R L M) [o : fG bE L bs cs L'] (hA : Src R L' A (l8.cells bs)) (hn : n = bs.length) (hb : bs.length ≤ 1000000000) (hl : bs.length = cs.length) (hs : ∀ c ∈ cs, c.Small 1000000000)
  (k : ∀ M', Hp R (bj bE bs (cs.map (·.drop g)) :: L') M' → K (.tuple #[]) M') :
  aa Tryz.prog 252 #[.int .i64 g, .slice A n ca] M K Kp := by
 subst hn
 replace h := h.nK bE
 refine yX ⟨fun d ws M => ∃ (i : Nat), ws = [.int .i64 (i : Int)] ∧ d = bs.length - i ∧ i ≤ bs.length ∧ Hp R (bj bE bs ((cs.take i).map (·.drop g) ++ cs.drop i) :: L') M, ⟨_, 0, rfl, rfl, by omega, h⟩, ?_⟩
 clear h
 rintro d _ ii M ⟨i, he, hd, hi, h⟩
 simp only [List.cons.injEq, Value.int.injEq, and_true, true_and] at he
 subst he
 refine aM.2 ⟨fun hlt => ?_, fun hge => ?_⟩
 ·obtain ⟨c, hc⟩ := aP (l := cs) (i := i) (by omega)
  obtain ⟨b, wP⟩ := aP (l := bs) (i := i) (by omega)
  obtain ⟨b0, o0, rfl⟩ := hA.cons.lI h (by omega) (by decide)
  have PG : ((cs.take i).map (·.drop g) ++ cs.drop i)[i]? = some c := by
   rw [List.getElem?_append_right (by simp; omega)]; simp [List.length_take, Nat.min_eq_left (show i ≤ cs.length by omega), hc]
  repeat (first|(refine aq h ?_;clear h;intro kb M h)|(refine au h ?_;clear h;intro M h)|refine St.to h ?_|(apply Exists.intro;(repeat apply Exists.intro);refine And.intro rfl ?_)|refine av ?_|refine ae ?_|refine ai ?_)
  refine mI (hA.cons.at h (i := i) (j := 0) wP rfl (by simp [l8])) ?_
  replace h := h.c6 bE wP PG
  refine GF h (hs c (List.mem_of_getElem? hc)) ?_
  clear h
  intro M h
  repeat (first|(refine aq h ?_;clear h;intro kb M h)|(refine au h ?_;clear h;intro M h)|refine St.to h ?_|(apply Exists.intro;(repeat apply Exists.intro);refine And.intro rfl ?_)|refine av ?_|refine ae ?_|refine ai ?_)
  rw [aV (by omega)]
  refine ⟨bs.length - (i + 1), by omega, i + 1, rfl, rfl, by omega, ?_⟩
  have := (h.dN bE b wP (by simp; omega)).bV (T := L')
  rw [List.set_append_right _ _ (by simp; omega)] at this
  rw [dD hc, List.map_append, List.append_assoc]
  have e : (cs.drop i).set (i - ((cs.take i).map (·.drop g)).length) (c.drop g) = [c.drop g] ++ cs.drop (i + 1) := by
   rw [show i - ((cs.take i).map (·.drop g)).length = 0 from by simp; omega]
   obtain ⟨hi', e'⟩ := List.getElem?_eq_some_iff.1 hc
   rw [List.drop_eq_getElem_cons hi']; rfl
  rw [e] at this
  exact this
 ·obtain rfl : i = bs.length := by omega
  rw [hl, List.take_length, List.drop_length, List.append_nil] at h
  exact k _ h
theorem GK {g : Int} {B A D : Option Addr} {m cc n ca r cr : Nat} {cases : List ov} {fH : List Int} (h : Hp R L M) [o : fG bE L bs cs L'] (hB : Src R L' B (hH.cells cases)) (hA : Src R L' A (l8.cells bs)) (hD : Src R L' D (bB.cells fH))
  (hm : m = cases.length) (hn : n = bs.length) (hr : r = 8) (hr8 : fH.length = 8) (hb : cases.length ≤ 1000000) (hl : bs.length = cs.length) (hok : ∀ c ∈ cases, c.Ok cs.length) (hs : ∀ c ∈ cs, c.Small 1000000)
  (k : ∀ M', Hp R (bj bE bs (dU g fH cases cs cases.length) :: L') M' → K (.tuple #[]) M') :
  aa Tryz.prog 207 #[.int .i64 g, .slice B m cc, .slice D r cr, .slice A n ca] M K Kp := by
 subst hm
 subst hn
 subst hr
 replace h := h.nK bE
 refine AT ⟨fun d ws M => ∃ (i : Nat), ws = [.int .i64 (i : Int)] ∧ d = cases.length - i ∧ i ≤ cases.length ∧ Hp R (bj bE bs (dU g fH cases cs i) :: L') M, ⟨_, 0, rfl, rfl, by omega, h⟩, ?_⟩
 clear h
 rintro d _ ii M ⟨i, he, hd, hi, h⟩
 simp only [List.cons.injEq, Value.int.injEq, and_true, true_and] at he
 subst he
 refine aM.2 ⟨fun hlt => ?_, fun hge => ?_⟩
 ·obtain ⟨c, hc⟩ := aP (l := cases) (i := i) (by omega)
  obtain ⟨w1, w2, kk⟩ := hok c (List.mem_of_getElem? hc)
  obtain ⟨b, o, rfl⟩ := hB.cons.lI h (by omega) (by decide)
  by_cases hwe : c.way = 2
  ·have e : dU g fH cases cs (i + 1) = dU g fH cases cs i := by
    rw [dU, hc]; dsimp only; unfold j9; rw [if_neg (by omega), if_neg (by omega)]
   repeat (first|(refine aq h ?_;clear h;intro kb M h)|(refine au h ?_;clear h;intro M h)|refine St.to h ?_|(apply Exists.intro;(repeat apply Exists.intro);refine And.intro rfl ?_)|refine av ?_|refine ae ?_|refine ai ?_)
   simp only [Int.toNat_natCast]
   refine aZ (hB.cons.at h (i := i) (j := 0) hc rfl rfl) ?_
   refine aZ (hB.cons.at h (i := i) (j := 1) hc rfl rfl) ?_
   refine aZ (hB.cons.at h (i := i) (j := 2) hc rfl rfl) ?_
   repeat (first|(refine aq h ?_;clear h;intro kb M h)|(refine au h ?_;clear h;intro M h)|refine St.to h ?_|(apply Exists.intro;(repeat apply Exists.intro);refine And.intro rfl ?_)|refine av ?_|refine ae ?_|refine ai ?_)
   refine aR.2 ⟨fun e => by omega, fun _ => ?_⟩
   refine aR.2 ⟨fun e => by omega, fun _ => ?_⟩
   rw [aV (by omega)]
   refine ⟨cases.length - (i + 1), by omega, i + 1, rfl, rfl, by omega, ?_⟩
   rw [e]
   exact h.pE
  obtain ⟨k1, k2, k3, k4⟩ := kk hwe
  obtain ⟨b2, o2, rfl⟩ := hA.cons.lI h (by omega) (by decide)
  obtain ⟨b3, o3, rfl⟩ := hD.cons.lI h (by omega) (by decide)
  have hlen := kX g fH cases cs i
  have IA := nL (g := g) (fH := fH) hs hok i
  have e : dU g fH cases cs (i + 1) = j9 g fH i c (dU g fH cases cs i) := by rw [dU, hc]
  generalize hw : dU g fH cases cs i = ws at h hlen IA e
  obtain ⟨way, ch, bR⟩ := c
  dsimp only at k1 k2 k3 k4
  obtain ⟨q, rfl⟩ := Int.eq_ofNat_of_zero_le k1
  obtain ⟨q2, rfl⟩ := Int.eq_ofNat_of_zero_le k3
  obtain ⟨b1, wP⟩ := aP (l := bs) (i := q) (by omega)
  obtain ⟨x, hx⟩ := aP (l := ws) (i := q) (by omega)
  obtain ⟨v, hv⟩ := aP (l := fH) (i := q2) (by omega)
  have hxx : dK ws (q : Int) = x := by simp [dK, hx]
  have hvv : fH.getD q2 0 = v := by simp [hv]
  have hxs := IA x (List.mem_of_getElem? hx)
  simp only [j9, hxx, Int.toNat_natCast, hvv] at e
  repeat (first|(refine aq h ?_;clear h;intro kb M h)|(refine au h ?_;clear h;intro M h)|refine St.to h ?_|(apply Exists.intro;(repeat apply Exists.intro);refine And.intro rfl ?_)|refine av ?_|refine ae ?_|refine ai ?_)
  simp only [Int.toNat_natCast]
  refine aZ (hB.cons.at h (i := i) (j := 0) hc rfl rfl) ?_
  refine aZ (hB.cons.at h (i := i) (j := 1) hc rfl rfl) ?_
  refine aZ (hB.cons.at h (i := i) (j := 2) hc rfl rfl) ?_
  dsimp only
  repeat (first|(refine aq h ?_;clear h;intro kb M h)|(refine au h ?_;clear h;intro M h)|refine St.to h ?_|(apply Exists.intro;(repeat apply Exists.intro);refine And.intro rfl ?_)|refine av ?_|refine ae ?_|refine ai ?_)
  refine aR.2 ⟨fun hw => ?_, fun hw => ?_⟩
  ·rw [if_pos hw] at e
   repeat (first|(refine aq h ?_;clear h;intro kb M h)|(refine au h ?_;clear h;intro M h)|refine St.to h ?_|(apply Exists.intro;(repeat apply Exists.intro);refine And.intro rfl ?_)|refine av ?_|refine ae ?_|refine ai ?_)
   refine mI (hA.cons.cons.at h (i := q) (j := 0) wP rfl (by simp [l8])) ?_
   have Lx := wP
   replace h := h.pick (.there .here)
   replace h := h.c6 bE wP hx
   refine pK (w := ⟨g, i, 0⟩) h (hxs.mono (by omega)) ?_
   clear h
   intro M h
   repeat (first|(refine aq h ?_;clear h;intro kb M h)|(refine au h ?_;clear h;intro M h)|refine St.to h ?_|(apply Exists.intro;(repeat apply Exists.intro);refine And.intro rfl ?_)|refine av ?_|refine ae ?_|refine ai ?_)
   rw [aV (by omega)]
   refine ⟨cases.length - (i + 1), by omega, i + 1, rfl, rfl, by omega, ?_⟩
   rw [e]
   exact (h.dN bE b1 wP (by omega)).bV
  rw [if_neg hw] at e
  refine aR.2 ⟨fun hw => ?_, fun hw => ?_⟩
  ·rw [if_pos hw] at e
   repeat (first|(refine aq h ?_;clear h;intro kb M h)|(refine au h ?_;clear h;intro M h)|refine St.to h ?_|(apply Exists.intro;(repeat apply Exists.intro);refine And.intro rfl ?_)|refine av ?_|refine ae ?_|refine ai ?_)
   refine mI (hA.cons.cons.at h (i := q) (j := 0) wP rfl (by simp [l8])) ?_
   repeat (first|(refine aq h ?_;clear h;intro kb M h)|(refine au h ?_;clear h;intro M h)|refine St.to h ?_|(apply Exists.intro;(repeat apply Exists.intro);refine And.intro rfl ?_)|refine av ?_|refine ae ?_|refine ai ?_)
   refine aZ (hD.cons.cons.at h (i := q2) (j := 0) hv rfl (by simp [bB])) ?_
   replace h := h.pick (.there .here)
   replace h := h.c6 bE wP hx
   refine pJ (w := ⟨g, i, v⟩) h (hxs.mono (by omega)) ?_
   clear h
   intro M h
   repeat (first|(refine aq h ?_;clear h;intro kb M h)|(refine au h ?_;clear h;intro M h)|refine St.to h ?_|(apply Exists.intro;(repeat apply Exists.intro);refine And.intro rfl ?_)|refine av ?_|refine ae ?_|refine ai ?_)
   rw [aV (by omega)]
   refine ⟨cases.length - (i + 1), by omega, i + 1, rfl, rfl, by omega, ?_⟩
   rw [e]
   exact (h.dN bE b1 wP (by omega)).bV
  ·rw [if_neg hw] at e
   rw [aV (by omega)]
   refine ⟨cases.length - (i + 1), by omega, i + 1, rfl, rfl, by omega, ?_⟩
   rw [e]
   exact h.pE
 ·obtain rfl : i = cases.length := by omega
  exact k _ h
end
end Go.Proofs
namespace Go.Proofs
open Go.AF
structure cH where
 op : Int
 a : Int
 b : Int
 c : Int
 deriving DecidableEq
def cH.zero : cH := ⟨0, 0, 0, 0⟩
def jh : iY cH := ⟨4, fun x => [.int .i64 x.op, .int .i64 x.a, .int .i64 x.b, .int .i64 x.c], fun _ => rfl, fun w v hv => by
 simp only [List.mem_cons, List.not_mem_nil, or_false] at hv; obtain rfl | rfl | rfl | rfl := hv <;> rfl⟩
structure gQ where
 fn : Int
 pc : Int
 r : List Int
 qU : Int
 deriving DecidableEq
def gQ.bR (f : gQ) (q : Int) : Int := f.r.getD q.toNat 0
def gQ.set (f : gQ) (q v : Int) : gQ := { f with r := (List.range 8).map fun i => if i = q.toNat then v else f.r.getD i 0 }
def gQ.next (f : gQ) : gQ := { f with pc := f.pc + 1 }
def gQ.begin (fn v : Int) : gQ := ⟨fn, 0, [v, 0, 0, 0, 0, 0, 0, 0], 0⟩
def Yd (f : gQ) : List Value := [.int .i64 f.fn, .int .i64 f.pc, .int .i64 (f.r.getD 0 0), .int .i64 (f.r.getD 1 0), .int .i64 (f.r.getD 2 0), .int .i64 (f.r.getD 3 0), .int .i64 (f.r.getD 4 0), .int .i64 (f.r.getD 5 0), .int .i64 (f.r.getD 6 0), .int .i64 (f.r.getD 7 0), .int .i64 f.qU]
def ke : iY gQ := ⟨11, Yd, fun _ => rfl, fun w v hv => by
 simp only [Yd, List.mem_cons, List.not_mem_nil, or_false] at hv
 obtain rfl | rfl | rfl | rfl | rfl | rfl | rfl | rfl | rfl | rfl | rfl := hv <;> rfl⟩
theorem Ye {q : Int} (h0 : 0 ≤ q) (h8 : q < 8) : q = 0 ∨ q = 1 ∨ q = 2 ∨ q = 3 ∨ q = 4 ∨ q = 5 ∨ q = 6 ∨ q = 7 := by omega
theorem TY {f : gQ} {q : Int} (h0 : 0 ≤ q) (h8 : q < 8) : (ke.f f)[2 + q.toNat]? = some (.int .i64 (f.bR q)) := by
 obtain rfl | rfl | rfl | rfl | rfl | rfl | rfl | rfl := Ye h0 h8 <;> rfl
theorem Qw {f : gQ} {q v : Int} (h0 : 0 ≤ q) (h8 : q < 8) : (ke.f f).set (2 + q.toNat) (.int .i64 v) = ke.f (f.set q v) := by
 obtain rfl | rfl | rfl | rfl | rfl | rfl | rfl | rfl := Ye h0 h8 <;> rfl
theorem TZ {f : gQ} {v : Int} : (ke.f f).set 1 (.int .i64 v) = ke.f { f with pc := v } := rfl
def gQ.pure (f : gQ) (x : cH) : gQ :=
 if x.op = 0 then f
 else if x.op = 1 then f.set x.a x.b
 else if x.op = 2 then f.set x.a (f.bR x.b)
 else if x.op = 3 then f.set x.a (IntKind.wrap .i64 (f.bR x.b + f.bR x.c))
 else if x.op = 4 then f.set x.a (IntKind.wrap .i64 (f.bR x.b - f.bR x.c))
 else if x.op = 5 then f.set x.a (IntKind.wrap .i64 (f.bR x.b * f.bR x.c))
 else if x.op = 6 then f.set x.a (if f.bR x.b < f.bR x.c then 1 else 0)
 else if x.op = 7 then { f with pc := x.a }
 else if f.bR x.a ≠ 0 then { f with pc := x.b } else f
def aU (q : Int) : Prop := 0 ≤ q ∧ q < 8
instance (q : Int) : Decidable (aU q) := by unfold aU; infer_instance
def cH.cv (x : cH) : Prop :=
 (x.op ∈ [1, 8] → aU x.a) ∧ (x.op = 2 → aU x.a ∧ aU x.b) ∧ (x.op ∈ [3, 4, 5, 6] → aU x.a ∧ aU x.b ∧ aU x.c)
instance (x : cH) : Decidable x.cv := by unfold cH.cv; infer_instance
structure jo where
 st : Int
 fs : List gQ
 wt : cH
 deriving DecidableEq
structure Lk where
 owner : Int
 waits : List Int
 deriving DecidableEq
structure bz where
 t : Int
 seq : Int
 id : Int
 deriving DecidableEq
def uA : iY bz := ⟨3, fun x => [.int .u64 x.t, .int .u64 x.seq, .int .i64 x.id], fun _ => rfl, fun w v hv => by
 simp only [List.mem_cons, List.not_mem_nil, or_false] at hv; obtain rfl | rfl | rfl := hv <;> rfl⟩
structure b6 where
 funcs : List (List cH)
 eJ : List Int
 aL : Int
 cases : List ov
structure Wd where
 gs : List jo
 clock : Int
 aD : List aT
 aL : List Lk
 hl : List bz
 mO : Int
 out : List Int
 end_ : Int
 code : Int
 ready : List Int
 deriving DecidableEq
def aj (x : Wd) (g : Int) : jo := x.gs.getD g.toNat ⟨0, [], .zero⟩
def Wd.bu (x : Wd) (g : Int) (y : jo) : Wd := { x with gs := x.gs.set g.toNat y }
def jo.top (y : jo) : gQ := y.fs.getD (y.fs.length - 1) ⟨0, 0, [], 0⟩
def jo.cI (y : jo) (f : gQ) : jo := { y with fs := y.fs.set (y.fs.length - 1) f }
def Wd.bq (x : Wd) (g q v : Int) : Wd := x.bu g ((aj x g).cI ((aj x g).top.set q v))
def Wd.eZ (x : Wd) (g : Int) : Wd := { x.bu g { aj x g with st := 1 } with ready := x.ready ++ [g] }
def Wd.block (x : Wd) (g : Int) (i : cH) : Wd := x.bu g { aj x g with st := 2, wt := i }
def Wd.leave (x : Wd) (g : Int) : Wd := { x with aD := x.aD.map fun c => c.drop g }
def Wd.gz (x : Wd) (g k : Int) : Wd := (x.bq g (aj x g).wt.c k).leave g
def pM (p : b6) (k : Int) : ov := p.cases.getD k.toNat ⟨0, 0, 0⟩
def Wd.received (p : b6) (x : Wd) (v : Wt) (some : Int) : Wd :=
 let i := (aj x v.g).wt
 (if i.op = 16 then ((x.bq v.g (pM p (i.a + v.cs)).bR v.v).gz v.g v.cs)
  else (x.bq v.g i.b v.v).bq v.g i.c some).eZ v.g
def Wd.sent (x : Wd) (v : Wt) : Wd := (if (aj x v.g).wt.op = 16 then x.gz v.g v.cs else x).eZ v.g
inductive Out (α : Type) where
 | on (a : α)
 | eD (code : Int) (x : Wd)
 | cV (l : List PanicEntry) (x : Wd)
def Wd.b9 (x : Wd) (k : Int) (c : aT) : Wd := { x with aD := x.aD.set k.toNat c }
def Wd.put (p : b6) (x : Wd) (k v : Int) : Out (Wd × Bool) :=
 let s := (dK x.aD k).send v
 if s.2.2.2 = 10 then .eD (-1) (x.b9 k s.1)
 else .on ((if s.2.2.1 then (x.b9 k s.1).received p s.2.1 1 else x.b9 k s.1), s.2.2.2 == 0)
def Wd.get (x : Wd) (k : Int) : Wd × Int × Int × Bool :=
 let s := (dK x.aD k).recv
 let y := if s.2.2.2.2.1 then (x.b9 k s.1).sent s.2.2.2.1 else x.b9 k s.1
 if s.2.2.1 then (y, s.2.1, 1, true) else (y, 0, 0, s.2.2.2.2.2 == 0)
def bk (x : Wd) (g : Int) : Prop := 0 ≤ g ∧ g < x.gs.length ∧ 0 < (aj x g).fs.length ∧ (aj x g).fs.length ≤ 1000
instance (x : Wd) (g : Int) : Decidable (bk x g) := by unfold bk; infer_instance
def pN (p : b6) (x : Wd) (v : Wt) : Prop := bk x v.g ∧
 if (aj x v.g).wt.op = 16 then 0 ≤ (aj x v.g).wt.a + v.cs ∧ (aj x v.g).wt.a + v.cs < p.cases.length ∧ p.cases.length ≤ 1000 ∧ aU (pM p ((aj x v.g).wt.a + v.cs)).bR ∧ aU (aj x v.g).wt.c
 else aU (aj x v.g).wt.b ∧ aU (aj x v.g).wt.c
instance (p : b6) (x : Wd) (v : Wt) : Decidable (pN p x v) := by unfold pN; infer_instance
def w6 (x : Wd) (v : Wt) : Prop := bk x v.g ∧ ((aj x v.g).wt.op = 16 → aU (aj x v.g).wt.c)
instance (x : Wd) (v : Wt) : Decidable (w6 x v) := by unfold w6; infer_instance
def Wd.Sm (x : Wd) : Prop := (∀ c ∈ x.aD, c.Small 1000000) ∧ x.aD.length ≤ 1000 ∧ x.gs.length ≤ 1000 ∧ x.ready.length ≤ 1000000 ∧ x.out.length ≤ 1000000 ∧ (∀ l ∈ x.aL, l.waits.length ≤ 1000000) ∧ x.aL.length ≤ 1000 ∧ x.hl.length ≤ 1000000
instance (x : Wd) : Decidable x.Sm := by unfold Wd.Sm; infer_instance
theorem gI {x : Wd} {g : Int} {y : jo} (h0 : 0 ≤ g) (hg : g < x.gs.length) : aj (x.bu g y) g = y := by
 have : g.toNat < x.gs.length := by omega
 simp [aj, Wd.bu, this]
end Go.Proofs
namespace Go.Proofs
open Go.AF
set_option maxRecDepth 100000
variable {M : Mem} {K : Value → Mem → Prop} {Kp : List PanicEntry → Mem → Prop}
theorem sU {B0 : Option Addr} {m0 c0 : Nat} (h :
aO ((m0 : Int) == 0)
 (K (.pointer none) M)
 (((0 : Int) ≤ (IntKind.wrap .i64 ((m0 : Int) - 1))) ∧
 (((IntKind.wrap .i64 ((m0 : Int) - 1)) : Int) < (m0 : Int)) ∧
 aF B0 fun k1 k2 =>
 K (.pointer (some ⟨k1, (k2 + ((Int.toNat (IntKind.wrap .i64 ((m0 : Int) - 1))) * 11)), none⟩)) M)) :
 aa Tryz.prog 189 #[.slice B0 m0 c0] M K Kp := vw [] Tryz.func189 h
theorem oF {b0 o0 : Nat} {x1 : Int} (h :
aO (decide ((x1 : Int) < 0))
 (K (.int .i64 0) M)
 (aB (Mem.ld M ⟨b0, (o0 + 4), none⟩) fun A1 k2 k3 =>
 aO (decide ((x1 : Int) ≥ ((k2 : Nat) : Int)))
  (K (.int .i64 0) M)
  (aB (Mem.ld M ⟨b0, (o0 + 4), none⟩) fun A4 k5 k6 =>
  ((0 : Int) ≤ x1) ∧
  ((x1 : Int) < ((k5 : Nat) : Int)) ∧
  aF A4 fun k7 k8 =>
  cw (Mem.ld M ⟨k7, (k8 + (Int.toNat x1)), none⟩) fun A9 =>
  aF A9 fun gn eO =>
  aJ (Mem.ld M ⟨gn, eO, none⟩) .i64 fun jM =>
  K (.int .i64 jM) M))) :
 aa Tryz.prog 119 ([.pointer (some ⟨b0, o0, none⟩), .int .i64 x1] : List Value).toArray M K Kp :=
 cq (C := Cx) good [] Tryz.func119 (by kernel_rfl) (by kernel_rfl) h
theorem sV {b0 o0 : Nat} (h :
rS M b0 (o0 + 4) fun A1 k2 k3 =>
K (iV (k2 : Int)) M) :
 aa Tryz.prog 73 #[.pointer (some ⟨b0, o0, none⟩)] M K Kp := vw [] Tryz.func73 h
theorem sW {b0 o0 : Nat} (h :
rI M b0 (o0 + 11) fun n1 =>
rI M b0 (o0 + 12) fun n2 =>
K (.tuple #[(iV n1), (iV n2)]) M) :
 aa Tryz.prog 28 #[.pointer (some ⟨b0, o0, none⟩)] M K Kp := vw [(1, .bR [0, 1, 3, 7, 0, 16, 48, 112, 15, 511] (sy [0, 1, 2, 4, 5, 6, 3, 8, 7, 9] .done))] Tryz.func28 h
theorem qV {b0 o0 : Nat} (h :
aJ (Mem.ld M ⟨b0, (o0 + 11), none⟩) .i64 fun n1 =>
aO (n1 != 0)
 (K (.slice none 0 0) M)
 (aJ (Mem.ld M ⟨b0, (o0 + 5), none⟩) .u64 fun n2 =>
 aK M ⟨b0, (o0 + 5), none⟩ (.int .u64 (IntKind.wrap .u64 (n2 + 1))) fun M3 =>
 aK M3 ⟨b0, (o0 + 13), none⟩ (.slice none 0 0) fun M4 =>
 aJ (Mem.ld M4 ⟨b0, (o0 + 5), none⟩) .u64 fun n5 =>
 aa Tryz.prog 157 #[(.pointer (some ⟨b0, (o0 + 8), none⟩)), (.int .u64 n5)] M4 (fun v6 M7 =>
 aB (some v6) fun A8 k9 gn =>
 ∃ I11 : Nat → List Value → Mem → Prop, (∃ gH : Nat, I11 gH [(.int .i64 0)] M7) ∧
 ∀ eN : Nat, ∀ junk14 : Nat → Value, ∀ lq : Int, ∀ fz : Mem, (I11 eN [(.int .i64 lq)] fz) → aO (decide ((lq : Int) < ((k9 : Nat) : Int)))
  (((0 : Int) ≤ lq) ∧
  ((lq : Int) < ((k9 : Nat) : Int)) ∧
  aF A8 fun fB en =>
  aJ (Mem.ld fz ⟨fB, (en + ((Int.toNat lq) * 3)), none⟩) .u64 fun yT =>
  aJ (Mem.ld fz ⟨fB, ((en + ((Int.toNat lq) * 3)) + 1), none⟩) .u64 fun gk =>
  aJ (Mem.ld fz ⟨fB, ((en + ((Int.toNat lq) * 3)) + 2), none⟩) .i64 fun sL =>
  bh fz (.cells #[(.int .u64 0), (.int .u64 0), (.int .i64 0)] 203 (0, 0)) fun gV me =>
  aK me ⟨gV, 0, none⟩ (.int .u64 yT) fun j8 =>
  aK j8 ⟨gV, (0 + 1), none⟩ (.int .u64 gk) fun FT =>
  aK FT ⟨gV, (0 + 2), none⟩ (.int .i64 sL) fun yd =>
  aJ (Mem.ld yd ⟨gV, (0 + 2), none⟩) .i64 fun oG =>
  aa Tryz.prog 158 #[(.pointer (some ⟨b0, o0, none⟩)), (.int .i64 oG)] yd (fun TX mK =>
  (TX = (.tuple #[])) ∧
  ∃ mj : Nat, (mj < eN) ∧
  I11 mj [(.int .i64 (IntKind.wrap .i64 (lq + 1)))] mK) Kp)
  (aB (Mem.ld fz ⟨b0, (o0 + 13), none⟩) fun Yf uv tQ =>
  K (.slice Yf uv tQ) fz)) Kp)) :
 aa Tryz.prog 120 ([.pointer (some ⟨b0, o0, none⟩)] : List Value).toArray M K Kp :=
 cq (C := Cx) good [(5, .bR [0, 1, 3, 0, 8, 24, 56, 127, 255, 0] (.step 0 (.step 1 (.step 2 (.step 3 (.step 4 (.step 5 (.step 9 (.step 6 (.step 7 (.step 8 .done))))))))))), (2000000, .loop [(29, .c (.int .i64))])] Tryz.func120 (by kernel_rfl) (by kernel_rfl) h
theorem yY {x0 : Int} {x1 : Int} (h :
bh M (cl [(iV x0), (iV 0), (iV x1), (iV 0), (iV 0), (iV 0), (iV 0), (iV 0), (iV 0), (iV 0), (iV 0)] 275) fun k1 M2 =>
K (.slice (some ⟨k1, 0, none⟩) 1 1) M2) :
 aa Tryz.prog 112 #[.int .i64 x0, .int .i64 x1] M K Kp := vw [] Tryz.func112 h
theorem C3  (h :
bh M (cl [(iV (-1)), (.slice none 0 0)] 307) fun k1 M2 =>
K (.pointer (some ⟨k1, 0, none⟩)) M2) :
 aa Tryz.prog 114 #[] M K Kp := vw [] Tryz.func114 h
theorem uB {b0 o0 : Nat} {x1 : Int} (h :
∃ I1 : Nat → List Value → Mem → Prop, (∃ k2 : Nat, I1 k2 [(.slice none 0 0)] M) ∧
∀ k3 : Nat, ∀ SI : Nat → Value, ∀ A5 : Option Addr, ∀ k6 : Nat, ∀ k7 : Nat, ∀ M8 : Mem, (I1 k3 [(.slice A5 k6 k7)] M8) → aB (Mem.ld M8 ⟨b0, o0, none⟩) fun A9 gn eO =>
aO (decide ((((gn : Nat) : Int) : Int) > 0))
 (aB (Mem.ld M8 ⟨b0, o0, none⟩) fun Ax eN jJ =>
 ((0 : Int) ≤ 0) ∧
 ((0 : Int) < ((eN : Nat) : Int)) ∧
 aF Ax fun iC fL =>
 aJ (Mem.ld M8 ⟨iC, (fL + 0), none⟩) .u64 fun iW =>
 aO (decide ((iW : Int) ≤ x1))
  (aa Tryz.prog 117 #[(.pointer (some ⟨b0, o0, none⟩)), (.int .i64 0)] M8 (fun Ez jD =>
  ∃ gk : Int, ∃ sL : Int, ∃ wX : Int, (Ez = (.agg #[(.int .u64 gk), (.int .u64 sL), (.int .i64 wX)])) ∧
  bh jD (.cells #[(.int .u64 gk), (.int .u64 sL), (.int .i64 wX)] 203 (0, 0)) fun jq j8 =>
  aY Tryz.prog (Go.Builtin.append_ #[46, 46] 46 #[(.slice A5 k6 k7), (.slice (some ⟨jq, 0, none⟩) 1 1)]) j8 (fun T0 yd =>
  aB (some T0) fun SJ pO iy =>
  ∃ mj : Nat, (mj < k3) ∧
  I1 mj [(.slice SJ pO iy)] yd) Kp) Kp)
  (K (.slice A5 k6 k7) M8))
 (K (.slice A5 k6 k7) M8)) :
 aa Tryz.prog 157 ([.pointer (some ⟨b0, o0, none⟩), .int .u64 x1] : List Value).toArray M K Kp :=
 cq (C := Cx) good [(2000000, .loop [(5, .c .sl)])] Tryz.func157 (by kernel_rfl) (by kernel_rfl) h
theorem qW {b0 o0 : Nat} {x1 : Int} (h :
rS M b0 (o0 + 4) fun A1 k2 k3 =>
((0 : Int) ≤ x1) ∧
((x1 : Int) < k2) ∧
aF A1 fun k4 k5 =>
rP M k4 (k5 + (Int.toNat x1)) fun A6 =>
aF A6 fun k7 k8 =>
sT M k7 k8 (iV 1) fun M9 =>
rS M9 b0 (o0 + 13) fun AO eO gH =>
bh M9 (cl [(iV x1)] 3) fun eN lK =>
aA 36 AO eO gH (some ⟨eN, 0, none⟩) 1 1 lK (fun C1 fz =>
aB (some C1) fun PE en jK =>
sT fz b0 (o0 + 13) (.slice PE en jK) fun vP =>
K (.tuple #[]) vP) Kp) :
 aa Tryz.prog 158 #[.pointer (some ⟨b0, o0, none⟩), .int .i64 x1] M K Kp := vw [] Tryz.func158 h
theorem qX {b0 o0 : Nat} {cK : Int} {cL : Int} {cN : Int} {eE : Int} (h :
bh M (cl [(iV cK), (iV cL), (iV cN), (iV eE)] 27) fun k1 M2 =>
rI M2 k1 0 fun n3 =>
aa Tryz.prog 203 #[] M2 (fun v4 M5 =>
eI M5 k1 0 n3 ∧
aY Tryz.prog (Go.Instr.lookup 361 v4 (iV n3) true) M5 (fun v6 M7 =>
∃ v8 : Value, ∃ t9 : Bool, (v6 = (.tuple #[v8, (.bool t9)])) ∧
eI M7 k1 0 n3 ∧
aO t9
 (rI M7 b0 (o0 + 1) fun jc =>
 sT M7 b0 (o0 + 1) (iV (IntKind.wrap .i64 (jc + 1))) fun jL =>
 bG jL k1 0 fun jM iM mb lq =>
 iF Cx v8 [(.pointer (some ⟨b0, o0, none⟩)), (.agg #[(iV jM), (iV iM), (iV mb), (iV lq)])] jL (fun Nk oE =>
 (Nk = (.tuple #[])) ∧
 K (.bool t9) oE) Kp)
 (K (.bool t9) M7)) Kp) Kp) :
 aa Tryz.prog 190 #[.pointer (some ⟨b0, o0, none⟩), .agg #[.int .i64 cK, .int .i64 cL, .int .i64 cN, .int .i64 eE]] M K Kp := vw [(1, .bR [0, 0, 2, 7, 15, 31, 31, 63, 255] (sy [1] (.dw 2 (sy [0, 3, 4, 5, 6, 7, 8] .done))))] Tryz.func190 h
theorem oH {b0 o0 : Nat} {x1 : Int} {b2 o2 : Nat} {fj : Int} {fk : Int} {fm : Int} {fq : Int} (h :
bh M (cl [(iV fj), (iV fk), (iV fm), (iV fq)] 27) fun k1 M2 =>
bG M2 k1 0 fun n3 n4 n5 n6 =>
aa Tryz.prog 204 #[(.pointer (some ⟨b0, o0, none⟩)), (.agg #[(iV n3), (iV n4), (iV n5), (iV n6)])] M2 (fun v7 M8 =>
aB (some v7) fun A9 gn eO =>
rS M8 b0 (o0 + 6) fun Ax eN jJ =>
aa Tryz.prog 205 #[(.slice A9 gn eO), (.slice Ax eN jJ)] M8 (fun C1 fz =>
aB (some C1) fun PE en jK =>
aO ((en : Int) == 0)
 (rI fz b2 (o2 + 1) fun gk =>
 sT fz b2 (o2 + 1) (iV (IntKind.wrap .i64 (gk + 1))) fun oB =>
 aa Tryz.prog 206 #[(.slice A9 gn eO)] oB (fun Kg me =>
 ∃ BZ : Int, ∃ t25 : Bool, (Kg = (.tuple #[(iV BZ), (.bool t25)])) ∧
 aO t25
 (rI me k1 3 fun ox =>
 (0 ≤ ox) ∧
 (ox < 8) ∧
 sT me b2 ((o2 + 2) + (Int.toNat ox)) (iV BZ) fun wZ =>
 K (.tuple #[]) wZ)
 (((0 : Int) ≤ 8) ∧
 ((8 : Int) ≤ 8) ∧
 ((0 : Int) ≤ 8) ∧
 ((8 : Int) ≤ 8) ∧
 ((0 : Int) ≤ 0) ∧
 ((0 : Int) ≤ 8) ∧
 rS me b0 (o0 + 6) fun Qv iy mj =>
 aa Tryz.prog 207 #[(iV x1), (.slice A9 gn eO), (.slice (lF (some ⟨b2, (o2 + 2), none⟩) 0 8 1) 8 8), (.slice Qv iy mj)] me (fun TU so =>
 (TU = (.tuple #[])) ∧
 bG so k1 0 fun sO T3 LD yZ =>
 aa Tryz.prog 208 #[(.pointer (some ⟨b0, o0, none⟩)), (iV x1), (.agg #[(iV sO), (iV T3), (iV LD), (iV yZ)])] so (fun v37 mh =>
 (v37 = (.tuple #[])) ∧
 K (.tuple #[]) mh) Kp) Kp)) Kp)
 (dZ (Mem.ld fz ⟨b0, (o0 + 14), none⟩) fun v39 =>
 iF Cx v39 [(iV 3), (iV (en : Int))] fz (fun Ki Az =>
 aJ (some Ki) .i64 fun y3 =>
 (0 ≤ y3) ∧
 (y3 < en) ∧
 aF PE fun yQ LB =>
 rI Az yQ (LB + (Int.toNat y3)) fun uC =>
 rI Az b2 (o2 + 1) fun AA =>
 sT Az b2 (o2 + 1) (iV (IntKind.wrap .i64 (AA + 1))) fun w7 =>
 (0 ≤ uC) ∧
 (uC < gn) ∧
 aF A9 fun W6 LF =>
 l9 w7 W6 (LF + ((Int.toNat uC) * 3)) fun Nl GL Yg =>
 bh w7 qE fun sP Qs =>
 Iu Qs sP (iV Nl) (iV GL) (iV Yg) fun MU =>
 rI MU sP 0 fun FP =>
 aO (FP == 1)
 (rI MU sP 1 fun tO =>
 rI MU sP 2 fun MW =>
 (0 ≤ MW) ∧
 (MW < 8) ∧
 rI MU b2 ((o2 + 2) + (Int.toNat MW)) fun Kf =>
 aa Tryz.prog 209 #[(.pointer (some ⟨b0, o0, none⟩)), (iV tO), (iV Kf)] MU (fun T4 CY =>
 de (some T4) fun t64 =>
 rI CY k1 3 fun AP =>
 (0 ≤ AP) ∧
 (AP < 8) ∧
 sT CY b2 ((o2 + 2) + (Int.toNat AP)) (iV uC) fun W7 =>
 K (.tuple #[]) W7) Kp)
 (rI MU sP 1 fun Yh =>
 rI MU sP 2 fun IB =>
 aa Tryz.prog 210 #[(.pointer (some ⟨b0, o0, none⟩)), (iV Yh)] MU (fun v69 IC =>
 ∃ LG Yi : Int, ∃ t73 : Bool, (v69 = (.tuple #[(iV LG), (iV Yi), (.bool t73)])) ∧
 eI IC sP 2 IB ∧
 (0 ≤ IB) ∧
 (IB < 8) ∧
 sT IC b2 ((o2 + 2) + (Int.toNat IB)) (iV LG) fun EG =>
 eI EG sP 2 IB ∧
 rI EG k1 3 fun EA =>
 (0 ≤ EA) ∧
 (EA < 8) ∧
 sT EG b2 ((o2 + 2) + (Int.toNat EA)) (iV uC) fun M76 =>
 K (.tuple #[]) M76) Kp)) Kp)) Kp) Kp) :
 aa Tryz.prog 191 #[.pointer (some ⟨b0, o0, none⟩), .int .i64 x1, .pointer (some ⟨b2, o2, none⟩), .agg #[.int .i64 fj, .int .i64 fk, .int .i64 fm, .int .i64 fq]] M K Kp := vw [(7, .bR [0, 0, 2, 0, 1, 17, 63, 127] (sy [0, 1, 3, 4, 5, 2, 6, 7] .done)), (8, .bR [0, 0, 0, 4, 12, 28, 0, 64, 192, 448, 1023] (sy [0, 1, 2, 3, 4, 5, 6, 7, 8, 9, 10] .done)), (14, .bR [0, 0, 2, 0, 0, 16, 8, 72, 248, 504, 1023] (sy [0, 1, 3, 4, 6, 7, 2, 5, 8, 9, 10] .done)), (15, .bR [0, 0, 2, 0, 0, 16, 56, 120, 248, 248, 248, 1, 2049, 6655, 14847] (sy [0, 1, 3, 4, 11, 12, 5] (.dw 2 (sy [6, 7, 8, 9, 10, 13, 14] .done)))), (16, .bR [0, 0, 2, 0, 1, 17, 63, 127] (sy [0, 1, 3, 4, 5, 2, 6, 7] .done))] Tryz.func191 h
theorem qY {b0 o0 : Nat} {x1 : Int} {b2 o2 : Nat} {fj : Int} {fk : Int} {fm : Int} {fq : Int} (h :
bh M (cl [(iV fj), (iV fk), (iV fm), (iV fq)] 27) fun k1 M2 =>
dZ (Mem.ld M2 ⟨b0, (o0 + 14), none⟩) fun v3 =>
rI M2 k1 2 fun n4 =>
iF Cx v3 [(iV 4), (iV n4)] M2 (fun v5 M6 =>
aJ (some v5) .i64 fun n7 =>
rI M6 b2 (o2 + 1) fun n8 =>
sT M6 b2 (o2 + 1) (iV (IntKind.wrap .i64 (n8 + 1))) fun M9 =>
rI M9 k1 1 fun jc =>
(0 ≤ jc) ∧
(jc < 8) ∧
sT M9 b2 ((o2 + 2) + (Int.toNat jc)) (iV n7) fun jL =>
K (.tuple #[]) jL) Kp) :
 aa Tryz.prog 192 #[.pointer (some ⟨b0, o0, none⟩), .int .i64 x1, .pointer (some ⟨b2, o2, none⟩), .agg #[.int .i64 fj, .int .i64 fk, .int .i64 fm, .int .i64 fq]] M K Kp := vw [(1, .bR [0, 1, 3, 7, 0, 16, 63, 127] (sy [0, 1, 2, 4, 3, 5, 6, 7] .done)), (3, .bR [0, 0, 2, 0, 1, 17, 63, 127] (sy [0, 1, 3, 4, 5, 2, 6, 7] .done))] Tryz.func192 h
theorem y4  (h :
bh M (.map #[] 0) fun k1 M2 =>
bA Tryz.prog (Go.Instr.mapUpdate 345 (.map (some k1)) (iV 9) (.func (.func 211) #[] #[])) M2 (fun M3 =>
bA Tryz.prog (Go.Instr.mapUpdate 345 (.map (some k1)) (iV 10) (.func (.func 212) #[] #[])) M3 (fun M4 =>
bA Tryz.prog (Go.Instr.mapUpdate 345 (.map (some k1)) (iV 11) (.func (.func 213) #[] #[])) M4 (fun M5 =>
bA Tryz.prog (Go.Instr.mapUpdate 345 (.map (some k1)) (iV 12) (.func (.func 214) #[] #[])) M5 (fun M6 =>
bA Tryz.prog (Go.Instr.mapUpdate 345 (.map (some k1)) (iV 13) (.func (.func 215) #[] #[])) M6 (fun M7 =>
bA Tryz.prog (Go.Instr.mapUpdate 345 (.map (some k1)) (iV 14) (.func (.func 216) #[] #[])) M7 (fun M8 =>
bA Tryz.prog (Go.Instr.mapUpdate 345 (.map (some k1)) (iV 15) (.func (.func 217) #[] #[])) M8 (fun M9 =>
bA Tryz.prog (Go.Instr.mapUpdate 345 (.map (some k1)) (iV 17) (.func (.func 218) #[] #[])) M9 (fun iZ =>
bA Tryz.prog (Go.Instr.mapUpdate 345 (.map (some k1)) (iV 18) (.func (.func 219) #[] #[])) iZ (fun jL =>
bA Tryz.prog (Go.Instr.mapUpdate 345 (.map (some k1)) (iV 19) (.func (.func 220) #[] #[])) jL (fun sj =>
bA Tryz.prog (Go.Instr.mapUpdate 345 (.map (some k1)) (iV 20) (.func (.func 221) #[] #[])) sj (fun mL =>
bA Tryz.prog (Go.Instr.mapUpdate 345 (.map (some k1)) (iV 22) (.func (.func 222) #[] #[])) mL (fun lK =>
K (.map (some k1)) lK) Kp) Kp) Kp) Kp) Kp) Kp) Kp) Kp) Kp) Kp) Kp) Kp) :
 aa Tryz.prog 193 #[] M K Kp := vw [] Tryz.func193 h
theorem qZ {b0 o0 : Nat} {x1 : Int} (h :
bh M (.cells #[(.int .u64 0), (.int .u64 0), (.int .i64 0)] 203 (0, 0)) fun k1 M2 =>
aB (Mem.ld M2 ⟨b0, o0, none⟩) fun A3 k4 k5 =>
((0 : Int) ≤ x1) ∧
((x1 : Int) < ((k4 : Nat) : Int)) ∧
aF A3 fun k6 k7 =>
aJ (Mem.ld M2 ⟨k6, (k7 + ((Int.toNat x1) * 3)), none⟩) .u64 fun n8 =>
aJ (Mem.ld M2 ⟨k6, ((k7 + ((Int.toNat x1) * 3)) + 1), none⟩) .u64 fun n9 =>
aJ (Mem.ld M2 ⟨k6, ((k7 + ((Int.toNat x1) * 3)) + 2), none⟩) .i64 fun jc =>
bh M2 (.cells #[(.int .u64 0), (.int .u64 0), (.int .i64 0)] 203 (0, 0)) fun eO sj =>
aK sj ⟨eO, 0, none⟩ (.int .u64 n8) fun mL =>
aK mL ⟨eO, (0 + 1), none⟩ (.int .u64 n9) fun lK =>
aK lK ⟨eO, (0 + 2), none⟩ (.int .i64 jc) fun su =>
aB (Mem.ld su ⟨b0, o0, none⟩) fun W8 fB en =>
aa Tryz.prog 154 #[(.pointer (some ⟨b0, o0, none⟩)), (.int .i64 x1), (.int .i64 (IntKind.wrap .i64 (((fB : Nat) : Int) - 1)))] su (fun T5 vP =>
(T5 = (.tuple #[])) ∧
aB (Mem.ld vP ⟨b0, o0, none⟩) fun C0 gV jq =>
((0 : Int) ≤ ((jq : Nat) : Int)) ∧
((((jq : Nat) : Int) : Int) ≤ ((jq : Nat) : Int)) ∧
((0 : Int) ≤ (IntKind.wrap .i64 (((fB : Nat) : Int) - 1))) ∧
(((IntKind.wrap .i64 (((fB : Nat) : Int) - 1)) : Int) ≤ ((jq : Nat) : Int)) ∧
((0 : Int) ≤ 0) ∧
((0 : Int) ≤ (IntKind.wrap .i64 (((fB : Nat) : Int) - 1))) ∧
aK vP ⟨b0, o0, none⟩ (.slice (lF C0 0 (Int.toNat ((jq : Nat) : Int)) 3) ((Int.toNat (IntKind.wrap .i64 (((fB : Nat) : Int) - 1))) - 0) ((Int.toNat ((jq : Nat) : Int)) - 0)) fun j8 =>
aO (decide ((x1 : Int) < (IntKind.wrap .i64 (((fB : Nat) : Int) - 1))))
 (aa Tryz.prog 155 #[(.pointer (some ⟨b0, o0, none⟩)), (.int .i64 x1)] j8 (fun T0 yd =>
 (T0 = (.tuple #[])) ∧
 aa Tryz.prog 156 #[(.pointer (some ⟨b0, o0, none⟩)), (.int .i64 x1)] yd (fun Qu uq =>
 (Qu = (.tuple #[])) ∧
 aJ (Mem.ld uq ⟨eO, 0, none⟩) .u64 fun yb =>
 aJ (Mem.ld uq ⟨eO, (0 + 1), none⟩) .u64 fun GM =>
 aJ (Mem.ld uq ⟨eO, (0 + 2), none⟩) .i64 fun sk =>
 aK uq ⟨k1, 0, none⟩ (.int .u64 yb) fun so =>
 aK so ⟨k1, (0 + 1), none⟩ (.int .u64 GM) fun Ay =>
 aK Ay ⟨k1, (0 + 2), none⟩ (.int .i64 sk) fun sr =>
 aJ (Mem.ld sr ⟨k1, 0, none⟩) .u64 fun LD =>
 aJ (Mem.ld sr ⟨k1, (0 + 1), none⟩) .u64 fun yZ =>
 aJ (Mem.ld sr ⟨k1, (0 + 2), none⟩) .i64 fun MQ =>
 K (.agg #[(.int .u64 LD), (.int .u64 yZ), (.int .i64 MQ)]) sr) Kp) Kp)
 (aJ (Mem.ld j8 ⟨eO, 0, none⟩) .u64 fun Ka =>
 aJ (Mem.ld j8 ⟨eO, (0 + 1), none⟩) .u64 fun Kb =>
 aJ (Mem.ld j8 ⟨eO, (0 + 2), none⟩) .i64 fun DQ =>
 aK j8 ⟨k1, 0, none⟩ (.int .u64 Ka) fun Az =>
 aK Az ⟨k1, (0 + 1), none⟩ (.int .u64 Kb) fun Qx =>
 aK Qx ⟨k1, (0 + 2), none⟩ (.int .i64 DQ) fun tR =>
 aJ (Mem.ld tR ⟨k1, 0, none⟩) .u64 fun w8 =>
 aJ (Mem.ld tR ⟨k1, (0 + 1), none⟩) .u64 fun uC =>
 aJ (Mem.ld tR ⟨k1, (0 + 2), none⟩) .i64 fun AA =>
 K (.agg #[(.int .u64 w8), (.int .u64 uC), (.int .i64 AA)]) tR)) Kp) :
 aa Tryz.prog 117 ([.pointer (some ⟨b0, o0, none⟩), .int .i64 x1] : List Value).toArray M K Kp :=
 cq (C := Cx) good [] Tryz.func117 (by kernel_rfl) (by kernel_rfl) h
theorem y5  (h :
bh M (.map #[] 0) fun k1 M2 =>
bA Tryz.prog (Go.Instr.mapUpdate 361 (.map (some k1)) (iV 0) (.func (.func 225) #[] #[])) M2 (fun M3 =>
bA Tryz.prog (Go.Instr.mapUpdate 361 (.map (some k1)) (iV 1) (.func (.func 226) #[] #[])) M3 (fun M4 =>
bA Tryz.prog (Go.Instr.mapUpdate 361 (.map (some k1)) (iV 2) (.func (.func 227) #[] #[])) M4 (fun M5 =>
bA Tryz.prog (Go.Instr.mapUpdate 361 (.map (some k1)) (iV 3) (.func (.func 228) #[] #[])) M5 (fun M6 =>
bA Tryz.prog (Go.Instr.mapUpdate 361 (.map (some k1)) (iV 4) (.func (.func 229) #[] #[])) M6 (fun M7 =>
bA Tryz.prog (Go.Instr.mapUpdate 361 (.map (some k1)) (iV 5) (.func (.func 230) #[] #[])) M7 (fun M8 =>
bA Tryz.prog (Go.Instr.mapUpdate 361 (.map (some k1)) (iV 6) (.func (.func 231) #[] #[])) M8 (fun M9 =>
bA Tryz.prog (Go.Instr.mapUpdate 361 (.map (some k1)) (iV 7) (.func (.func 232) #[] #[])) M9 (fun iZ =>
bA Tryz.prog (Go.Instr.mapUpdate 361 (.map (some k1)) (iV 8) (.func (.func 233) #[] #[])) iZ (fun jL =>
K (.map (some k1)) jL) Kp) Kp) Kp) Kp) Kp) Kp) Kp) Kp) Kp) :
 aa Tryz.prog 203 #[] M K Kp := vw [] Tryz.func203 h
theorem pP {b0 o0 : Nat} {cK : Int} {cL : Int} {cN : Int} {eE : Int} (h :
bh M (cl [(iV cK), (iV cL), (iV cN), (iV eE)] 27) fun k1 M2 =>
rS M2 b0 (o0 + 3) fun A3 k4 k5 =>
rI M2 k1 1 fun n6 =>
rI M2 k1 1 fun n7 =>
rI M2 k1 2 fun n8 =>
((0 : Int) ≤ k5) ∧
((k5 : Int) ≤ k5) ∧
((0 : Int) ≤ (IntKind.wrap .i64 (n7 + n8))) ∧
(((IntKind.wrap .i64 (n7 + n8)) : Int) ≤ (k5 : Int)) ∧
(0 ≤ n6) ∧
((n6 : Int) ≤ (IntKind.wrap .i64 (n7 + n8))) ∧
K (.slice (lF A3 (Int.toNat n6) (Int.toNat (k5 : Int)) 3) ((Int.toNat (IntKind.wrap .i64 (n7 + n8))) - (Int.toNat n6)) ((Int.toNat (k5 : Int)) - (Int.toNat n6))) M2) :
 aa Tryz.prog 204 #[.pointer (some ⟨b0, o0, none⟩), .agg #[.int .i64 cK, .int .i64 cL, .int .i64 cN, .int .i64 eE]] M K Kp := vw [(1, .bR [0, 1, 3, 7, 15, 0, 32, 0, 128, 0, 512, 1920, 4095, 8191] (sy [0, 1, 2, 3, 5, 7, 9, 4, 6, 8, 10, 11, 12, 13] .done))] Tryz.func204 h
theorem pQ {b0 o0 : Nat} {x1 : Int} {Nm : Int} {Nn : Int} {No : Int} {Np : Int} (h :
bh M (cl [(iV Nm), (iV Nn), (iV No), (iV Np)] 27) fun k1 M2 =>
rS M2 b0 (o0 + 4) fun A3 k4 k5 =>
((0 : Int) ≤ x1) ∧
((x1 : Int) < k4) ∧
aF A3 fun k6 k7 =>
rP M2 k6 (k7 + (Int.toNat x1)) fun A8 =>
rS M2 b0 (o0 + 4) fun A9 gn eO =>
((0 : Int) ≤ x1) ∧
((x1 : Int) < gn) ∧
aF A9 fun gH eN =>
rP M2 gH (eN + (Int.toNat x1)) fun oX =>
aF A8 fun iC fL =>
bG M2 k1 0 fun iW lA yT gk =>
sT M2 iC fL (iV 2) fun oB =>
((Mem.g9 oB ⟨k1, 0, none⟩ 0 4) = some [(iV iW), (iV lA), (iV yT), (iV gk)]) ∧
aF oX fun gV jq =>
sT oB gV (jq + 2) (iV iW) fun j8 =>
sT j8 gV ((jq + 2) + 1) (iV lA) fun FT =>
sT FT gV ((jq + 2) + 2) (iV yT) fun yd =>
sT yd gV ((jq + 2) + 3) (iV gk) fun wZ =>
((Mem.g9 wZ ⟨k1, 0, none⟩ 0 4) = some [(iV iW), (iV lA), (iV yT), (iV gk)]) ∧
K (.tuple #[]) wZ) :
 aa Tryz.prog 208 #[.pointer (some ⟨b0, o0, none⟩), .int .i64 x1, .agg #[.int .i64 Nm, .int .i64 Nn, .int .i64 No, .int .i64 Np]] M K Kp := vw [(1, .bR [0, 1, 3, 7, 0, 31, 63, 0, 128, 384, 896, 0, 3968, 8064, 0, 16383, 49151, 114687, 262143, 524287, 1048575] (sy [0, 1, 2, 4, 7, 8, 9, 11, 3, 5, 6, 10, 12, 13, 15, 16] (.dw 14 (sy [17, 18, 19, 20] .done))))] Tryz.func208 h
theorem sX {b0 o0 : Nat} {x1 : Int} {x2 : Int} (h :
rS M b0 (o0 + 6) fun A1 k2 k3 =>
((0 : Int) ≤ x1) ∧
((x1 : Int) < k2) ∧
aF A1 fun k4 k5 =>
rP M k4 (k5 + (Int.toNat x1)) fun A6 =>
aa Tryz.prog 237 #[(.pointer A6), (iV x2)] M (fun v7 M8 =>
∃ n9 jc iN : Int, ∃ t12 : Bool, ∃ iM : Int, (v7 = (.tuple #[(.agg #[(iV n9), (iV jc), (iV iN)]), (.bool t12), (iV iM)])) ∧
bh M8 kB fun jJ su =>
Iu su jJ (iV n9) (iV jc) (iV iN) fun sS =>
aO (iM == 10)
 (Kp [{ v := (.iface 340 (iV (-1))), recovered := false }] sS)
 (aO t12
 (rI sS jJ 0 fun yT =>
 rI sS jJ 1 fun gk =>
 rI sS jJ 2 fun sL =>
 aa Tryz.prog 238 #[(.pointer (some ⟨b0, o0, none⟩)), (.agg #[(iV yT), (iV gk), (iV sL)]), (iV 1)] sS (fun Kg me =>
 (Kg = (.tuple #[])) ∧
 K (.bool (iM == 0)) me) Kp)
 (K (.bool (iM == 0)) sS))) Kp) :
 aa Tryz.prog 209 #[.pointer (some ⟨b0, o0, none⟩), .int .i64 x1, .int .i64 x2] M K Kp := vw [] Tryz.func209 h
theorem sY {b0 o0 : Nat} {x1 : Int} (h :
rS M b0 (o0 + 6) fun A1 k2 k3 =>
((0 : Int) ≤ x1) ∧
((x1 : Int) < k2) ∧
aF A1 fun k4 k5 =>
rP M k4 (k5 + (Int.toNat x1)) fun A6 =>
aa Tryz.prog 239 #[(.pointer A6)] M (fun v7 M8 =>
∃ n9 : Int, ∃ t10 : Bool, ∃ iN jM iM : Int, ∃ t14 : Bool, ∃ lq : Int, (v7 = (.tuple #[(.agg #[(iV n9), (.bool t10), (iV iN), (iV jM), (iV iM), (.bool t14)]), (iV lq)])) ∧
bh M8 nE fun fL oE =>
sT6 oE fL (iV n9) (.bool t10) (iV iN) (iV jM) (iV iM) (.bool t14) fun me =>
rB me fL 5 fun t24 =>
aO t24
 (rI me fL 2 fun mN =>
 rI me fL (2 + 1) fun ox =>
 rI me fL (2 + 2) fun oG =>
 aa Tryz.prog 240 #[(.pointer (some ⟨b0, o0, none⟩)), (.agg #[(iV mN), (iV ox), (iV oG)])] me (fun TX mK =>
 (TX = (.tuple #[])) ∧
 rB mK fL 1 fun t30 =>
 aO t30
 (rI mK fL 0 fun sk =>
 K (.tuple #[(iV sk), (iV 1), (.bool true)]) mK)
 (K (.tuple #[(iV 0), (iV 0), (.bool (lq == 0))]) mK)) Kp)
 (rB me fL 1 fun t32 =>
 aO t32
 (rI me fL 0 fun sO =>
 K (.tuple #[(iV sO), (iV 1), (.bool true)]) me)
 (K (.tuple #[(iV 0), (iV 0), (.bool (lq == 0))]) me))) Kp) :
 aa Tryz.prog 210 #[.pointer (some ⟨b0, o0, none⟩), .int .i64 x1] M K Kp := vw [] Tryz.func210 h
theorem rh {b0 o0 : Nat} {x1 : Int} {b2 o2 : Nat} {fj : Int} {fk : Int} {fm : Int} {fq : Int} (h :
bh M (cl [(iV fj), (iV fk), (iV fm), (iV fq)] 27) fun k1 M2 =>
rS M2 b0 (o0 + 4) fun A3 k4 k5 =>
((0 : Int) ≤ x1) ∧
((x1 : Int) < k4) ∧
aF A3 fun k6 k7 =>
rP M2 k6 (k7 + (Int.toNat x1)) fun A8 =>
aF A8 fun k9 gn =>
rS M2 k9 (gn + 1) fun PI gH eN =>
rI M2 k1 1 fun mb =>
rI M2 k1 2 fun lq =>
(0 ≤ lq) ∧
(lq < 8) ∧
rI M2 b2 ((o2 + 2) + (Int.toNat lq)) fun nm =>
rI M2 k1 3 fun iW =>
aa Tryz.prog 241 #[(.slice PI gH eN), (iV mb), (iV nm), (iV iW)] M2 (fun Ez jD =>
∃ Qy : Option Addr, ∃ fM gV : Nat, ∃ t23 : Bool, (Ez = (.tuple #[(.slice Qy fM gV), (.bool t23)])) ∧
aO (!t23)
 (Kp [{ v := (.iface 340 (iV (-4))), recovered := false }] jD)
 (rS jD b0 (o0 + 4) fun PF sN tP =>
 ((0 : Int) ≤ x1) ∧
 ((x1 : Int) < sN) ∧
 aF PF fun Av pO =>
 rP jD Av (pO + (Int.toNat x1)) fun SE =>
 aF SE fun mj nI =>
 sT jD mj (nI + 1) (.slice Qy fM gV) fun so =>
 K (.tuple #[]) so)) Kp) :
 aa Tryz.prog 211 #[.pointer (some ⟨b0, o0, none⟩), .int .i64 x1, .pointer (some ⟨b2, o2, none⟩), .agg #[.int .i64 fj, .int .i64 fk, .int .i64 fm, .int .i64 fq]] M K Kp := vw [(1, .bR [0, 1, 3, 7, 0, 31, 63, 127, 255, 511, 0, 1024, 0, 0, 8192, 4096, 36864, 126976, 258048, 0, 524288, 2097151, 4194303, 8388607, 8388607, 16777215, 67108863] (sy [0, 1, 2, 4, 10, 12, 13, 15, 16, 19, 3, 5, 6, 7, 8, 9, 11, 14, 17, 18, 20, 21, 22, 23, 24, 25, 26] .done))] Tryz.func211 h
theorem ri {b0 o0 : Nat} {x1 : Int} {b2 o2 : Nat} {fj : Int} {fk : Int} {fm : Int} {fq : Int} (h :
bh M (cl [(iV fj), (iV fk), (iV fm), (iV fq)] 27) fun k1 M2 =>
rS M2 b0 (o0 + 4) fun A3 k4 k5 =>
((0 : Int) ≤ x1) ∧
((x1 : Int) < k4) ∧
aF A3 fun k6 k7 =>
rP M2 k6 (k7 + (Int.toNat x1)) fun A8 =>
aF A8 fun k9 gn =>
rS M2 k9 (gn + 1) fun PI gH eN =>
rI M2 k1 1 fun mb =>
(0 ≤ mb) ∧
(mb < 8) ∧
rI M2 b2 ((o2 + 2) + (Int.toNat mb)) fun lq =>
aa Tryz.prog 242 #[(.slice PI gH eN), (iV lq)] M2 (fun Nk oE =>
∃ Kj : Option Addr, ∃ jK lz : Nat, ∃ t21 : Bool, (Nk = (.tuple #[(.slice Kj jK lz), (.bool t21)])) ∧
aO t21
 (rS oE b0 (o0 + 4) fun W9 jq sM =>
 ((0 : Int) ≤ x1) ∧
 ((x1 : Int) < jq) ∧
 aF W9 fun sN tP =>
 rP oE sN (tP + (Int.toNat x1)) fun SJ =>
 aF SJ fun pO iy =>
 sT oE pO (iy + 1) (.slice Kj jK lz) fun ur =>
 K (.tuple #[]) ur)
 (rS oE b0 (o0 + 4) fun Yf uv tQ =>
 ((0 : Int) ≤ x1) ∧
 ((x1 : Int) < uv) ∧
 aF Yf fun oW Aw =>
 rP oE oW (Aw + (Int.toNat x1)) fun SK =>
 aF SK fun jU iD =>
 sT oE jU iD (iV 4) fun SM =>
 aO (x1 == 0)
 (sT SM b0 (o0 + 11) (iV 1) fun T6 =>
 K (.tuple #[]) T6)
 (K (.tuple #[]) SM))) Kp) :
 aa Tryz.prog 212 #[.pointer (some ⟨b0, o0, none⟩), .int .i64 x1, .pointer (some ⟨b2, o2, none⟩), .agg #[.int .i64 fj, .int .i64 fk, .int .i64 fm, .int .i64 fq]] M K Kp := vw [(1, .bR [0, 1, 3, 7, 0, 31, 63, 127, 255, 511, 0, 0, 2048, 1024, 9216, 31744, 64512, 131071, 262143, 524287, 524287, 1048575, 4194303] (sy [0, 1, 2, 4, 10, 11, 13, 14, 3, 5, 6, 7, 8, 9, 12, 15, 16, 17, 18, 19, 20, 21, 22] .done))] Tryz.func212 h
theorem pR {b0 o0 : Nat} {x1 : Int} {b2 o2 : Nat} {fj : Int} {fk : Int} {fm : Int} {fq : Int} (h :
bh M (cl [(iV fj), (iV fk), (iV fm), (iV fq)] 27) fun k1 M2 =>
rS M2 b0 (o0 + 4) fun A3 k4 k5 =>
aO (decide ((k4 : Int) ≥ 100))
 (Kp [{ v := (.iface 340 (iV (-5))), recovered := false }] M2)
 (rS M2 b0 (o0 + 4) fun A6 k7 k8 =>
 ∃ J9 : List Value → Mem → Prop, (rI M2 k1 1 fun jc =>
 rI M2 k1 2 fun iN =>
 (0 ≤ iN) ∧
 (iN < 8) ∧
 rI M2 b2 ((o2 + 2) + (Int.toNat iN)) fun jM =>
 (rS M2 b0 (o0 + 4) fun DN jJ iC =>
 aa Tryz.prog 112 #[(iV jc), (iV jM)] M2 (fun Nk oE =>
 aB (some Nk) fun Kj jK lz =>
 bh oE (cl [(iV 0), (.slice Kj jK lz), (iV 0), (iV 0), (iV 0), (iV 0)] 229) fun fM dP =>
 bh dP (cl [(.pointer (some ⟨fM, 0, none⟩))] 224) fun jq j8 =>
 aA 155 DN jJ iC (some ⟨jq, 0, none⟩) 1 1 j8 (fun T0 yd =>
 aB (some T0) fun SJ pO iy =>
 sT yd b0 (o0 + 4) (.slice SJ pO iy) fun ur =>
 J9 [] ur) Kp) Kp) ∧
 (aa Tryz.prog 112 #[(iV jc), (iV jM)] M2 (fun TU so =>
 aB (some TU) fun Gx oW Aw =>
 rS so b0 (o0 + 4) fun SK jU iD =>
 bh so (cl [(iV 0), (.slice Gx oW Aw), (iV 0), (iV 0), (iV 0), (iV 0)] 229) fun xB T6 =>
 bh T6 (cl [(.pointer (some ⟨xB, 0, none⟩))] 224) fun MR Qx =>
 aA 155 SK jU iD (some ⟨MR, 0, none⟩) 1 1 Qx (fun v43 AW =>
 aB (some v43) fun A45 MS TT =>
 sT AW b0 (o0 + 4) (.slice A45 MS TT) fun MT =>
 J9 [] MT) Kp) Kp) ∧
 True) ∧
 ∀ junk49 : Nat → Value, ∀ xZ : Mem, (J9 [] xZ) → aa Tryz.prog 158 #[(.pointer (some ⟨b0, o0, none⟩)), (iV (k7 : Int))] xZ (fun v51 Yj =>
 (v51 = (.tuple #[])) ∧
 rI Yj k1 3 fun Yk =>
 (0 ≤ Yk) ∧
 (Yk < 8) ∧
 sT Yj b2 ((o2 + 2) + (Int.toNat Yk)) (iV (k7 : Int)) fun Qs =>
 K (.tuple #[]) Qs) Kp)) :
 aa Tryz.prog 213 #[.pointer (some ⟨b0, o0, none⟩), .int .i64 x1, .pointer (some ⟨b2, o2, none⟩), .agg #[.int .i64 fj, .int .i64 fk, .int .i64 fm, .int .i64 fq]] M K Kp := vw [(4, .JS [0, 0, 2, 6, 14, 0, 32, 0, 0, 256, 128, 1152, 3968, 8064, 16352, 32736, 65504, 131040, 262142, 524287, 1048575, 2097151] (sy [0, 1, 2, 3, 5, 7, 8, 10, 11, 6, 9, 12, 13] (.fork 4 (sy [14, 15, 16, 17, 18, 19, 20, 21] .done) (.fork 14 (sy [15, 4, 16, 17, 18, 19, 20, 21] .done) .dead))) []), (6, .bR [0, 0, 2, 0, 1, 17, 63, 127] (sy [0, 1, 3, 4, 5, 2, 6, 7] .done))] Tryz.func213 h
theorem pS {b0 o0 : Nat} {x1 : Int} {b2 o2 : Nat} {fj : Int} {fk : Int} {fm : Int} {fq : Int} (h :
bh M (cl [(iV fj), (iV fk), (iV fm), (iV fq)] 27) fun k1 M2 =>
K (.tuple #[]) M2) :
 aa Tryz.prog 214 #[.pointer (some ⟨b0, o0, none⟩), .int .i64 x1, .pointer (some ⟨b2, o2, none⟩), .agg #[.int .i64 fj, .int .i64 fk, .int .i64 fm, .int .i64 fq]] M K Kp := vw [] Tryz.func214 h
theorem rj {b0 o0 : Nat} {x1 : Int} {b2 o2 : Nat} {fj : Int} {fk : Int} {fm : Int} {fq : Int} (h :
bh M (cl [(iV fj), (iV fk), (iV fm), (iV fq)] 27) fun k1 M2 =>
rI M2 k1 1 fun n3 =>
rI M2 k1 2 fun n4 =>
(0 ≤ n4) ∧
(n4 < 8) ∧
rI M2 b2 ((o2 + 2) + (Int.toNat n4)) fun n5 =>
aa Tryz.prog 209 #[(.pointer (some ⟨b0, o0, none⟩)), (iV n3), (iV n5)] M2 (fun v6 M7 =>
de (some v6) fun t8 =>
aO (!t8)
 (rS M7 b0 (o0 + 6) fun A9 gn eO =>
 rI M7 k1 1 fun jM =>
 (0 ≤ jM) ∧
 (jM < gn) ∧
 aF A9 fun eN jJ =>
 rP M7 eN (jJ + (Int.toNat jM)) fun wW =>
 rI M7 k1 2 fun nm =>
 (0 ≤ nm) ∧
 (nm < 8) ∧
 rI M7 b2 ((o2 + 2) + (Int.toNat nm)) fun iW =>
 aa Tryz.prog 236 #[(.pointer wW), (.agg #[(iV x1), (iV 0), (iV iW)])] M7 (fun Ez jD =>
 (Ez = (.tuple #[])) ∧
 bG jD k1 0 fun gk sL wX oY =>
 aa Tryz.prog 208 #[(.pointer (some ⟨b0, o0, none⟩)), (iV x1), (.agg #[(iV gk), (iV sL), (iV wX), (iV oY)])] jD (fun Yl FT =>
 (Yl = (.tuple #[])) ∧
 K (.tuple #[]) FT) Kp) Kp)
 (K (.tuple #[]) M7)) Kp) :
 aa Tryz.prog 215 #[.pointer (some ⟨b0, o0, none⟩), .int .i64 x1, .pointer (some ⟨b2, o2, none⟩), .agg #[.int .i64 fj, .int .i64 fk, .int .i64 fm, .int .i64 fq]] M K Kp := vw [(1, .bR [0, 0, 2, 0, 0, 16, 8, 72, 248, 504, 1023, 2047] (sy [0, 1, 3, 4, 6, 7, 2, 5, 8, 9, 10, 11] .done)), (2, .bR [0, 1, 3, 7, 0, 16, 63, 127, 0, 0, 0, 1024, 512, 4608, 15872, 32256, 65280, 131071] (sy [0, 1, 2, 4, 8, 9, 10, 12, 13, 3, 5, 6, 7, 11, 14, 15, 16, 17] .done))] Tryz.func215 h
theorem rm {b0 o0 : Nat} {x1 : Int} {b2 o2 : Nat} {fj : Int} {fk : Int} {fm : Int} {fq : Int} (h :
bh M (cl [(iV fj), (iV fk), (iV fm), (iV fq)] 27) fun k1 M2 =>
rI M2 k1 1 fun n3 =>
aa Tryz.prog 210 #[(.pointer (some ⟨b0, o0, none⟩)), (iV n3)] M2 (fun v4 M5 =>
∃ n6 n7 : Int, ∃ t8 : Bool, (v4 = (.tuple #[(iV n6), (iV n7), (.bool t8)])) ∧
aO (!t8)
 (rS M5 b0 (o0 + 6) fun A9 gn eO =>
 rI M5 k1 1 fun jM =>
 (0 ≤ jM) ∧
 (jM < gn) ∧
 aF A9 fun eN jJ =>
 rP M5 eN (jJ + (Int.toNat jM)) fun wW =>
 aa Tryz.prog 235 #[(.pointer wW), (.agg #[(iV x1), (iV 0), (iV 0)])] M5 (fun Nk oE =>
 (Nk = (.tuple #[])) ∧
 bG oE k1 0 fun lA yT gk sL =>
 aa Tryz.prog 208 #[(.pointer (some ⟨b0, o0, none⟩)), (iV x1), (.agg #[(iV lA), (iV yT), (iV gk), (iV sL)])] oE (fun Kg me =>
 (Kg = (.tuple #[])) ∧
 K (.tuple #[]) me) Kp) Kp)
 (rI M5 k1 2 fun BZ =>
 (0 ≤ BZ) ∧
 (BZ < 8) ∧
 rI M5 k1 3 fun mN =>
 sT M5 b2 ((o2 + 2) + (Int.toNat BZ)) (iV n6) fun yd =>
 eI yd k1 3 mN ∧
 (0 ≤ mN) ∧
 (mN < 8) ∧
 sT yd b2 ((o2 + 2) + (Int.toNat mN)) (iV n7) fun wZ =>
 eI wZ k1 3 mN ∧
 K (.tuple #[]) wZ)) Kp) :
 aa Tryz.prog 216 #[.pointer (some ⟨b0, o0, none⟩), .int .i64 x1, .pointer (some ⟨b2, o2, none⟩), .agg #[.int .i64 fj, .int .i64 fk, .int .i64 fm, .int .i64 fq]] M K Kp := vw [(3, .bR [0, 1, 3, 7, 0, 16, 63, 127, 0, 256, 1023] (sy [0, 1, 2, 4, 8, 9, 3, 5, 6, 7, 10] .done)), (5, .bR [0, 0, 2, 0, 0, 16, 0, 0, 1, 257, 839, 1863, 8, 4104, 16383, 32767] (sy [0, 1, 3, 4, 6, 7, 8, 9, 12, 13, 2, 10] (.dw 5 (sy [11, 14, 15] .done))))] Tryz.func216 h
theorem rq {b0 o0 : Nat} {x1 : Int} {b2 o2 : Nat} {fj : Int} {fk : Int} {fm : Int} {fq : Int} (h :
bh M (cl [(iV fj), (iV fk), (iV fm), (iV fq)] 27) fun k1 M2 =>
rS M2 b0 (o0 + 6) fun A3 k4 k5 =>
rI M2 k1 1 fun n6 =>
(0 ≤ n6) ∧
(n6 < k4) ∧
aF A3 fun k7 k8 =>
rP M2 k7 (k8 + (Int.toNat n6)) fun A9 =>
aa Tryz.prog 243 #[(.pointer A9)] M2 (fun v10 jL =>
∃ Ax : Option Addr, ∃ eN jJ : Nat, ∃ wW : Option Addr, ∃ fL fB : Nat, ∃ lA : Int, (v10 = (.tuple #[(.slice Ax eN jJ), (.slice wW fL fB), (iV lA)])) ∧
aO (lA != 0)
 (Kp [{ v := (.iface 340 (iV (-2))), recovered := false }] jL)
 (aO (decide ((fL : Int) > 0))
 (Kp [{ v := (.iface 340 (iV (-1))), recovered := false }] jL)
 (∃ I19 : IT, (∃ lz, I19 lz [(iV 0)] jL) ∧
 ∀ (fM : Nat) (_ : Nat → Value) (oY : Int) (j8 : Mem), (I19 fM [(iV oY)] j8) → aO (decide (oY < eN))
 ((0 ≤ oY) ∧
 (oY < eN) ∧
 aF Ax fun sN tP =>
 l9 j8 sN (tP + ((Int.toNat oY) * 3)) fun oG wY yb =>
 bh j8 kB fun mj T7 =>
 Iu T7 mj (iV oG) (iV wY) (iV yb) fun sr =>
 rS sr b0 (o0 + 4) fun A35 Ng jU =>
 rI sr mj 0 fun Ka =>
 (0 ≤ Ka) ∧
 (Ka < Ng) ∧
 aF A35 fun xB FQ =>
 rP sr xB (FQ + (Int.toNat Ka)) fun Ym =>
 aF Ym fun Qq yQ =>
 rI sr Qq yQ fun w8 =>
 aO (w8 == 2)
 (sT sr mj 2 (iV 0) fun tS =>
 l9 tS mj 0 fun AA sq Kk =>
 aa Tryz.prog 238 #[(.pointer (some ⟨b0, o0, none⟩)), (.agg #[(iV AA), (iV sq), (iV Kk)]), (iV 0)] tS (fun Kd xZ =>
 (Kd = (.tuple #[])) ∧
 ∃ ID : Nat, (ID < fM) ∧
 I19 ID [(iV (IntKind.wrap .i64 (oY + 1)))] xZ) Kp)
 (∃ qG : Nat, (qG < fM) ∧
 I19 qG [(iV (IntKind.wrap .i64 (oY + 1)))] sr))
 (K (.tuple #[]) j8)))) Kp) :
 aa Tryz.prog 217 #[.pointer (some ⟨b0, o0, none⟩), .int .i64 x1, .pointer (some ⟨b2, o2, none⟩), .agg #[.int .i64 fj, .int .i64 fk, .int .i64 fm, .int .i64 fq]] M K Kp := vw [(1, .bR [0, 1, 3, 7, 0, 16, 63, 127, 255, 511, 1023, 1023, 1023, 2047, 12287, 32767] (sy [0, 1, 2, 4, 3, 5, 6, 7, 8, 9, 10, 11, 12, 13, 14, 15] .done)), (2000001, .loop [(37, .c (.int .i64))]), (9, .bR [0, 1, 3, 7, 0, 16, 63, 127, 255, 511, 1023, 2047] (sy [0, 1, 2, 4, 3, 5, 6, 7, 8, 9, 10, 11] .done))] Tryz.func217 h
theorem pT {b0 o0 : Nat} {x1 : Int} {b2 o2 : Nat} {fj : Int} {fk : Int} {fm : Int} {fq : Int} (h :
bh M (cl [(iV fj), (iV fk), (iV fm), (iV fq)] 27) fun k1 M2 =>
rI M2 k1 1 fun n3 =>
(0 ≤ n3) ∧
(n3 < 8) ∧
rI M2 b2 ((o2 + 2) + (Int.toNat n3)) fun n4 =>
aO (decide (((if (1048576 : Int) < n4 then 1048576 else n4) : Int) > 0))
 (rU M2 b0 (o0 + 5) fun n5 =>
 aa Tryz.prog 244 #[(.pointer (some ⟨b0, (o0 + 8), none⟩)), (.int .u64 (IntKind.wrap .u64 (n5 + (IntKind.wrap .u64 (if (1048576 : Int) < n4 then 1048576 else n4))))), (iV x1)] M2 (fun v6 M7 =>
 aJ (some v6) .u64 fun n8 =>
 rS M7 b0 (o0 + 4) fun A9 gn eO =>
 ((0 : Int) ≤ x1) ∧
 ((x1 : Int) < gn) ∧
 aF A9 fun gH eN =>
 rP M7 gH (eN + (Int.toNat x1)) fun oX =>
 aF oX fun iC fL =>
 sT M7 iC fL (iV 3) fun oE =>
 K (.tuple #[]) oE) Kp)
 (K (.tuple #[]) M2)) :
 aa Tryz.prog 218 #[.pointer (some ⟨b0, o0, none⟩), .int .i64 x1, .pointer (some ⟨b2, o2, none⟩), .agg #[.int .i64 fj, .int .i64 fk, .int .i64 fm, .int .i64 fq]] M K Kp := vw [(1, .bR [0, 0, 2, 1, 9, 31, 63, 127, 255] (sy [0, 1, 3, 4, 2, 5, 6, 7, 8] .done)), (3, .bR [0, 1, 3, 0, 8, 24, 56, 0, 128, 504, 0, 2047] (sy [0, 1, 2, 3, 4, 5, 7, 8, 10, 6, 9, 11] .done))] Tryz.func218 h
theorem ru {b0 o0 : Nat} {x1 : Int} {b2 o2 : Nat} {fj : Int} {fk : Int} {fm : Int} {fq : Int} (h :
bh M (cl [(iV fj), (iV fk), (iV fm), (iV fq)] 27) fun k1 M2 =>
rS M2 b0 (o0 + 7) fun A3 k4 k5 =>
rI M2 k1 1 fun n6 =>
(0 ≤ n6) ∧
(n6 < k4) ∧
aF A3 fun k7 k8 =>
rP M2 k7 (k8 + (Int.toNat n6)) fun A9 =>
aa Tryz.prog 245 #[(.pointer A9), (iV x1)] M2 (fun v10 jL =>
de (some v10) fun t12 =>
aO (!t12)
 (rI jL k1 0 fun iM =>
 rI jL k1 1 fun mb =>
 rI jL k1 2 fun lq =>
 rI jL k1 3 fun nm =>
 aa Tryz.prog 208 #[(.pointer (some ⟨b0, o0, none⟩)), (iV x1), (.agg #[(iV iM), (iV mb), (iV lq), (iV nm)])] jL (fun Qz sS =>
 (Qz = (.tuple #[])) ∧
 K (.tuple #[]) sS) Kp)
 (K (.tuple #[]) jL)) Kp) :
 aa Tryz.prog 219 #[.pointer (some ⟨b0, o0, none⟩), .int .i64 x1, .pointer (some ⟨b2, o2, none⟩), .agg #[.int .i64 fj, .int .i64 fk, .int .i64 fm, .int .i64 fq]] M K Kp := vw [(1, .bR [0, 1, 3, 7, 0, 16, 63, 127, 0, 511, 1023] (sy [0, 1, 2, 4, 8, 3, 5, 6, 7, 9, 10] .done))] Tryz.func219 h
theorem oI {b0 o0 : Nat} {x1 : Int} {b2 o2 : Nat} {fj : Int} {fk : Int} {fm : Int} {fq : Int} (h :
bh M (cl [(iV fj), (iV fk), (iV fm), (iV fq)] 27) fun k1 M2 =>
rS M2 b0 (o0 + 7) fun A3 k4 k5 =>
rI M2 k1 1 fun n6 =>
(0 ≤ n6) ∧
(n6 < k4) ∧
aF A3 fun k7 k8 =>
rP M2 k7 (k8 + (Int.toNat n6)) fun A9 =>
aa Tryz.prog 246 #[(.pointer A9), (iV x1)] M2 (fun v10 jL =>
∃ jM iM : Int, (v10 = (.tuple #[(iV jM), (iV iM)])) ∧
aO (iM != 0)
 (Kp [{ v := (.iface 340 (iV (-3))), recovered := false }] jL)
 (aO (jM != (-1))
 (aa Tryz.prog 158 #[(.pointer (some ⟨b0, o0, none⟩)), (iV jM)] jL (fun Yn su =>
 (Yn = (.tuple #[])) ∧
 K (.tuple #[]) su) Kp)
 (K (.tuple #[]) jL))) Kp) :
 aa Tryz.prog 220 #[.pointer (some ⟨b0, o0, none⟩), .int .i64 x1, .pointer (some ⟨b2, o2, none⟩), .agg #[.int .i64 fj, .int .i64 fk, .int .i64 fm, .int .i64 fq]] M K Kp := vw [(1, .bR [0, 1, 3, 7, 0, 16, 63, 127, 0, 511, 1023, 2047, 2047, 4095, 16383] (sy [0, 1, 2, 4, 8, 3, 5, 6, 7, 9, 10, 11, 12, 13, 14] .done))] Tryz.func220 h
theorem ry {b0 o0 : Nat} {x1 : Int} {b2 o2 : Nat} {fj : Int} {fk : Int} {fm : Int} {fq : Int} (h :
bh M (cl [(iV fj), (iV fk), (iV fm), (iV fq)] 27) fun k1 M2 =>
rS M2 b0 (o0 + 10) fun A3 k4 k5 =>
aO (decide ((k4 : Int) ≥ 1000))
 (Kp [{ v := (.iface 340 (iV (-6))), recovered := false }] M2)
 (rS M2 b0 (o0 + 10) fun A6 k7 k8 =>
 rI M2 k1 1 fun n9 =>
 (0 ≤ n9) ∧
 (n9 < 8) ∧
 rI M2 b2 ((o2 + 2) + (Int.toNat n9)) fun jc =>
 bh M2 (cl [(iV jc)] 2) fun eO sj =>
 aA 53 A6 k7 k8 (some ⟨eO, 0, none⟩) 1 1 sj (fun Lz lK =>
 aB (some Lz) fun wW fL fB =>
 sT lK b0 (o0 + 10) (.slice wW fL fB) fun sS =>
 K (.tuple #[]) sS) Kp)) :
 aa Tryz.prog 221 #[.pointer (some ⟨b0, o0, none⟩), .int .i64 x1, .pointer (some ⟨b2, o2, none⟩), .agg #[.int .i64 fj, .int .i64 fk, .int .i64 fm, .int .i64 fq]] M K Kp := vw [(3, .bR [0, 0, 2, 6, 14, 0, 0, 64, 32, 288, 992, 2016, 4064, 8190, 16383, 32767, 65535] (sy [0, 1, 2, 3, 5, 6, 8, 9, 4, 7, 10, 11, 12, 13, 14, 15, 16] .done))] Tryz.func221 h
theorem rz {b0 o0 : Nat} {x1 : Int} {b2 o2 : Nat} {fj : Int} {fk : Int} {fm : Int} {fq : Int} (h :
bh M (cl [(iV fj), (iV fk), (iV fm), (iV fq)] 27) fun k1 M2 =>
rI M2 k1 1 fun n3 =>
Kp [{ v := (.iface 340 (iV n3)), recovered := false }] M2) :
 aa Tryz.prog 222 #[.pointer (some ⟨b0, o0, none⟩), .int .i64 x1, .pointer (some ⟨b2, o2, none⟩), .agg #[.int .i64 fj, .int .i64 fk, .int .i64 fm, .int .i64 fq]] M K Kp := vw [] Tryz.func222 h
theorem uD {b0 o0 : Nat} {x1 : Int} {x2 : Int} (h :
aB (Mem.ld M ⟨b0, o0, none⟩) fun A1 k2 k3 =>
aB (Mem.ld M ⟨b0, o0, none⟩) fun A4 k5 k6 =>
aB (Mem.ld M ⟨b0, o0, none⟩) fun A7 k8 k9 =>
((0 : Int) ≤ x2) ∧
((x2 : Int) < ((k8 : Nat) : Int)) ∧
aF A7 fun gn eO =>
aJ (Mem.ld M ⟨gn, (eO + ((Int.toNat x2) * 3)), none⟩) .u64 fun jM =>
aJ (Mem.ld M ⟨gn, ((eO + ((Int.toNat x2) * 3)) + 1), none⟩) .u64 fun iM =>
aJ (Mem.ld M ⟨gn, ((eO + ((Int.toNat x2) * 3)) + 2), none⟩) .i64 fun mb =>
aB (Mem.ld M ⟨b0, o0, none⟩) fun wW fL fB =>
((0 : Int) ≤ x1) ∧
((x1 : Int) < ((fL : Nat) : Int)) ∧
aF wW fun en jK =>
aJ (Mem.ld M ⟨en, (jK + ((Int.toNat x1) * 3)), none⟩) .u64 fun gk =>
aJ (Mem.ld M ⟨en, ((jK + ((Int.toNat x1) * 3)) + 1), none⟩) .u64 fun sL =>
aJ (Mem.ld M ⟨en, ((jK + ((Int.toNat x1) * 3)) + 2), none⟩) .i64 fun wX =>
((0 : Int) ≤ x1) ∧
((x1 : Int) < ((k2 : Nat) : Int)) ∧
aF A1 fun jq sM =>
aK M ⟨jq, (sM + ((Int.toNat x1) * 3)), none⟩ (.int .u64 jM) fun FT =>
aK FT ⟨jq, ((sM + ((Int.toNat x1) * 3)) + 1), none⟩ (.int .u64 iM) fun yd =>
aK yd ⟨jq, ((sM + ((Int.toNat x1) * 3)) + 2), none⟩ (.int .i64 mb) fun wZ =>
((0 : Int) ≤ x2) ∧
((x2 : Int) < ((k5 : Nat) : Int)) ∧
aF A4 fun pO iy =>
aK wZ ⟨pO, (iy + ((Int.toNat x2) * 3)), none⟩ (.int .u64 gk) fun ur =>
aK ur ⟨pO, ((iy + ((Int.toNat x2) * 3)) + 1), none⟩ (.int .u64 sL) fun T7 =>
aK T7 ⟨pO, ((iy + ((Int.toNat x2) * 3)) + 2), none⟩ (.int .i64 wX) fun so =>
K (.tuple #[]) so) :
 aa Tryz.prog 154 ([.pointer (some ⟨b0, o0, none⟩), .int .i64 x1, .int .i64 x2] : List Value).toArray M K Kp :=
 cq (C := Cx) good [(0, .bR [0, 1, 3, 7, 0, 0, 32, 96, 224, 0, 0, 1024, 3072, 7168, 0, 31744, 64512, 0, 131072, 393216, 917504, 0, 4063232, 8257536, 16776703, 33553919, 67108863, 134217727] (.step 0 (.step 1 (.step 2 (.step 4 (.step 5 (.step 6 (.step 7 (.step 9 (.step 10 (.step 11 (.step 12 (.step 14 (.step 17 (.step 18 (.step 19 (.step 21 (.step 3 (.step 8 (.step 13 (.step 15 (.step 16 (.step 20 (.step 22 (.step 23 (.step 24 (.step 25 (.step 26 (.step 27 .done)))))))))))))))))))))))))))))] Tryz.func154 (by kernel_rfl) (by kernel_rfl) h
theorem uE {b0 o0 : Nat} {x1 : Int} (h :
aa Tryz.prog 186 #[(.pointer (some ⟨b0, o0, none⟩)), (iV x1)] M (fun v1 M2 =>
aJ (some v1) .i64 fun n3 =>
∃ I4 : IT, (∃ k5, I4 k5 [(iV x1), (iV n3)] M2) ∧
∀ (k6 : Nat) (_ : Nat → Value) (n8 : Int) (n9 : Int) (iZ : Mem), (I4 k6 [(iV n8), (iV n9)] iZ) → aO (n9 != n8)
 (aa Tryz.prog 154 #[(.pointer (some ⟨b0, o0, none⟩)), (iV n8), (iV n9)] iZ (fun v11 sj =>
 (v11 = (.tuple #[])) ∧
 aa Tryz.prog 186 #[(.pointer (some ⟨b0, o0, none⟩)), (iV n9)] sj (fun Lz lK =>
 aJ (some Lz) .i64 fun lq =>
 ∃ fL : Nat, (fL < k6) ∧
 I4 fL [(iV n9), (iV lq)] lK) Kp) Kp)
 (K (.tuple #[]) iZ)) Kp) :
 aa Tryz.prog 155 #[.pointer (some ⟨b0, o0, none⟩), .int .i64 x1] M K Kp := vw [(2000000, .loop [(1, .c (.int .i64)), (4, .c (.int .i64))])] Tryz.func155 h
theorem xC {b0 o0 : Nat} {x1 : Int} (h :
∃ I1 : Nat → List Value → Mem → Prop, (∃ k2 : Nat, I1 k2 [(.int .i64 x1)] M) ∧
∀ k3 : Nat, ∀ SI : Nat → Value, ∀ n5 : Int, ∀ M6 : Mem, (I1 k3 [(.int .i64 n5)] M6) → aO (decide ((n5 : Int) > 0))
 (((4 : Int) ≠ 0) ∧
 aB (Mem.ld M6 ⟨b0, o0, none⟩) fun A7 k8 k9 =>
 ((0 : Int) ≤ n5) ∧
 ((n5 : Int) < ((k8 : Nat) : Int)) ∧
 aF A7 fun gn eO =>
 aJ (Mem.ld M6 ⟨gn, (eO + ((Int.toNat n5) * 3)), none⟩) .u64 fun jM =>
 aJ (Mem.ld M6 ⟨gn, ((eO + ((Int.toNat n5) * 3)) + 1), none⟩) .u64 fun iM =>
 aJ (Mem.ld M6 ⟨gn, ((eO + ((Int.toNat n5) * 3)) + 2), none⟩) .i64 fun mb =>
 aB (Mem.ld M6 ⟨b0, o0, none⟩) fun wW fL fB =>
 ((0 : Int) ≤ (IntKind.wrap .i64 (Int.tdiv (IntKind.wrap .i64 (n5 - 1)) 4))) ∧
 (((IntKind.wrap .i64 (Int.tdiv (IntKind.wrap .i64 (n5 - 1)) 4)) : Int) < ((fL : Nat) : Int)) ∧
 aF wW fun en jK =>
 aJ (Mem.ld M6 ⟨en, (jK + ((Int.toNat (IntKind.wrap .i64 (Int.tdiv (IntKind.wrap .i64 (n5 - 1)) 4))) * 3)), none⟩) .u64 fun gk =>
 aJ (Mem.ld M6 ⟨en, ((jK + ((Int.toNat (IntKind.wrap .i64 (Int.tdiv (IntKind.wrap .i64 (n5 - 1)) 4))) * 3)) + 1), none⟩) .u64 fun sL =>
 aJ (Mem.ld M6 ⟨en, ((jK + ((Int.toNat (IntKind.wrap .i64 (Int.tdiv (IntKind.wrap .i64 (n5 - 1)) 4))) * 3)) + 2), none⟩) .i64 fun wX =>
 aa Tryz.prog 187 #[(.agg #[(.int .u64 jM), (.int .u64 iM), (.int .i64 mb)]), (.agg #[(.int .u64 gk), (.int .u64 sL), (.int .i64 wX)])] M6 (fun Yc j8 =>
 de (some Yc) fun t25 =>
 aO t25
  (((4 : Int) ≠ 0) ∧
  aa Tryz.prog 154 #[(.pointer (some ⟨b0, o0, none⟩)), (.int .i64 n5), (.int .i64 (IntKind.wrap .i64 (Int.tdiv (IntKind.wrap .i64 (n5 - 1)) 4)))] j8 (fun TW wZ =>
  (TW = (.tuple #[])) ∧
  ((4 : Int) ≠ 0) ∧
  ∃ pO : Nat, (pO < k3) ∧
  I1 pO [(.int .i64 (IntKind.wrap .i64 (Int.tdiv (IntKind.wrap .i64 (n5 - 1)) 4)))] wZ) Kp)
  (K (.tuple #[]) j8)) Kp)
 (K (.tuple #[]) M6)) :
 aa Tryz.prog 156 ([.pointer (some ⟨b0, o0, none⟩), .int .i64 x1] : List Value).toArray M K Kp :=
 cq (C := Cx) good [(2000000, .loop [(1, .c (.int .i64))]), (0, .bR [0, 1, 3, 7, 15, 31, 63, 7, 255, 511, 7, 1031, 3079, 7175, 7, 16391, 49159, 130055, 261127, 524287, 1048575] (.step 0 (.step 1 (.step 2 (.step 3 (.step 4 (.step 5 (.step 7 (.step 10 (.step 11 (.step 12 (.step 14 (.step 15 (.step 16 (.step 6 (.step 8 (.step 9 (.step 13 (.step 17 (.step 18 (.step 19 (.step 20 .done))))))))))))))))))))))] Tryz.func156 (by kernel_rfl) (by kernel_rfl) h
theorem sZ {b0 o0 : Nat} {cK : Int} {cL : Int} {cN : Int} {eE : Int} (h :
bh M (cl [(iV cK), (iV cL), (iV cN), (iV eE)] 27) fun k1 M2 =>
K (.tuple #[]) M2) :
 aa Tryz.prog 225 #[.pointer (some ⟨b0, o0, none⟩), .agg #[.int .i64 cK, .int .i64 cL, .int .i64 cN, .int .i64 eE]] M K Kp := vw [] Tryz.func225 h
theorem mP {b0 o0 : Nat} {cK : Int} {cL : Int} {cN : Int} {eE : Int} (h :
bh M (cl [(iV cK), (iV cL), (iV cN), (iV eE)] 27) fun k1 M2 =>
rI M2 k1 1 fun n3 =>
rI M2 k1 2 fun n4 =>
(0 ≤ n3) ∧
(n3 < 8) ∧
sT M2 b0 ((o0 + 2) + (Int.toNat n3)) (iV n4) fun M5 =>
K (.tuple #[]) M5) :
 aa Tryz.prog 226 #[.pointer (some ⟨b0, o0, none⟩), .agg #[.int .i64 cK, .int .i64 cL, .int .i64 cN, .int .i64 eE]] M K Kp := vw [(1, .bR [0, 0, 2, 0, 8, 1, 33, 127, 255] (sy [0, 1, 3, 5, 6, 2, 4, 7, 8] .done))] Tryz.func226 h
theorem rD {b0 o0 : Nat} {cK : Int} {cL : Int} {cN : Int} {eE : Int} (h :
bh M (cl [(iV cK), (iV cL), (iV cN), (iV eE)] 27) fun k1 M2 =>
rI M2 k1 1 fun n3 =>
rI M2 k1 2 fun n4 =>
(0 ≤ n4) ∧
(n4 < 8) ∧
rI M2 b0 ((o0 + 2) + (Int.toNat n4)) fun n5 =>
(0 ≤ n3) ∧
(n3 < 8) ∧
sT M2 b0 ((o0 + 2) + (Int.toNat n3)) (iV n5) fun M6 =>
K (.tuple #[]) M6) :
 aa Tryz.prog 227 #[.pointer (some ⟨b0, o0, none⟩), .agg #[.int .i64 cK, .int .i64 cL, .int .i64 cN, .int .i64 eE]] M K Kp := vw [(1, .bR [0, 0, 2, 0, 0, 16, 8, 72, 248, 504, 1, 1025, 4095, 8191] (sy [0, 1, 3, 4, 6, 7, 10, 11, 2, 5, 8, 9, 12, 13] .done))] Tryz.func227 h
theorem s9 {b0 o0 : Nat} {cK : Int} {cL : Int} {cN : Int} {eE : Int} (h :
bh M (cl [(iV cK), (iV cL), (iV cN), (iV eE)] 27) fun k1 M2 =>
rI M2 k1 1 fun n3 =>
rI M2 k1 2 fun n4 =>
(0 ≤ n4) ∧
(n4 < 8) ∧
rI M2 b0 ((o0 + 2) + (Int.toNat n4)) fun n5 =>
rI M2 k1 3 fun n6 =>
(0 ≤ n6) ∧
(n6 < 8) ∧
rI M2 b0 ((o0 + 2) + (Int.toNat n6)) fun n7 =>
(0 ≤ n3) ∧
(n3 < 8) ∧
sT M2 b0 ((o0 + 2) + (Int.toNat n3)) (iV (IntKind.wrap .i64 (n5 + n7))) fun M8 =>
K (.tuple #[]) M8) :
 aa Tryz.prog 228 #[.pointer (some ⟨b0, o0, none⟩), .agg #[.int .i64 cK, .int .i64 cL, .int .i64 cN, .int .i64 eE]] M K Kp := vw [(1, .bR [0, 0, 2, 0, 0, 16, 8, 72, 248, 504, 0, 0, 2048, 1024, 9216, 31744, 64512, 131064, 1, 262145, 1048575, 2097151] (sy [0, 1, 3, 4, 6, 7, 10, 11, 13, 14, 18, 19, 2, 5, 8, 9, 12, 15, 16, 17, 20, 21] .done))] Tryz.func228 h
theorem td {b0 o0 : Nat} {cK : Int} {cL : Int} {cN : Int} {eE : Int} (h :
bh M (cl [(iV cK), (iV cL), (iV cN), (iV eE)] 27) fun k1 M2 =>
rI M2 k1 1 fun n3 =>
rI M2 k1 2 fun n4 =>
(0 ≤ n4) ∧
(n4 < 8) ∧
rI M2 b0 ((o0 + 2) + (Int.toNat n4)) fun n5 =>
rI M2 k1 3 fun n6 =>
(0 ≤ n6) ∧
(n6 < 8) ∧
rI M2 b0 ((o0 + 2) + (Int.toNat n6)) fun n7 =>
(0 ≤ n3) ∧
(n3 < 8) ∧
sT M2 b0 ((o0 + 2) + (Int.toNat n3)) (iV (IntKind.wrap .i64 (n5 - n7))) fun M8 =>
K (.tuple #[]) M8) :
 aa Tryz.prog 229 #[.pointer (some ⟨b0, o0, none⟩), .agg #[.int .i64 cK, .int .i64 cL, .int .i64 cN, .int .i64 eE]] M K Kp := vw [(1, .bR [0, 0, 2, 0, 0, 16, 8, 72, 248, 504, 0, 0, 2048, 1024, 9216, 31744, 64512, 131064, 1, 262145, 1048575, 2097151] (sy [0, 1, 3, 4, 6, 7, 10, 11, 13, 14, 18, 19, 2, 5, 8, 9, 12, 15, 16, 17, 20, 21] .done))] Tryz.func229 h
theorem tf {b0 o0 : Nat} {cK : Int} {cL : Int} {cN : Int} {eE : Int} (h :
bh M (cl [(iV cK), (iV cL), (iV cN), (iV eE)] 27) fun k1 M2 =>
rI M2 k1 1 fun n3 =>
rI M2 k1 2 fun n4 =>
(0 ≤ n4) ∧
(n4 < 8) ∧
rI M2 b0 ((o0 + 2) + (Int.toNat n4)) fun n5 =>
rI M2 k1 3 fun n6 =>
(0 ≤ n6) ∧
(n6 < 8) ∧
rI M2 b0 ((o0 + 2) + (Int.toNat n6)) fun n7 =>
(0 ≤ n3) ∧
(n3 < 8) ∧
sT M2 b0 ((o0 + 2) + (Int.toNat n3)) (iV (IntKind.wrap .i64 (n5 * n7))) fun M8 =>
K (.tuple #[]) M8) :
 aa Tryz.prog 230 #[.pointer (some ⟨b0, o0, none⟩), .agg #[.int .i64 cK, .int .i64 cL, .int .i64 cN, .int .i64 eE]] M K Kp := vw [(1, .bR [0, 0, 2, 0, 0, 16, 8, 72, 248, 504, 0, 0, 2048, 1024, 9216, 31744, 64512, 131064, 1, 262145, 1048575, 2097151] (sy [0, 1, 3, 4, 6, 7, 10, 11, 13, 14, 18, 19, 2, 5, 8, 9, 12, 15, 16, 17, 20, 21] .done))] Tryz.func230 h
theorem rE {b0 o0 : Nat} {cK : Int} {cL : Int} {cN : Int} {eE : Int} (h :
bh M (cl [(iV cK), (iV cL), (iV cN), (iV eE)] 27) fun k1 M2 =>
rI M2 k1 2 fun n3 =>
(0 ≤ n3) ∧
(n3 < 8) ∧
rI M2 b0 ((o0 + 2) + (Int.toNat n3)) fun n4 =>
rI M2 k1 3 fun n5 =>
(0 ≤ n5) ∧
(n5 < 8) ∧
rI M2 b0 ((o0 + 2) + (Int.toNat n5)) fun n6 =>
rI M2 k1 1 fun n7 =>
(0 ≤ n7) ∧
(n7 < 8) ∧
sT M2 b0 ((o0 + 2) + (Int.toNat n7)) (iV 0) fun M8 =>
aO (decide (n4 < n6))
 (rI M8 k1 1 fun n9 =>
 (0 ≤ n9) ∧
 (n9 < 8) ∧
 sT M8 b0 ((o0 + 2) + (Int.toNat n9)) (iV 1) fun iZ =>
 K (.tuple #[]) iZ)
 (K (.tuple #[]) M8)) :
 aa Tryz.prog 231 #[.pointer (some ⟨b0, o0, none⟩), .agg #[.int .i64 cK, .int .i64 cL, .int .i64 cN, .int .i64 eE]] M K Kp := vw [(1, .bR [0, 0, 2, 1, 9, 31, 63, 0, 0, 256, 128, 1152, 3968, 8064, 16383, 32767] (sy [0, 1, 3, 4, 7, 8, 10, 11, 2, 5, 6, 9, 12, 13, 14, 15] .done)), (2, .bR [0, 0, 2, 1, 9, 31, 63] (sy [0, 1, 3, 4, 2, 5, 6] .done)), (4, .bR [0, 0, 2, 1, 9, 31, 63] (sy [0, 1, 3, 4, 2, 5, 6] .done))] Tryz.func231 h
theorem rF {b0 o0 : Nat} {cK : Int} {cL : Int} {cN : Int} {eE : Int} (h :
bh M (cl [(iV cK), (iV cL), (iV cN), (iV eE)] 27) fun k1 M2 =>
rI M2 k1 1 fun n3 =>
sT M2 b0 (o0 + 1) (iV n3) fun M4 =>
K (.tuple #[]) M4) :
 aa Tryz.prog 232 #[.pointer (some ⟨b0, o0, none⟩), .agg #[.int .i64 cK, .int .i64 cL, .int .i64 cN, .int .i64 eE]] M K Kp := vw [] Tryz.func232 h
theorem oJ {b0 o0 : Nat} {cK : Int} {cL : Int} {cN : Int} {eE : Int} (h :
bh M (cl [(iV cK), (iV cL), (iV cN), (iV eE)] 27) fun k1 M2 =>
rI M2 k1 1 fun n3 =>
(0 ≤ n3) ∧
(n3 < 8) ∧
rI M2 b0 ((o0 + 2) + (Int.toNat n3)) fun n4 =>
aO (n4 != 0)
 (rI M2 k1 2 fun n5 =>
 sT M2 b0 (o0 + 1) (iV n5) fun M6 =>
 K (.tuple #[]) M6)
 (K (.tuple #[]) M2)) :
 aa Tryz.prog 233 #[.pointer (some ⟨b0, o0, none⟩), .agg #[.int .i64 cK, .int .i64 cL, .int .i64 cN, .int .i64 eE]] M K Kp := vw [(1, .bR [0, 0, 2, 1, 9, 31, 63, 127] (sy [0, 1, 3, 4, 2, 5, 6, 7] .done))] Tryz.func233 h
theorem mQ {b0 o0 : Nat} {cK : Int} {cL : Int} {cN : Int} {x2 : Int} (h :
bh M (cl [(iV cK), (iV cL), (iV cN)] 280) fun k1 M2 =>
rS M2 b0 (o0 + 4) fun A3 k4 k5 =>
rI M2 k1 0 fun n6 =>
(0 ≤ n6) ∧
(n6 < k4) ∧
aF A3 fun k7 k8 =>
rP M2 k7 (k8 + (Int.toNat n6)) fun A9 =>
aF A9 fun gn eO =>
rS M2 gn (eO + 1) fun Ax eN jJ =>
rS M2 b0 (o0 + 4) fun wW fL fB =>
rI M2 k1 0 fun lA =>
(0 ≤ lA) ∧
(lA < fL) ∧
aF wW fun jK lz =>
rP M2 jK (lz + (Int.toNat lA)) fun C0 =>
aF C0 fun gV jq =>
bG M2 gV (jq + 2) fun BZ mN ox oG =>
(True) ∧
aa Tryz.prog 189 #[(.slice Ax eN jJ)] M2 (fun TX mK =>
cw (some TX) fun SH =>
((Mem.g9 mK ⟨gV, (jq + 2), none⟩ 0 4) = some [(iV BZ), (iV mN), (iV ox), (iV oG)]) ∧
((Mem.ld mK ⟨jK, (lz + (Int.toNat lA)), none⟩) = (some (.pointer C0))) ∧
eI mK k1 0 lA ∧
((Mem.ld mK ⟨b0, (o0 + 4), none⟩) = (some (.slice wW fL fB))) ∧
aF SH fun nI uv =>
bh mK vM fun tQ sr =>
kC sr tQ (iV BZ) (iV mN) (iV ox) (iV oG) fun mh =>
((Mem.g9 mh ⟨gV, (jq + 2), none⟩ 0 4) = some [(iV BZ), (iV mN), (iV ox), (iV oG)]) ∧
((Mem.ld mh ⟨jK, (lz + (Int.toNat lA)), none⟩) = (some (.pointer C0))) ∧
eI mh k1 0 lA ∧
((Mem.ld mh ⟨b0, (o0 + 4), none⟩) = (some (.slice wW fL fB))) ∧
rI mh tQ 0 fun Kb =>
aO (Kb == 16)
 (rS mh b0 (o0 + 3) fun A40 MR Qq =>
 rI mh tQ 1 fun xY =>
 rI mh k1 1 fun w8 =>
 ((0 : Int) ≤ (IntKind.wrap .i64 (xY + w8))) ∧
 (((IntKind.wrap .i64 (xY + w8)) : Int) < (MR : Int)) ∧
 aF A40 fun Kc MS =>
 rI mh Kc ((MS + ((Int.toNat (IntKind.wrap .i64 (xY + w8))) * 3)) + 2) fun sq =>
 rI mh k1 2 fun Kk =>
 (0 ≤ sq) ∧
 (sq < 8) ∧
 sT mh nI ((uv + 2) + (Int.toNat sq)) (iV Kk) fun vQ =>
 rII vQ k1 0 fun Nl GL =>
 aa Tryz.prog 251 #[(.pointer (some ⟨b0, o0, none⟩)), (iV Nl), (iV GL)] vQ (fun v52 GN =>
 (v52 = (.tuple #[])) ∧
 rI GN k1 0 fun T8 =>
 aa Tryz.prog 158 #[(.pointer (some ⟨b0, o0, none⟩)), (iV T8)] GN (fun X8 X9 =>
 (X8 = (.tuple #[])) ∧
 K (.tuple #[]) X9) Kp) Kp)
 (rI mh tQ 2 fun IE =>
 rI mh k1 2 fun FP =>
 (0 ≤ IE) ∧
 (IE < 8) ∧
 rI mh tQ 3 fun tO =>
 sT mh nI ((uv + 2) + (Int.toNat IE)) (iV FP) fun pI =>
 eI pI tQ 3 tO ∧
 (0 ≤ tO) ∧
 (tO < 8) ∧
 sT pI nI ((uv + 2) + (Int.toNat tO)) (iV x2) fun Au =>
 eI Au tQ 3 tO ∧
 rI Au k1 0 fun Xa =>
 aa Tryz.prog 158 #[(.pointer (some ⟨b0, o0, none⟩)), (iV Xa)] Au (fun v63 IF =>
 (v63 = (.tuple #[])) ∧
 K (.tuple #[]) IF) Kp)) Kp) :
 aa Tryz.prog 238 #[.pointer (some ⟨b0, o0, none⟩), .agg #[.int .i64 cK, .int .i64 cL, .int .i64 cN], .int .i64 x2] M K Kp := vw [(1, .bR [0, 1, 3, 7, 0, 16, 63, 127, 255, 511, 1023, 0, 2048, 6144, 14336, 0, 32768, 129024, 260096, 522240, 1046528, 2095104, 4192256, 8386560, 16775168, 0, 41943039, 134217727] (sy [0, 1, 2, 4, 11, 12, 13, 15, 14, 16, 17, 18, 19, 20, 21] (.dw 3 (.dw 5 (sy [6] (.dw 7 (sy [8, 9] (.dw 10 (.late 22 (sy [23, 24, 25, 26, 27] .done)))))))))), (3, .bR [0, 0, 2, 6, 14, 30, 0, 64, 0, 256, 960, 2046, 4094, 8190, 0, 16384, 1, 131071, 262143] (sy [0, 1, 2, 3, 4, 6, 8, 14, 16, 5, 7, 9, 10, 11, 12, 13, 15, 17, 18] .done)), (5, .bR [0, 0, 2, 0, 0, 16, 0, 64, 0, 1, 711, 1735, 8, 8191, 16383] (sy [0, 1, 3, 4, 6, 8, 9, 12, 2, 7, 10] (.dw 5 (sy [11, 13, 14] .done))))] Tryz.func238 h
theorem rG {b0 o0 : Nat} {cK : Int} {cL : Int} {cN : Int} (h :
bh M (cl [(iV cK), (iV cL), (iV cN)] 280) fun k1 M2 =>
rS M2 b0 (o0 + 4) fun A3 k4 k5 =>
rI M2 k1 0 fun n6 =>
(0 ≤ n6) ∧
(n6 < k4) ∧
aF A3 fun k7 k8 =>
rP M2 k7 (k8 + (Int.toNat n6)) fun A9 =>
aF A9 fun gn eO =>
rI M2 gn (eO + 2) fun jM =>
aO (jM == 16)
 (rI M2 k1 0 fun iM =>
 rI M2 k1 1 fun mb =>
 aa Tryz.prog 251 #[(.pointer (some ⟨b0, o0, none⟩)), (iV iM), (iV mb)] M2 (fun C1 fz =>
 (C1 = (.tuple #[])) ∧
 rI fz k1 0 fun iW =>
 aa Tryz.prog 158 #[(.pointer (some ⟨b0, o0, none⟩)), (iV iW)] fz (fun Ez jD =>
 (Ez = (.tuple #[])) ∧
 K (.tuple #[]) jD) Kp) Kp)
 (rI M2 k1 0 fun gk =>
 aa Tryz.prog 158 #[(.pointer (some ⟨b0, o0, none⟩)), (iV gk)] M2 (fun Yo dP =>
 (Yo = (.tuple #[])) ∧
 K (.tuple #[]) dP) Kp)) :
 aa Tryz.prog 240 #[.pointer (some ⟨b0, o0, none⟩), .agg #[.int .i64 cK, .int .i64 cL, .int .i64 cN]] M K Kp := vw [(1, .bR [0, 1, 3, 7, 0, 16, 63, 127, 255, 511, 1023, 2047, 4095] (sy [0, 1, 2, 4, 3, 5, 6, 7, 8, 9, 10, 11, 12] .done))] Tryz.func240 h
theorem rH {B0 : Option Addr} {m0 c0 : Nat} {x1 : Int} {x2 : Int} {x3 : Int} (h :
aO (decide ((m0 : Int) ≥ 16))
 (K (.tuple #[(.slice B0 m0 c0), (.bool false)]) M)
 (((0 : Int) ≤ m0) ∧
 ((m0 : Int) ≤ c0) ∧
 ((0 : Int) ≤ m0) ∧
 ((m0 : Int) ≤ m0) ∧
 ((0 : Int) ≤ 0) ∧
 ((0 : Int) ≤ m0) ∧
 bh M (cl [(iV x1), (iV 0), (iV x2), (iV 0), (iV 0), (iV 0), (iV 0), (iV 0), (iV 0), (iV 0), (iV x3)] 275) fun k1 M2 =>
 aY Tryz.prog (Go.Builtin.append_ #[226, 226] 226 #[(.slice (lF B0 0 (Int.toNat (m0 : Int)) 11) ((Int.toNat (m0 : Int)) - 0) ((Int.toNat (m0 : Int)) - 0)), (.slice (some ⟨k1, 0, none⟩) 1 1)]) M2 (fun v3 M4 =>
 aB (some v3) fun A5 k6 k7 =>
 K (.tuple #[(.slice A5 k6 k7), (.bool true)]) M4) Kp)) :
 aa Tryz.prog 241 #[.slice B0 m0 c0, .int .i64 x1, .int .i64 x2, .int .i64 x3] M K Kp := vw [] Tryz.func241 h
theorem oK {B0 : Option Addr} {m0 c0 : Nat} {x1 : Int} (h :
aO (decide ((m0 : Int) < 2))
 (K (.tuple #[(.slice none 0 0), (.bool false)]) M)
 (bh M (cl [] 275) fun k1 M2 =>
 ((0 : Int) ≤ c0) ∧
 ((c0 : Int) ≤ c0) ∧
 ((0 : Int) ≤ (IntKind.wrap .i64 ((m0 : Int) - 1))) ∧
 (((IntKind.wrap .i64 ((m0 : Int) - 1)) : Int) ≤ (c0 : Int)) ∧
 ((0 : Int) ≤ 0) ∧
 ((0 : Int) ≤ (IntKind.wrap .i64 ((m0 : Int) - 1))) ∧
 aY Tryz.prog (Go.Builtin.append_ #[226, 226] 226 #[(.slice (some ⟨k1, 0, none⟩) 0 0), (.slice (lF B0 0 (Int.toNat (c0 : Int)) 11) ((Int.toNat (IntKind.wrap .i64 ((m0 : Int) - 1))) - 0) ((Int.toNat (c0 : Int)) - 0))]) M2 (fun v3 M4 =>
 aB (some v3) fun A5 k6 k7 =>
 aa Tryz.prog 189 #[(.slice A5 k6 k7)] M4 (fun v8 M9 =>
 cw (some v8) fun AO =>
 aF AO fun eO gH =>
 aa Tryz.prog 189 #[(.slice B0 m0 c0)] M9 (fun Lz lK =>
 cw (some Lz) fun wW =>
 aF wW fun fL fB =>
 rI lK fL (fB + 10) fun lA =>
 (0 ≤ lA) ∧
 (lA < 8) ∧
 sT lK eO ((gH + 2) + (Int.toNat lA)) (iV x1) fun jD =>
 K (.tuple #[(.slice A5 k6 k7), (.bool true)]) jD) Kp) Kp) Kp)) :
 aa Tryz.prog 242 #[.slice B0 m0 c0, .int .i64 x1] M K Kp := vw [(4, .bR [0, 1, 0, 7, 15, 31, 63, 0, 3, 259, 1023, 2047] (sy [0, 2, 7, 1, 8, 9, 3, 4, 5, 6, 10, 11] .done))] Tryz.func242 h
theorem uF {b0 o0 : Nat} {x1 : Int} {x2 : Int} (h :
aB (Mem.ld M ⟨b0, o0, none⟩) fun A1 k2 k3 =>
aJ (Mem.ld M ⟨b0, (o0 + 1), none⟩) .u64 fun n4 =>
bh M (.cells #[(.int .u64 x1), (.int .u64 n4), (.int .i64 x2)] 203 (0, 0)) fun k5 M6 =>
aY Tryz.prog (Go.Builtin.append_ #[46, 46] 46 #[(.slice A1 k2 k3), (.slice (some ⟨k5, 0, none⟩) 1 1)]) M6 (fun v7 M8 =>
aB (some v7) fun A9 gn eO =>
aK M8 ⟨b0, o0, none⟩ (.slice A9 gn eO) fun sj =>
aJ (Mem.ld sj ⟨b0, (o0 + 1), none⟩) .u64 fun iM =>
aK sj ⟨b0, (o0 + 1), none⟩ (.int .u64 (IntKind.wrap .u64 (iM + 1))) fun lK =>
aB (Mem.ld lK ⟨b0, o0, none⟩) fun wW fL fB =>
aa Tryz.prog 156 #[(.pointer (some ⟨b0, o0, none⟩)), (.int .i64 (IntKind.wrap .i64 (((fL : Nat) : Int) - 1)))] lK (fun Ez jD =>
(Ez = (.tuple #[])) ∧
aJ (Mem.ld jD ⟨b0, (o0 + 1), none⟩) .u64 fun gk =>
K (.int .u64 (IntKind.wrap .u64 (gk - 1))) jD) Kp) Kp) :
 aa Tryz.prog 244 ([.pointer (some ⟨b0, o0, none⟩), .int .u64 x1, .int .i64 x2] : List Value).toArray M K Kp :=
 cq (C := Cx) good [(1, .bR [0, 0, 2, 6, 14, 0, 0, 64, 192, 448, 0, 2016, 4064, 8190, 16383, 32767, 65535] (.step 0 (.step 1 (.step 2 (.step 3 (.step 5 (.step 6 (.step 7 (.step 8 (.step 10 (.step 4 (.step 9 (.step 11 (.step 12 (.step 13 (.step 14 (.step 15 (.step 16 .done))))))))))))))))))] Tryz.func244 (by kernel_rfl) (by kernel_rfl) h
theorem tg {b0 o0 : Nat} {x1 : Int} (h :
rI M b0 o0 fun n1 =>
aO (n1 != (-1))
 (rS M b0 (o0 + 1) fun A2 k3 k4 =>
 bh M (cl [(iV x1)] 3) fun k5 M6 =>
 aA 36 A2 k3 k4 (some ⟨k5, 0, none⟩) 1 1 M6 (fun v7 M8 =>
 aB (some v7) fun A9 gn eO =>
 sT M8 b0 (o0 + 1) (.slice A9 gn eO) fun sj =>
 K (.bool false) sj) Kp)
 (sT M b0 o0 (iV x1) fun mL =>
 K (.bool true) mL)) :
 aa Tryz.prog 245 #[.pointer (some ⟨b0, o0, none⟩), .int .i64 x1] M K Kp := vw [] Tryz.func245 h
theorem th {b0 o0 : Nat} {x1 : Int} (h :
rI M b0 o0 fun n1 =>
aO (n1 == (-1))
 (K (.tuple #[(iV (-1)), (iV 5)]) M)
 (rI M b0 o0 fun n2 =>
 aO (n2 != x1)
 (K (.tuple #[(iV (-1)), (iV 5)]) M)
 (sT M b0 o0 (iV (-1)) fun M3 =>
 rS M3 b0 (o0 + 1) fun A4 k5 k6 =>
 aO (decide ((k5 : Int) > 0))
 (rS M3 b0 (o0 + 1) fun A7 k8 k9 =>
 ((0 : Int) ≤ 0) ∧
 ((0 : Int) < k8) ∧
 aF A7 fun gn eO =>
 rI M3 gn (eO + 0) fun jM =>
 sT M3 b0 o0 (iV jM) fun mL =>
 bh mL (cl [] 3) fun jJ su =>
 rS su b0 (o0 + 1) fun W8 fB en =>
 ((0 : Int) ≤ en) ∧
 ((en : Int) ≤ en) ∧
 ((0 : Int) ≤ fB) ∧
 ((fB : Int) ≤ en) ∧
 ((0 : Int) ≤ 1) ∧
 ((1 : Int) ≤ fB) ∧
 aY Tryz.prog (Go.Builtin.append_ #[36, 36] 36 #[(.slice (some ⟨jJ, 0, none⟩) 0 0), (.slice (lF W8 1 (Int.toNat (en : Int)) 1) ((Int.toNat (fB : Int)) - 1) ((Int.toNat (en : Int)) - 1))]) su (fun T5 vP =>
 aB (some T5) fun C0 gV jq =>
 sT vP b0 (o0 + 1) (.slice C0 gV jq) fun j8 =>
 rI j8 b0 o0 fun mN =>
 K (.tuple #[(iV mN), (iV 0)]) j8) Kp)
 (rI M3 b0 o0 fun ox =>
 K (.tuple #[(iV ox), (iV 0)]) M3)))) :
 aa Tryz.prog 246 #[.pointer (some ⟨b0, o0, none⟩), .int .i64 x1] M K Kp := vw [] Tryz.func246 h
theorem tj {b0 o0 : Nat} {x1 : Int} (h :
∃ I1 : Nat → List Value → Mem → Prop, (∃ k2 : Nat, I1 k2 [(.int .i64 x1), (.int .i64 (IntKind.wrap .i64 ((IntKind.wrap .i64 (4 * x1)) + 1)))] M) ∧
∀ k3 : Nat, ∀ SI : Nat → Value, ∀ n5 : Int, ∀ n6 : Int, ∀ M7 : Mem, (I1 k3 [(.int .i64 n5), (.int .i64 n6)] M7) → aO (decide ((n6 : Int) ≤ (IntKind.wrap .i64 ((IntKind.wrap .i64 (4 * x1)) + 4))))
 (aB (Mem.ld M7 ⟨b0, o0, none⟩) fun A8 k9 gn =>
 aO (decide ((n6 : Int) < ((k9 : Nat) : Int)))
  (aB (Mem.ld M7 ⟨b0, o0, none⟩) fun PI gH eN =>
  ((0 : Int) ≤ n6) ∧
  ((n6 : Int) < ((gH : Nat) : Int)) ∧
  aF PI fun jJ iC =>
  aJ (Mem.ld M7 ⟨jJ, (iC + ((Int.toNat n6) * 3)), none⟩) .u64 fun nm =>
  aJ (Mem.ld M7 ⟨jJ, ((iC + ((Int.toNat n6) * 3)) + 1), none⟩) .u64 fun iW =>
  aJ (Mem.ld M7 ⟨jJ, ((iC + ((Int.toNat n6) * 3)) + 2), none⟩) .i64 fun lA =>
  aB (Mem.ld M7 ⟨b0, o0, none⟩) fun DP lz fM =>
  ((0 : Int) ≤ n5) ∧
  ((n5 : Int) < ((lz : Nat) : Int)) ∧
  aF DP fun gV jq =>
  aJ (Mem.ld M7 ⟨gV, (jq + ((Int.toNat n5) * 3)), none⟩) .u64 fun BZ =>
  aJ (Mem.ld M7 ⟨gV, ((jq + ((Int.toNat n5) * 3)) + 1), none⟩) .u64 fun mN =>
  aJ (Mem.ld M7 ⟨gV, ((jq + ((Int.toNat n5) * 3)) + 2), none⟩) .i64 fun ox =>
  aa Tryz.prog 187 #[(.agg #[(.int .u64 nm), (.int .u64 iW), (.int .i64 lA)]), (.agg #[(.int .u64 BZ), (.int .u64 mN), (.int .i64 ox)])] M7 (fun Qu uq =>
  de (some Qu) fun t29 =>
  aO t29
   (∃ mj : Nat, (mj < k3) ∧
   I1 mj [(.int .i64 n6), (.int .i64 (IntKind.wrap .i64 (n6 + 1)))] uq)
   (∃ nI : Nat, (nI < k3) ∧
   I1 nI [(.int .i64 n5), (.int .i64 (IntKind.wrap .i64 (n6 + 1)))] uq)) Kp)
  (K (.int .i64 n5) M7))
 (K (.int .i64 n5) M7)) :
 aa Tryz.prog 186 ([.pointer (some ⟨b0, o0, none⟩), .int .i64 x1] : List Value).toArray M K Kp :=
 cq (C := Cx) good [(2000000, .loop [(5, .c (.int .i64)), (6, .c (.int .i64))]), (5, .bR [0, 1, 3, 7, 0, 31, 63, 0, 128, 384, 896, 0, 3968, 8064, 16383] (.step 0 (.step 1 (.step 2 (.step 4 (.step 7 (.step 8 (.step 9 (.step 11 (.step 3 (.step 5 (.step 6 (.step 10 (.step 12 (.step 13 (.step 14 .done))))))))))))))))] Tryz.func186 (by kernel_rfl) (by kernel_rfl) h
theorem y6 {yV : Int} {yW : Int} {gU : Int} {cK : Int} {cL : Int} {cN : Int} (h :
bh M (cl [(.int .u64 yV), (.int .u64 yW), (iV gU)] 203) fun k1 M2 =>
bh M2 (cl [(.int .u64 cK), (.int .u64 cL), (iV cN)] 203) fun k3 M4 =>
rU M4 k1 0 fun n5 =>
rU M4 k3 0 fun n6 =>
aO (decide (n5 < n6))
 (K (.bool true) M4)
 (rU M4 k1 0 fun n7 =>
 rU M4 k3 0 fun n8 =>
 aO (n7 == n8)
 (rU M4 k1 1 fun n9 =>
 rU M4 k3 1 fun jc =>
 K (.bool (decide (n9 < jc))) M4)
 (K (.bool false) M4))) :
 aa Tryz.prog 187 #[.agg #[.int .u64 yV, .int .u64 yW, .int .i64 gU], .agg #[.int .u64 cK, .int .u64 cL, .int .i64 cN]] M K Kp := vw [] Tryz.func187 h
theorem oL {b0 o0 : Nat} {x1 : Int} {x2 : Int} (h :
rS M b0 (o0 + 4) fun A1 k2 k3 =>
((0 : Int) ≤ x1) ∧
((x1 : Int) < k2) ∧
aF A1 fun k4 k5 =>
rP M k4 (k5 + (Int.toNat x1)) fun A6 =>
aF A6 fun k7 k8 =>
bG M k7 (k8 + 2) fun n9 jc iN jM =>
bh M vM fun eN lK =>
kC lK eN (iV n9) (iV jc) (iV iN) (iV jM) fun sS =>
rS sS b0 (o0 + 4) fun DP lz fM =>
((0 : Int) ≤ x1) ∧
((x1 : Int) < lz) ∧
aF DP fun gV jq =>
rP sS gV (jq + (Int.toNat x1)) fun PF =>
aF PF fun sN tP =>
rS sS sN (tP + 1) fun SJ pO iy =>
rI sS eN 3 fun GM =>
aa Tryz.prog 189 #[(.slice SJ pO iy)] sS (fun TU so =>
cw (some TU) fun Gx =>
eI so eN 3 GM ∧
aF Gx fun oW Aw =>
(0 ≤ GM) ∧
(GM < 8) ∧
sT so oW ((Aw + 2) + (Int.toNat GM)) (iV x2) fun Aq =>
eI Aq eN 3 GM ∧
rS Aq b0 (o0 + 6) fun Nq iD xB =>
aa Tryz.prog 252 #[(iV x1), (.slice Nq iD xB)] Aq (fun Ki Az =>
(Ki = (.tuple #[])) ∧
K (.tuple #[]) Az) Kp) Kp) :
 aa Tryz.prog 251 #[.pointer (some ⟨b0, o0, none⟩), .int .i64 x1, .int .i64 x2] M K Kp := vw [(1, .bR [0, 1, 3, 7, 0, 31, 63, 127, 255, 511, 1023, 0, 2048, 0, 2047, 18431, 65535, 131071] (sy [0, 1, 2, 4, 11, 13, 3, 5, 6, 7, 8, 9] (.dw 12 (sy [10, 14, 15, 16, 17] .done))))] Tryz.func251 h
end Go.Proofs
namespace Go.Proofs
open Go.AF
set_option maxRecDepth 100000
theorem C4 {mR : Option Addr} {mS mT : Nat} {mU : Option Addr} {mV mW : Nat} {gU : Int} {mX : Option Addr} {mY mZ : Nat} {M : Mem} {K : Value → Mem → Prop} {Kp : List PanicEntry → Mem → Prop} (h :
bh M (cl [(.slice mR mS mT), (.slice mU mV mW), (iV gU), (.slice mX mY mZ)] 39) fun k1 M2 =>
yN M2 k1 0 fun A3 k4 k5 A6 k7 k8 n9 AO eO gH =>
aa Tryz.prog 112 #[(iV 0), (iV 0)] M2 (fun Lz lK =>
aB (some Lz) fun wW fL fB =>
((Mem.g9 lK ⟨k1, 0, none⟩ 0 4) = some [(.slice A3 k4 k5), (.slice A6 k7 k8), (iV n9), (.slice AO eO gH)]) ∧
bh lK (cl [(iV 1), (.slice wW fL fB), (iV 0), (iV 0), (iV 0), (iV 0)] 229) fun en jD =>
bh jD (cl [(.pointer (some ⟨en, 0, none⟩))] 224) fun lz oB =>
bh oB (cl [(.slice A3 k4 k5), (.slice A6 k7 k8), (iV n9), (.slice AO eO gH), (.slice (some ⟨lz, 0, none⟩) 1 1), (.int .u64 0), (.slice none 0 0), (.slice none 0 0), (.slice none 0 0), (.int .u64 0), (.slice none 0 0), (iV 0), (iV 0), (.slice none 0 0), .nilFunc] 161) fun gV me =>
rS me k1 1 fun PF sN tP =>
∃ I27 : IT, (∃ pO, I27 pO [(iV 0)] me) ∧
∀ (iy : Nat) (_ : Nat → Value) (sk : Int) (so : Mem), (I27 iy [(iV sk)] so) → aO (decide (sk < sN))
 ((0 ≤ sk) ∧
 (sk < sN) ∧
 aF PF fun tQ oW =>
 rI so tQ (oW + (Int.toNat sk)) fun LD =>
 ∃ J36 : List Value → Mem → Prop, ((rS so gV 6 fun Nq iD xB =>
 aa Tryz.prog 113 #[(iV LD)] so (fun Ki Az =>
 cw (some Ki) fun Qt =>
 bh Az (cl [(.pointer Qt)] 230) fun yQ AW =>
 aA 156 Nq iD xB (some ⟨yQ, 0, none⟩) 1 1 AW (fun v45 FV =>
 aB (some v45) fun A47 W6 LF =>
 sT FV gV 6 (.slice A47 W6 LF) fun xZ =>
 J36 [] xZ) Kp) Kp) ∧
 (aa Tryz.prog 113 #[(iV LD)] so (fun v51 Yj =>
 cw (some v51) fun A53 =>
 rS Yj gV 6 fun A54 Nr QA =>
 bh Yj (cl [(.pointer A53)] 230) fun C5 IG =>
 aA 156 A54 Nr QA (some ⟨C5, 0, none⟩) 1 1 IG (fun v59 pI =>
 aB (some v59) fun T9 Ns Kl =>
 sT pI gV 6 (.slice T9 Ns Kl) fun IF =>
 J36 [] IF) Kp) Kp) ∧
 True) ∧
 ∀ junk65 : Nat → Value, ∀ W7 : Mem, (J36 [] W7) → ∃ vp : Nat, (vp < iy) ∧
 I27 vp [(iV (IntKind.wrap .i64 (sk + 1)))] W7)
 (rI so k1 2 fun IB =>
 ∃ I69 : IT, (∃ EH, I69 EH [(iV 0)] so) ∧
 ∀ (Km : Nat) (_ : Nat → Value) (Ya : Int) (EG : Mem), (I69 Km [(iV Ya)] EG) → aO (decide (Ya < IB))
 (∃ J75 : List Value → Mem → Prop, ((rS EG gV 7 fun A76 k77 Ua =>
 aa Tryz.prog 114 #[] EG (fun v79 xD =>
 cw (some v79) fun QB =>
 bh xD (cl [(.pointer QB)] 232) fun Kn C6 =>
 aA 157 A76 k77 Ua (some ⟨Kn, 0, none⟩) 1 1 C6 (fun v84 M85 =>
 aB (some v84) fun A86 k87 LH =>
 sT M85 gV 7 (.slice A86 k87 LH) fun EI =>
 J75 [] EI) Kp) Kp) ∧
 (aa Tryz.prog 114 #[] EG (fun Nt lu =>
 cw (some Nt) fun Yp =>
 rS lu gV 7 fun A93 Ub k95 =>
 bh lu (cl [(.pointer Yp)] 232) fun k96 QC =>
 aA 157 A93 Ub k95 (some ⟨k96, 0, none⟩) 1 1 QC (fun v98 M99 =>
 aB (some v98) fun A100 k101 QD =>
 sT M99 gV 7 (.slice A100 k101 QD) fun Uc =>
 J75 [] Uc) Kp) Kp) ∧
 True) ∧
 ∀ junk104 : Nat → Value, ∀ QE : Mem, (J75 [] QE) → ∃ xE : Nat, (xE < Km) ∧
 I69 xE [(iV (IntKind.wrap .i64 (Ya + 1)))] QE)
 (K (.pointer (some ⟨gV, 0, none⟩)) EG))) Kp) :
 aa Tryz.prog 56 #[.agg #[.slice mR mS mT, .slice mU mV mW, .int .i64 gU, .slice mX mY mZ]] M K Kp := vw [(1, .bR [0, 0, 2, 6, 14, 31, 63, 127] (.dw 0 (sy [1, 2, 3, 4, 5, 6, 7] .done))), (2000000, .loop [(16, .c (.int .i64))]), (5, .JS [0, 0, 2, 6, 14, 0, 32, 96, 254, 511, 1023, 2047] (sy [0, 1, 2, 3, 5] (.fork 4 (sy [6, 7, 8, 9, 10, 11] .done) (.fork 6 (sy [4, 7, 8, 9, 10, 11] .done) .dead))) []), (2000002, .loop [(34, .c (.int .i64))]), (9, .JS [0, 0, 2, 6, 14, 0, 32, 126, 255, 511, 1023] (sy [0, 1, 2, 3] (.fork 4 (sy [5, 6, 7, 8, 9, 10] .done) (.fork 5 (sy [4, 6, 7, 8, 9, 10] .done) .dead))) [])] Tryz.func56 h
theorem jV {b0 o0 : Nat} {x1 : Int} {u2 : Value} {M : Mem} {K : Value → Mem → Prop} {Kp : List PanicEntry → Mem → Prop} (h :
bh M (.cells #[(.bool false), (.slice none 0 0)] 250 (0, 0)) fun k1 M2 =>
aO (decide ((x1 : Int) < 0))
 (aK M2 ⟨k1, 0, none⟩ (.bool false) fun M3 =>
 aK M3 ⟨k1, (0 + 1), none⟩ (.slice none 0 0) fun M4 =>
 de (Mem.ld M4 ⟨k1, 0, none⟩) fun t5 =>
 aB (Mem.ld M4 ⟨k1, (0 + 1), none⟩) fun A6 k7 k8 =>
 K (.agg #[(.bool t5), (.slice A6 k7 k8)]) M4)
 (aB (Mem.ld M2 ⟨b0, (o0 + 4), none⟩) fun A9 gn eO =>
 aO (decide ((x1 : Int) ≥ ((gn : Nat) : Int)))
  (aK M2 ⟨k1, 0, none⟩ (.bool false) fun sj =>
  aK sj ⟨k1, (0 + 1), none⟩ (.slice none 0 0) fun mL =>
  de (Mem.ld mL ⟨k1, 0, none⟩) fun t14 =>
  aB (Mem.ld mL ⟨k1, (0 + 1), none⟩) fun wW fL fB =>
  K (.agg #[(.bool t14), (.slice wW fL fB)]) mL)
  (aJ (Mem.ld M2 ⟨b0, (o0 + 11), none⟩) .i64 fun lA =>
  aO (lA != 0)
   (aK M2 ⟨k1, 0, none⟩ (.bool false) fun jD =>
   aK jD ⟨k1, (0 + 1), none⟩ (.slice none 0 0) fun vP =>
   de (Mem.ld vP ⟨k1, 0, none⟩) fun t21 =>
   aB (Mem.ld vP ⟨k1, (0 + 1), none⟩) fun W9 jq sM =>
   K (.agg #[(.bool t21), (.slice W9 jq sM)]) vP)
   (aB (Mem.ld M2 ⟨b0, (o0 + 4), none⟩) fun X6 tP Av =>
   ((0 : Int) ≤ x1) ∧
   ((x1 : Int) < ((tP : Nat) : Int)) ∧
   aF X6 fun pO iy =>
   cw (Mem.ld M2 ⟨pO, (iy + (Int.toNat x1)), none⟩) fun SH =>
   aF SH fun nI uv =>
   aJ (Mem.ld M2 ⟨nI, uv, none⟩) .i64 fun sO =>
   aO (sO != 1)
    (aK M2 ⟨k1, 0, none⟩ (.bool false) fun sr =>
    aK sr ⟨k1, (0 + 1), none⟩ (.slice none 0 0) fun AX =>
    de (Mem.ld AX ⟨k1, 0, none⟩) fun t36 =>
    aB (Mem.ld AX ⟨k1, (0 + 1), none⟩) fun Nq iD xB =>
    K (.agg #[(.bool t36), (.slice Nq iD xB)]) AX)
    (aK M2 ⟨b0, (o0 + 13), none⟩ (.slice none 0 0) fun T6 =>
    Bw u2 <|
    aK T6 ⟨b0, (o0 + 14), none⟩ u2 fun Az =>
    aa Tryz.prog 159 #[(.pointer (some ⟨b0, o0, none⟩)), (.int .i64 x1)] Az (fun v42 tR =>
    de (some v42) fun t44 =>
    aO (!t44)
     (aJ (Mem.ld tR ⟨b0, (o0 + 11), none⟩) .i64 fun uC =>
     aO (uC == 0)
      (aB (Mem.ld tR ⟨b0, (o0 + 4), none⟩) fun A46 TT W6 =>
      ((0 : Int) ≤ x1) ∧
      ((x1 : Int) < ((TT : Nat) : Int)) ∧
      aF A46 fun LF MX =>
      cw (Mem.ld tR ⟨LF, (MX + (Int.toNat x1)), none⟩) fun Qr =>
      aF Qr fun qG sP =>
      aJ (Mem.ld tR ⟨qG, sP, none⟩) .i64 fun T8 =>
      aB (Mem.ld tR ⟨b0, (o0 + 13), none⟩) fun A55 QA C5 =>
      aK tR ⟨k1, 0, none⟩ (.bool (T8 == 1)) fun IG =>
      aK IG ⟨k1, (0 + 1), none⟩ (.slice A55 QA C5) fun AB =>
      de (Mem.ld AB ⟨k1, 0, none⟩) fun t60 =>
      aB (Mem.ld AB ⟨k1, (0 + 1), none⟩) fun T9 Ns Kl =>
      K (.agg #[(.bool t60), (.slice T9 Ns Kl)]) AB)
      (aB (Mem.ld tR ⟨b0, (o0 + 13), none⟩) fun A64 k65 II =>
      aK tR ⟨k1, 0, none⟩ (.bool false) fun M67 =>
      aK M67 ⟨k1, (0 + 1), none⟩ (.slice A64 k65 II) fun Yq =>
      de (Mem.ld Yq ⟨k1, 0, none⟩) fun t69 =>
      aB (Mem.ld Yq ⟨k1, (0 + 1), none⟩) fun QF Km Yr =>
      K (.agg #[(.bool t69), (.slice QF Km Yr)]) Yq))
     (aB (Mem.ld tR ⟨b0, (o0 + 13), none⟩) fun A73 IJ Ys =>
     aK tR ⟨k1, 0, none⟩ (.bool false) fun M76 =>
     aK M76 ⟨k1, (0 + 1), none⟩ (.slice A73 IJ Ys) fun Ko =>
     de (Mem.ld Ko ⟨k1, 0, none⟩) fun t78 =>
     aB (Mem.ld Ko ⟨k1, (0 + 1), none⟩) fun Ud Nu Ue =>
     K (.agg #[(.bool t78), (.slice Ud Nu Ue)]) Ko)) Kp))))) :
 aa Tryz.prog 121 ([.pointer (some ⟨b0, o0, none⟩), .int .i64 x1, u2] : List Value).toArray M K Kp :=
 cq (C := Cx) good [(5, .bR [0, 1, 3, 7, 15, 31, 63, 127, 255, 511, 1023, 2047, 4095, 8191, 1023, 32767, 65535, 131071, 262143, 524287, 1048575, 2097151, 0, 4194304, 12582912, 29360128, 67108863, 134217727] (.step 0 (.step 1 (.step 2 (.step 3 (.step 4 (.step 5 (.step 22 (.step 23 (.step 24 (.step 6 (.step 7 (.step 8 (.step 9 (.step 10 (.step 11 (.step 12 (.step 14 (.step 13 (.step 15 (.step 16 (.step 17 (.step 18 (.step 19 (.step 20 (.step 21 (.step 25 (.step 26 (.step 27 .done)))))))))))))))))))))))))))))] Tryz.func121 (by kernel_rfl) (by kernel_rfl) h
theorem pU {b0 o0 : Nat} {M : Mem} {K : Value → Mem → Prop} {Kp : List PanicEntry → Mem → Prop} (h :
aJ (Mem.ld M ⟨b0, (o0 + 11), none⟩) .i64 fun n1 =>
aO (n1 != 0)
 (K (.bool false) M)
 (aB (Mem.ld M ⟨b0, (o0 + 4), none⟩) fun A2 k3 k4 =>
 ∃ I5 : Nat → List Value → Mem → Prop, (∃ k6 : Nat, I5 k6 [(.int .i64 0)] M) ∧
 ∀ k7 : Nat, ∀ junk8 : Nat → Value, ∀ n9 : Int, ∀ iZ : Mem, (I5 k7 [(.int .i64 n9)] iZ) → aO (decide ((n9 : Int) < ((k3 : Nat) : Int)))
  (((0 : Int) ≤ n9) ∧
  ((n9 : Int) < ((k3 : Nat) : Int)) ∧
  aF A2 fun eO gH =>
  cw (Mem.ld iZ ⟨eO, (gH + (Int.toNat n9)), none⟩) fun DN =>
  aF DN fun jJ iC =>
  aJ (Mem.ld iZ ⟨jJ, iC, none⟩) .i64 fun nm =>
  aO (nm == 1)
   (K (.bool false) iZ)
   (aF DN fun fB en =>
   aJ (Mem.ld iZ ⟨fB, en, none⟩) .i64 fun yT =>
   aO (yT == 3)
    (K (.bool false) iZ)
    (∃ lz : Nat, (lz < k7) ∧
    I5 lz [(.int .i64 (IntKind.wrap .i64 (n9 + 1)))] iZ)))
  (K (.bool true) iZ))) :
 aa Tryz.prog 65 ([.pointer (some ⟨b0, o0, none⟩)] : List Value).toArray M K Kp :=
 cq (C := Cx) good [(2000000, .loop [(15, .c (.int .i64))])] Tryz.func65 (by kernel_rfl) (by kernel_rfl) h
variable {M : Mem} {K : Value → Mem → Prop} {Kp : List PanicEntry → Mem → Prop}
theorem vU {B0 : Option Addr} {m0 c0 : Nat} (h :
bh M (cl [] 32) fun k1 M2 =>
aA 31 (some ⟨k1, 0, none⟩) 0 0 B0 m0 c0 M2 (fun v3 M4 =>
aB (some v3) fun A5 k6 k7 =>
bh M4 (cl [(.slice A5 k6 k7), (iV 0)] 147) fun k8 M9 =>
bh M9 (.cells #[(.func (.func 59) #[(.pointer (some ⟨k8, 0, none⟩))] #[]), (.func (.func 60) #[(.pointer (some ⟨k8, 0, none⟩))] #[]), (.slice none 0 0), .nilFunc] 152 (0, 0)) fun gn jL =>
K (.pointer (some ⟨gn, 0, none⟩)) jL) Kp) :
 aa Tryz.prog 16 #[.slice B0 m0 c0] M K Kp := vw [] Tryz.func16 h
theorem nN {b0 o0 : Nat} (h :
bh M (cl [] 95) fun k1 M2 =>
rS M2 b0 (o0 + 2) fun A3 k4 k5 =>
aA 149 (some ⟨k1, 0, none⟩) 0 0 A3 k4 k5 M2 (fun v6 M7 =>
aB (some v6) fun A8 k9 gn =>
K (.slice A8 k9 gn) M7) Kp) :
 aa Tryz.prog 76 #[.pointer (some ⟨b0, o0, none⟩)] M K Kp := vw [] Tryz.func76 h
theorem oM {b0 o0 : Nat} {x1 : Int} {x2 : Int} (h :
aJ (Mem.ld M ⟨b0, (o0 + 1), none⟩) .i64 fun n1 =>
aB (Mem.ld M ⟨b0, o0, none⟩) fun A2 k3 k4 =>
aO (decide ((n1 : Int) ≥ ((k3 : Nat) : Int)))
 (Kp [{ v := (.iface 240 (.agg #[])), recovered := false }] M)
 (aJ (Mem.ld M ⟨b0, (o0 + 1), none⟩) .i64 fun n5 =>
 aK M ⟨b0, (o0 + 1), none⟩ (.int .i64 (IntKind.wrap .i64 (n5 + 1))) fun M6 =>
 aB (Mem.ld M6 ⟨b0, o0, none⟩) fun A7 k8 k9 =>
 aJ (Mem.ld M6 ⟨b0, (o0 + 1), none⟩) .i64 fun jc =>
 ((0 : Int) ≤ (IntKind.wrap .i64 (jc - 1))) ∧
 (((IntKind.wrap .i64 (jc - 1)) : Int) < ((k8 : Nat) : Int)) ∧
 aF A7 fun eO gH =>
 aJ (Mem.ld M6 ⟨eO, (gH + (Int.toNat (IntKind.wrap .i64 (jc - 1)))), none⟩) .u64 fun iM =>
 (((IntKind.wrap .u64 x2) : Int) ≠ 0) ∧
 K (.int .u64 (Int.tmod iM (IntKind.wrap .u64 x2))) M6)) :
 aa Tryz.prog 59 ([.pointer (some ⟨b0, o0, none⟩), .int .i64 x1, .int .i64 x2] : List Value).toArray M K Kp :=
 cq (C := Cx) good [(1, .bR [0, 1, 3, 7, 0, 16, 48, 112, 240, 511] (.step 0 (.step 1 (.step 2 (.step 4 (.step 5 (.step 6 (.step 3 (.step 7 (.step 8 (.step 9 .done))))))))))), (4, .bR [0, 1, 3, 7, 0, 16, 48, 112, 240, 511, 1023, 0, 2048, 8191, 16383] (.step 0 (.step 1 (.step 2 (.step 4 (.step 5 (.step 6 (.step 11 (.step 12 (.step 3 (.step 7 (.step 8 (.step 9 (.step 10 (.step 13 (.step 14 .done))))))))))))))))] Tryz.func59 (by kernel_rfl) (by kernel_rfl) h
theorem xF {u0 : Value} (h :
bh M yO fun k1 M2 =>
bh M2 Su fun k3 M4 =>
bh M4 yO fun k5 M6 =>
sT M6 k3 0 (iV 0) fun M7 =>
sT5 M7 k5 (iV 0) (iV 0) (iV 0) (iV 0) (.int .u64 0) fun sj =>
aa Tryz.prog 116 #[u0, (.pointer (some ⟨k3, 0, none⟩)), (.pointer (some ⟨k5, 0, none⟩))] sj (fun Lz lK =>
(Lz = (.tuple #[])) ∧
rI lK k3 0 fun lq =>
MD lK k5 0 fun nm iW lA yT gk =>
sT5 lK k1 (iV nm) (iV iW) (iV lA) (iV yT) (.int .u64 gk) fun FT =>
MD FT k1 0 fun ox oG wY yb GM =>
K (.tuple #[(iV lq), (.agg #[(iV ox), (iV oG), (iV wY), (iV yb), (.int .u64 GM)])]) FT) Kp) :
 aa Tryz.prog 61 #[u0] M K Kp := vw [(3, .bR [0, 0, 1, 7] (sy [0, 2, 1, 3] .done))] Tryz.func61 h
theorem rJ {b0 o0 : Nat} {x1 : Int} {x2 : Int} (h :
aJ (Mem.ld M ⟨b0, (o0 + 1), none⟩) .i64 fun n1 =>
aB (Mem.ld M ⟨b0, o0, none⟩) fun A2 k3 k4 =>
aO (decide ((n1 : Int) ≥ ((k3 : Nat) : Int)))
 (Kp [{ v := (.iface 240 (.agg #[])), recovered := false }] M)
 (aB (Mem.ld M ⟨b0, o0, none⟩) fun A5 k6 k7 =>
 aJ (Mem.ld M ⟨b0, (o0 + 1), none⟩) .i64 fun n8 =>
 ((0 : Int) ≤ n8) ∧
 ((n8 : Int) < ((k6 : Nat) : Int)) ∧
 aF A5 fun k9 gn =>
 aJ (Mem.ld M ⟨k9, (gn + ((Int.toNat n8) * 2)), none⟩) .i64 fun iN =>
 aJ (Mem.ld M ⟨k9, ((gn + ((Int.toNat n8) * 2)) + 1), none⟩) .u64 fun jM =>
 bh M (.cells #[(.int .i64 0), (.int .u64 0)] 95 (0, 0)) fun eN lK =>
 aK lK ⟨eN, 0, none⟩ (.int .i64 iN) fun su =>
 aK su ⟨eN, (0 + 1), none⟩ (.int .u64 jM) fun fz =>
 aJ (Mem.ld fz ⟨eN, 0, none⟩) .i64 fun iW =>
 aO (iW != x1)
  (aJ (Mem.ld fz ⟨b0, (o0 + 1), none⟩) .i64 fun lA =>
  aJ (Mem.ld fz ⟨eN, 0, none⟩) .i64 fun yT =>
  aJ (Mem.ld fz ⟨eN, (0 + 1), none⟩) .u64 fun gk =>
  Kp [{ v := (.iface 97 (.agg #[(.int .i64 lA), (.int .i64 x1), (.int .i64 x2), (.int .i64 yT), (.int .u64 gk)])), recovered := false }] fz)
  (aJ (Mem.ld fz ⟨eN, (0 + 1), none⟩) .u64 fun sL =>
  aO (decide ((sL : Int) ≥ (IntKind.wrap .u64 x2)))
   (aJ (Mem.ld fz ⟨b0, (o0 + 1), none⟩) .i64 fun wX =>
   aJ (Mem.ld fz ⟨eN, 0, none⟩) .i64 fun oY =>
   aJ (Mem.ld fz ⟨eN, (0 + 1), none⟩) .u64 fun BZ =>
   Kp [{ v := (.iface 97 (.agg #[(.int .i64 wX), (.int .i64 x1), (.int .i64 x2), (.int .i64 oY), (.int .u64 BZ)])), recovered := false }] fz)
   (aJ (Mem.ld fz ⟨b0, (o0 + 1), none⟩) .i64 fun mN =>
   aK fz ⟨b0, (o0 + 1), none⟩ (.int .i64 (IntKind.wrap .i64 (mN + 1))) fun yd =>
   aJ (Mem.ld yd ⟨eN, (0 + 1), none⟩) .u64 fun oG =>
   K (.int .u64 oG) yd)))) :
 aa Tryz.prog 198 ([.pointer (some ⟨b0, o0, none⟩), .int .i64 x1, .int .i64 x2] : List Value).toArray M K Kp :=
 cq (C := Cx) good [(1, .bR [0, 1, 3, 7, 0, 16, 48, 112, 240, 511] (.step 0 (.step 1 (.step 2 (.step 4 (.step 5 (.step 6 (.step 3 (.step 7 (.step 8 (.step 9 .done))))))))))), (3, .bR [0, 1, 3, 7, 0, 16, 48, 112, 255, 511, 0, 2047] (.step 0 (.step 1 (.step 2 (.step 4 (.step 5 (.step 6 (.step 3 (.step 7 (.step 8 (.step 9 (.step 10 (.step 11 .done))))))))))))), (5, .bR [0, 1, 3, 7, 0, 0, 0, 127, 255, 511] (.step 0 (.step 1 (.step 2 (.step 4 (.step 5 (.step 3 (.step 6 (.step 7 (.step 8 (.step 9 .done)))))))))))] Tryz.func198 (by kernel_rfl) (by kernel_rfl) h
theorem oN {b0 o0 : Nat} {x1 : Int} {x2 : Int} (h :
dZ (Mem.ld M ⟨b0, o0, none⟩) fun v1 =>
iF Cx v1 [(iV x1), (iV (if (1 : Int) > x2 then 1 else x2))] M (fun v2 M3 =>
aJ (some v2) .u64 fun n4 =>
bh M3 Iv fun k5 M6 =>
sT2 M6 k5 (iV x1) (.int .u64 n4) fun M8 =>
rS M8 b0 (o0 + 2) fun A9 gn eO =>
rIU M8 k5 0 fun jM iM =>
bh M8 (cl [(iV jM), (.int .u64 iM)] 95) fun jJ su =>
aA 149 A9 gn eO (some ⟨jJ, 0, none⟩) 1 1 su (fun Nk oE =>
aB (some Nk) fun Kj jK lz =>
sT oE b0 (o0 + 2) (.slice Kj jK lz) fun oB =>
dZ (Mem.ld oB ⟨b0, (o0 + 3), none⟩) fun Kg =>
Ig Kg fun t23 =>
aO (!t23)
 (dZ (Mem.ld oB ⟨b0, (o0 + 3), none⟩) fun Yl =>
 rIU oB k5 0 fun mN ox =>
 iF Cx Yl [(.agg #[(iV mN), (.int .u64 ox)])] oB (fun Qu uq =>
 (Qu = (.tuple #[])) ∧
 rU uq k5 1 fun yb =>
 K (iV (IntKind.wrap .i64 yb)) uq) Kp)
 (rU oB k5 1 fun GM =>
 K (iV (IntKind.wrap .i64 GM)) oB)) Kp) Kp) :
 aa Tryz.prog 107 #[.pointer (some ⟨b0, o0, none⟩), .int .i64 x1, .int .i64 x2] M K Kp := vw [(2, .bR [0, 0, 2, 6, 14, 0, 32, 126, 255, 511, 1023] (sy [0, 1, 2, 3, 4, 5, 6, 7, 8, 9, 10] .done)), (4, .bR [0, 1, 3, 7, 0, 31] (sy [0, 1, 2, 3, 4, 5] .done))] Tryz.func107 h
end Go.Proofs
namespace Go.Proofs
open Go.AF
set_option maxRecDepth 100000
variable {M : Mem} {K : Value → Mem → Prop} {Kp : List PanicEntry → Mem → Prop}
theorem C7 {x0 : Int} (h :
aa Tryz.prog 115 #[(iV x0)] M (fun v1 M2 =>
cw (some v1) fun A3 =>
bh M2 (cl [(iV (-1)), (.pointer A3)] 237) fun k4 M5 =>
K (.pointer (some ⟨k4, 0, none⟩)) M5) Kp) :
 aa Tryz.prog 57 #[.int .i64 x0] M K Kp := vw [] Tryz.func57 h
theorem rK {b0 o0 : Nat} {B1 : Option Addr} {m1 c1 : Nat} (h :
aB (Mem.ld M ⟨b0, o0, none⟩) fun A1 k2 k3 =>
aY Tryz.prog (Go.Builtin.append_ #[36, 36] 36 #[(.slice A1 k2 k3), (.slice B1 m1 c1)]) M (fun v4 M5 =>
aB (some v4) fun A6 k7 k8 =>
aK M5 ⟨b0, o0, none⟩ (.slice A6 k7 k8) fun M9 =>
K (.tuple #[]) M9) Kp) :
 aa Tryz.prog 58 ([.pointer (some ⟨b0, o0, none⟩), .slice B1 m1 c1] : List Value).toArray M K Kp :=
 cq (C := Cx) good [] Tryz.func58 (by kernel_rfl) (by kernel_rfl) h
theorem rL {b0 o0 : Nat} (h :
rI M b0 o0 fun n1 =>
K (iV n1) M) :
 aa Tryz.prog 148 #[.pointer (some ⟨b0, o0, none⟩)] M K Kp := vw [] Tryz.func148 h
theorem EJ {x0 : Int} (h :
aY Tryz.prog (Go.Instr.makeSlice 36 (iV (if (1024 : Int) < (if (1 : Int) > x0 then 1 else x0) then 1024 else (if (1 : Int) > x0 then 1 else x0))) (iV (if (1024 : Int) < (if (1 : Int) > x0 then 1 else x0) then 1024 else (if (1 : Int) > x0 then 1 else x0)))) M (fun v1 M2 =>
aB (some v1) fun A3 k4 k5 =>
bh M2 (cl [(.slice A3 k4 k5), (iV 0), (iV 0)] 309) fun k6 M7 =>
K (.pointer (some ⟨k6, 0, none⟩)) M7) Kp) :
 aa Tryz.prog 115 #[.int .i64 x0] M K Kp := vw [] Tryz.func115 h
theorem tp {b0 o0 : Nat} (h :
rI M b0 o0 fun n1 =>
aO (n1 != (-1))
 (sT M b0 o0 (iV (-1)) fun M2 =>
 K (.tuple #[(iV n1), (.bool true)]) M2)
 (rP M b0 (o0 + 1) fun A3 =>
 aa Tryz.prog 177 #[(.pointer A3)] M (fun v4 M5 =>
 ∃ n6 : Int, ∃ t7 : Bool, (v4 = (.tuple #[(iV n6), (.bool t7)])) ∧
 aO (!t7)
 (K (.tuple #[(iV (-1)), (.bool false)]) M5)
 (K (.tuple #[(iV n6), (.bool true)]) M5)) Kp)) :
 aa Tryz.prog 149 #[.pointer (some ⟨b0, o0, none⟩)] M K Kp := vw [] Tryz.func149 h
theorem jx {b0 o0 : Nat} {b1 o1 : Nat} (h :
Go.AF.ptrEq M (some ⟨b0, o0, none⟩) (some ⟨b1, o1, none⟩) fun t1 =>
aO t1
 (K (.tuple #[(iV (-1)), (.bool false)]) M)
 (rP M b1 (o1 + 1) fun A2 =>
 aa Tryz.prog 181 #[(.pointer A2)] M (fun v3 M4 =>
 aJ (some v3) .i64 fun n5 =>
 aO (n5 == 0)
 (rI M4 b1 o1 fun n6 =>
 sT M4 b1 o1 (iV (-1)) fun M7 =>
 K (.tuple #[(iV n6), (.bool (n6 != (-1)))]) M7)
 (((2 : Int) ≠ 0) ∧
 rP M4 b0 (o0 + 1) fun A8 =>
 rP M4 b1 (o1 + 1) fun A9 =>
 rP M4 b0 (o0 + 1) fun AO =>
 aa Tryz.prog 183 #[(.pointer A8)] M4 (fun v11 sj =>
 aJ (some v11) .i64 fun iM =>
 ((Mem.ld sj ⟨b0, (o0 + 1), none⟩) = (some (.pointer AO))) ∧
 ((Mem.ld sj ⟨b1, (o1 + 1), none⟩) = (some (.pointer A9))) ∧
 aa Tryz.prog 181 #[(.pointer AO)] sj (fun Yn su =>
 aJ (some Yn) .i64 fun nm =>
 ((Mem.ld su ⟨b0, (o0 + 1), none⟩) = (some (.pointer AO))) ∧
 ((Mem.ld su ⟨b1, (o1 + 1), none⟩) = (some (.pointer A9))) ∧
 aa Tryz.prog 182 #[(.pointer A9), (iV (if ((IntKind.wrap .i64 ((IntKind.wrap .i64 (iM - nm)) + 1)) : Int) < (IntKind.wrap .i64 (n5 - (IntKind.wrap .i64 (Int.tdiv n5 2)))) then (IntKind.wrap .i64 ((IntKind.wrap .i64 (iM - nm)) + 1)) else (IntKind.wrap .i64 (n5 - (IntKind.wrap .i64 (Int.tdiv n5 2))))))] su (fun Qz sS =>
 aB (some Qz) fun DP lz fM =>
 ((Mem.ld sS ⟨b0, (o0 + 1), none⟩) = (some (.pointer AO))) ∧
 ((Mem.ld sS ⟨b1, (o1 + 1), none⟩) = (some (.pointer A9))) ∧
 ((0 : Int) ≤ fM) ∧
 ((fM : Int) ≤ fM) ∧
 ((0 : Int) ≤ lz) ∧
 ((lz : Int) ≤ fM) ∧
 ((0 : Int) ≤ 1) ∧
 ((1 : Int) ≤ lz) ∧
 ∃ I22 : IT, (∃ jq, I22 jq [(iV 0)] sS) ∧
 ∀ (sM : Nat) (_ : Nat → Value) (ox : Int) (wZ : Mem), (I22 sM [(iV ox)] wZ) → aO (decide ((ox : Int) < ((((Int.toNat (lz : Int)) - 1) : Nat) : Int)))
 ((0 ≤ ox) ∧
 ((ox : Int) < ((((Int.toNat (lz : Int)) - 1) : Nat) : Int)) ∧
 aF (lF DP 1 (Int.toNat (fM : Int)) 1) fun pO iy =>
 rI wZ pO (iy + (Int.toNat ox)) fun GM =>
 rP wZ b0 (o0 + 1) fun Yf =>
 aa Tryz.prog 184 #[(.pointer Yf), (iV GM)] wZ (fun Uf Ay =>
 de (some Uf) fun t34 =>
 ∃ Aw : Nat, (Aw < sM) ∧
 I22 Aw [(iV (IntKind.wrap .i64 (ox + 1)))] Ay) Kp)
 (((0 : Int) ≤ 0) ∧
 ((0 : Int) < lz) ∧
 aF DP fun Ng jU =>
 rI wZ Ng (jU + 0) fun Ka =>
 K (.tuple #[(iV Ka), (.bool true)]) wZ)) Kp) Kp) Kp)) Kp)) :
 aa Tryz.prog 151 #[.pointer (some ⟨b0, o0, none⟩), .pointer (some ⟨b1, o1, none⟩)] M K Kp := vw [(8, .bR [0, 1, 3, 7, 0, 0, 32, 112, 0, 256, 768, 1792, 3840, 0, 8192, 24576, 57344, 130816, 261888, 524032, 1048560, 2097151, 4194303] (sy [0, 1, 2, 4, 5, 6, 7, 8, 9, 10, 13, 14, 15, 11] (.dw 3 (.dw 16 (sy [12, 17, 18, 19, 20, 21, 22] .done))))), (2000000, .loop [(56, .c (.int .i64))])] Tryz.func151 h
theorem pV {b0 o0 : Nat} {x1 : Int} {b2 o2 : Nat} (h :
rI M b0 o0 fun n1 =>
sT M b0 o0 (iV x1) fun M2 =>
aO (n1 == (-1))
 (K (iV 0) M2)
 (aa Tryz.prog 185 #[(.pointer (some ⟨b0, o0, none⟩)), (iV n1), (.pointer (some ⟨b2, o2, none⟩))] M2 (fun v3 M4 =>
 aJ (some v3) .i64 fun n5 =>
 K (iV n5) M4) Kp)) :
 aa Tryz.prog 152 #[.pointer (some ⟨b0, o0, none⟩), .int .i64 x1, .pointer (some ⟨b2, o2, none⟩)] M K Kp := vw [] Tryz.func152 h
theorem vV {b0 o0 : Nat} (h :
rI M b0 (o0 + 2) fun n1 =>
aO (n1 == 0)
 (K (.tuple #[(iV 0), (.bool false)]) M)
 (rS M b0 o0 fun A2 k3 k4 =>
 rI M b0 (o0 + 1) fun n5 =>
 (0 ≤ n5) ∧
 (n5 < k3) ∧
 aF A2 fun k6 k7 =>
 rI M k6 (k7 + (Int.toNat n5)) fun n8 =>
 rI M b0 (o0 + 1) fun n9 =>
 rS M b0 o0 fun AO eO gH =>
 ((eO : Int) ≠ 0) ∧
 sT M b0 (o0 + 1) (iV (Int.tmod (IntKind.wrap .i64 (n9 + 1)) (eO : Int))) fun mL =>
 rI mL b0 (o0 + 2) fun mb =>
 sT mL b0 (o0 + 2) (iV (IntKind.wrap .i64 (mb - 1))) fun su =>
 K (.tuple #[(iV n8), (.bool true)]) su)) :
 aa Tryz.prog 177 #[.pointer (some ⟨b0, o0, none⟩)] M K Kp := vw [(3, .bR [0, 1, 3, 7, 0, 16, 48, 112, 255, 511, 1023] (sy [0, 1, 2, 4, 5, 6, 3, 7, 8, 9, 10] .done)), (4, .bR [0, 0, 2, 6, 14, 30, 0, 64, 192, 448, 960, 2046, 4095, 8191, 16383] (sy [0, 1, 2, 3, 6, 7, 8, 4, 5, 9, 10, 11, 12, 13, 14] .done))] Tryz.func177 h
theorem rM {b0 o0 : Nat} {b1 o1 : Nat} (h :
rI M b0 o0 fun n1 =>
aO (n1 == (-1))
 (K (iV 0) M)
 (sT M b0 o0 (iV (-1)) fun M2 =>
 aa Tryz.prog 185 #[(.pointer (some ⟨b0, o0, none⟩)), (iV n1), (.pointer (some ⟨b1, o1, none⟩))] M2 (fun v3 M4 =>
 aJ (some v3) .i64 fun n5 =>
 K (iV n5) M4) Kp)) :
 aa Tryz.prog 178 #[.pointer (some ⟨b0, o0, none⟩), .pointer (some ⟨b1, o1, none⟩)] M K Kp := vw [] Tryz.func178 h
theorem pW {b0 o0 : Nat} {x1 : Int} (h :
aB (Mem.ld M ⟨b0, o0, none⟩) fun A1 k2 k3 =>
bh M (.cells #[] 3 (0, 0)) fun k4 M5 =>
aB (Mem.ld M5 ⟨b0, o0, none⟩) fun A6 k7 k8 =>
((0 : Int) ≤ ((k8 : Nat) : Int)) ∧
((((k8 : Nat) : Int) : Int) ≤ ((k8 : Nat) : Int)) ∧
((0 : Int) ≤ (if (((k2 : Nat) : Int) : Int) < (if (0 : Int) > x1 then 0 else x1) then ((k2 : Nat) : Int) else (if (0 : Int) > x1 then 0 else x1))) ∧
(((if (((k2 : Nat) : Int) : Int) < (if (0 : Int) > x1 then 0 else x1) then ((k2 : Nat) : Int) else (if (0 : Int) > x1 then 0 else x1)) : Int) ≤ ((k8 : Nat) : Int)) ∧
((0 : Int) ≤ 0) ∧
((0 : Int) ≤ (if (((k2 : Nat) : Int) : Int) < (if (0 : Int) > x1 then 0 else x1) then ((k2 : Nat) : Int) else (if (0 : Int) > x1 then 0 else x1))) ∧
aY Tryz.prog (Go.Builtin.append_ #[36, 36] 36 #[(.slice (some ⟨k4, 0, none⟩) 0 0), (.slice (lF A6 0 (Int.toNat ((k8 : Nat) : Int)) 1) ((Int.toNat (if (((k2 : Nat) : Int) : Int) < (if (0 : Int) > x1 then 0 else x1) then ((k2 : Nat) : Int) else (if (0 : Int) > x1 then 0 else x1))) - 0) ((Int.toNat ((k8 : Nat) : Int)) - 0))]) M5 (fun v9 iZ =>
aB (some v9) fun PI gH eN =>
bh iZ (.cells #[] 3 (0, 0)) fun jJ su =>
aB (Mem.ld su ⟨b0, o0, none⟩) fun W8 fB en =>
((0 : Int) ≤ ((en : Nat) : Int)) ∧
((((en : Nat) : Int) : Int) ≤ ((en : Nat) : Int)) ∧
((0 : Int) ≤ ((fB : Nat) : Int)) ∧
((((fB : Nat) : Int) : Int) ≤ ((en : Nat) : Int)) ∧
((0 : Int) ≤ (if (((k2 : Nat) : Int) : Int) < (if (0 : Int) > x1 then 0 else x1) then ((k2 : Nat) : Int) else (if (0 : Int) > x1 then 0 else x1))) ∧
(((if (((k2 : Nat) : Int) : Int) < (if (0 : Int) > x1 then 0 else x1) then ((k2 : Nat) : Int) else (if (0 : Int) > x1 then 0 else x1)) : Int) ≤ ((fB : Nat) : Int)) ∧
aY Tryz.prog (Go.Builtin.append_ #[36, 36] 36 #[(.slice (some ⟨jJ, 0, none⟩) 0 0), (.slice (lF W8 (Int.toNat (if (((k2 : Nat) : Int) : Int) < (if (0 : Int) > x1 then 0 else x1) then ((k2 : Nat) : Int) else (if (0 : Int) > x1 then 0 else x1))) (Int.toNat ((en : Nat) : Int)) 1) ((Int.toNat ((fB : Nat) : Int)) - (Int.toNat (if (((k2 : Nat) : Int) : Int) < (if (0 : Int) > x1 then 0 else x1) then ((k2 : Nat) : Int) else (if (0 : Int) > x1 then 0 else x1)))) ((Int.toNat ((en : Nat) : Int)) - (Int.toNat (if (((k2 : Nat) : Int) : Int) < (if (0 : Int) > x1 then 0 else x1) then ((k2 : Nat) : Int) else (if (0 : Int) > x1 then 0 else x1)))))]) su (fun T5 vP =>
aB (some T5) fun C0 gV jq =>
aK vP ⟨b0, o0, none⟩ (.slice C0 gV jq) fun j8 =>
K (.slice PI gH eN) j8) Kp) Kp) :
 aa Tryz.prog 179 ([.pointer (some ⟨b0, o0, none⟩), .int .i64 x1] : List Value).toArray M K Kp :=
 cq (C := Cx) good [] Tryz.func179 (by kernel_rfl) (by kernel_rfl) h
theorem pX {b0 o0 : Nat} {b1 o1 : Nat} {x2 : Int} (h :
rP M b0 (o0 + 1) fun A1 =>
rP M b0 (o0 + 1) fun A2 =>
aa Tryz.prog 202 #[(.pointer (some ⟨b1, o1, none⟩))] M (fun v3 M4 =>
aJ (some v3) .i64 fun n5 =>
((Mem.ld M4 ⟨b0, (o0 + 1), none⟩) = (some (.pointer A2))) ∧
((Mem.ld M4 ⟨b0, (o0 + 1), none⟩) = (some (.pointer A1))) ∧
(((if (1 : Int) > x2 then 1 else x2) : Int) ≠ 0) ∧
aa Tryz.prog 183 #[(.pointer A1)] M4 (fun v6 M7 =>
aJ (some v6) .i64 fun n8 =>
((Mem.ld M7 ⟨b0, (o0 + 1), none⟩) = (some (.pointer A2))) ∧
((Mem.ld M7 ⟨b0, (o0 + 1), none⟩) = (some (.pointer A1))) ∧
aa Tryz.prog 181 #[(.pointer A2)] M7 (fun v9 iZ =>
aJ (some v9) .i64 fun iN =>
((Mem.ld iZ ⟨b0, (o0 + 1), none⟩) = (some (.pointer A2))) ∧
((Mem.ld iZ ⟨b0, (o0 + 1), none⟩) = (some (.pointer A1))) ∧
aO (decide ((x2 : Int) < 1))
 (aa Tryz.prog 179 #[(.pointer (some ⟨b1, o1, none⟩)), (iV 1)] iZ (fun It mL =>
 aB (some It) fun oX iC fL =>
 aO ((iC : Int) == 0)
 (K (.tuple #[(iV (-1)), (.bool false)]) mL)
 (((0 : Int) ≤ fL) ∧
 ((fL : Int) ≤ fL) ∧
 ((0 : Int) ≤ iC) ∧
 ((iC : Int) ≤ fL) ∧
 ((0 : Int) ≤ 1) ∧
 ((1 : Int) ≤ iC) ∧
 ∃ I17 : IT, (∃ en, I17 en [(iV 0)] mL) ∧
 ∀ (jK : Nat) (_ : Nat → Value) (sL : Int) (dP : Mem), (I17 jK [(iV sL)] dP) → aO (decide ((sL : Int) < ((((Int.toNat (iC : Int)) - 1) : Nat) : Int)))
 ((0 ≤ sL) ∧
 ((sL : Int) < ((((Int.toNat (iC : Int)) - 1) : Nat) : Int)) ∧
 aF (lF oX 1 (Int.toNat (fL : Int)) 1) fun jq sM =>
 rI dP jq (sM + (Int.toNat sL)) fun mN =>
 rP dP b0 (o0 + 1) fun Ug =>
 aa Tryz.prog 184 #[(.pointer Ug), (iV mN)] dP (fun Qu uq =>
 de (some Qu) fun t29 =>
 ∃ mj : Nat, (mj < jK) ∧
 I17 mj [(iV (IntKind.wrap .i64 (sL + 1)))] uq) Kp)
 (((0 : Int) ≤ 0) ∧
 ((0 : Int) < iC) ∧
 aF oX fun nI uv =>
 rI dP nI (uv + 0) fun sO =>
 K (.tuple #[(iV sO), (.bool true)]) dP))) Kp)
 (aa Tryz.prog 179 #[(.pointer (some ⟨b1, o1, none⟩)), (iV (if ((IntKind.wrap .i64 ((IntKind.wrap .i64 (n8 - iN)) + 1)) : Int) < (IntKind.wrap .i64 ((IntKind.wrap .i64 (Int.tdiv n5 (if (1 : Int) > x2 then 1 else x2))) + 1)) then (IntKind.wrap .i64 ((IntKind.wrap .i64 (n8 - iN)) + 1)) else (IntKind.wrap .i64 ((IntKind.wrap .i64 (Int.tdiv n5 (if (1 : Int) > x2 then 1 else x2))) + 1))))] iZ (fun v34 AX =>
 aB (some v34) fun SK jU iD =>
 aO ((jU : Int) == 0)
 (K (.tuple #[(iV (-1)), (.bool false)]) AX)
 (((0 : Int) ≤ iD) ∧
 ((iD : Int) ≤ iD) ∧
 ((0 : Int) ≤ jU) ∧
 ((jU : Int) ≤ iD) ∧
 ((0 : Int) ≤ 1) ∧
 ((1 : Int) ≤ jU) ∧
 ∃ I39 : IT, (∃ FQ, I39 FQ [(iV 0)] AX) ∧
 ∀ (MR : Nat) (_ : Nat → Value) (xY : Int) (AW : Mem), (I39 MR [(iV xY)] AW) → aO (decide ((xY : Int) < ((((Int.toNat (jU : Int)) - 1) : Nat) : Int)))
 ((0 ≤ xY) ∧
 ((xY : Int) < ((((Int.toNat (jU : Int)) - 1) : Nat) : Int)) ∧
 aF (lF SK 1 (Int.toNat (iD : Int)) 1) fun Kc MS =>
 rI AW Kc (MS + (Int.toNat xY)) fun sq =>
 rP AW b0 (o0 + 1) fun Nv =>
 aa Tryz.prog 184 #[(.pointer Nv), (iV sq)] AW (fun Kd xZ =>
 de (some Kd) fun t51 =>
 ∃ qG : Nat, (qG < MR) ∧
 I39 qG [(iV (IntKind.wrap .i64 (xY + 1)))] xZ) Kp)
 (((0 : Int) ≤ 0) ∧
 ((0 : Int) < jU) ∧
 aF SK fun sP Ke =>
 rI AW sP (Ke + 0) fun n55 =>
 K (.tuple #[(iV n55), (.bool true)]) AW))) Kp)) Kp) Kp) Kp) :
 aa Tryz.prog 180 #[.pointer (some ⟨b0, o0, none⟩), .pointer (some ⟨b1, o1, none⟩), .int .i64 x2] M K Kp := vw [(1, .bR [0, 1, 0, 4, 15, 31, 0, 64, 192, 448, 963, 0, 2048, 6144, 14336, 32707, 65475, 131011, 262143, 524287] (sy [0, 2, 3, 6, 7, 8, 11, 12, 13] (.dw 9 (.dw 14 (sy [1, 4, 5, 10, 15, 16, 17, 18, 19] .done))))), (2000000, .loop [(42, .c (.int .i64))])] Tryz.func180 h
theorem vW {b0 o0 : Nat} (h :
rI M b0 (o0 + 2) fun n1 =>
K (iV n1) M) :
 aa Tryz.prog 181 #[.pointer (some ⟨b0, o0, none⟩)] M K Kp := vw [] Tryz.func181 h
theorem uG {b0 o0 : Nat} {x1 : Int} (h :
∃ I1 : IT, (∃ k2, I1 k2 [(.slice none 0 0)] M) ∧
∀ (k3 : Nat) (_ : Nat → Value) (A5 : Option Addr) (k6 : Nat) (k7 : Nat) (M8 : Mem), (I1 k3 [(.slice A5 k6 k7)] M8) → aO (decide ((k6 : Int) < x1))
 (aa Tryz.prog 177 #[(.pointer (some ⟨b0, o0, none⟩))] M8 (fun v9 iZ =>
 ∃ iN : Int, ∃ t12 : Bool, (v9 = (.tuple #[(iV iN), (.bool t12)])) ∧
 aO (!t12)
 (K (.slice A5 k6 k7) iZ)
 (bh iZ (cl [(iV iN)] 3) fun eN lK =>
 aA 36 A5 k6 k7 (some ⟨eN, 0, none⟩) 1 1 lK (fun C1 fz =>
 aB (some C1) fun PE en jK =>
 ∃ lz : Nat, (lz < k3) ∧
 I1 lz [(.slice PE en jK)] fz) Kp)) Kp)
 (K (.slice A5 k6 k7) M8)) :
 aa Tryz.prog 182 #[.pointer (some ⟨b0, o0, none⟩), .int .i64 x1] M K Kp := vw [(2000000, .loop [(5, .c .sl)])] Tryz.func182 h
theorem uH {b0 o0 : Nat} (h :
rS M b0 o0 fun A1 k2 k3 =>
K (iV (k2 : Int)) M) :
 aa Tryz.prog 183 #[.pointer (some ⟨b0, o0, none⟩)] M K Kp := vw [] Tryz.func183 h
theorem uI {b0 o0 : Nat} {x1 : Int} (h :
rI M b0 (o0 + 2) fun n1 =>
rS M b0 o0 fun A2 k3 k4 =>
aO (n1 == (k3 : Int))
 (K (.bool false) M)
 (rS M b0 o0 fun A5 k6 k7 =>
 rI M b0 (o0 + 1) fun n8 =>
 rI M b0 (o0 + 2) fun n9 =>
 rS M b0 o0 fun AO eO gH =>
 ((eO : Int) ≠ 0) ∧
 ((0 : Int) ≤ (Int.tmod (IntKind.wrap .i64 (n8 + n9)) (eO : Int))) ∧
 (((Int.tmod (IntKind.wrap .i64 (n8 + n9)) (eO : Int)) : Int) < (k6 : Int)) ∧
 aF A5 fun eN jJ =>
 sT M eN (jJ + (Int.toNat (Int.tmod (IntKind.wrap .i64 (n8 + n9)) (eO : Int)))) (iV x1) fun su =>
 rI su b0 (o0 + 2) fun nm =>
 sT su b0 (o0 + 2) (iV (IntKind.wrap .i64 (nm + 1))) fun oE =>
 K (.bool true) oE)) :
 aa Tryz.prog 184 #[.pointer (some ⟨b0, o0, none⟩), .int .i64 x1] M K Kp := vw [(1, .bR [0, 1, 3, 7, 0, 16, 48, 112, 240, 511] (sy [0, 1, 2, 4, 5, 6, 3, 7, 8, 9] .done)), (3, .bR [0, 1, 3, 7, 0, 16, 48, 112, 0, 256, 768, 1792, 4080, 0, 8192, 24576, 57344, 122880, 262128, 0, 1048575, 2097151] (sy [0, 1, 2, 4, 5, 6, 8, 9, 10, 13, 14, 15, 19, 3, 7, 11, 12, 16, 17, 18, 20, 21] .done))] Tryz.func184 h
theorem tq {b0 o0 : Nat} {x1 : Int} {b2 o2 : Nat} (h :
rP M b0 (o0 + 1) fun A1 =>
aa Tryz.prog 184 #[(.pointer A1), (iV x1)] M (fun v2 M3 =>
de (some v2) fun t4 =>
aO t4
 (K (iV 0) M3)
 (rP M3 b0 (o0 + 1) fun A5 =>
 rP M3 b0 (o0 + 1) fun A6 =>
 (True) ∧
 aa Tryz.prog 181 #[(.pointer A5)] M3 (fun v7 M8 =>
 aJ (some v7) .i64 fun n9 =>
 ((Mem.ld M8 ⟨b0, (o0 + 1), none⟩) = (some (.pointer A6))) ∧
 ((2 : Int) ≠ 0) ∧
 (True) ∧
 aa Tryz.prog 182 #[(.pointer A6), (iV (IntKind.wrap .i64 (Int.tdiv n9 2)))] M8 (fun v10 jL =>
 aB (some v10) fun Ax eN jJ =>
 ((Mem.ld jL ⟨b0, (o0 + 1), none⟩) = (some (.pointer A6))) ∧
 bh jL (cl [(iV x1)] 3) fun iC fz =>
 aA 36 Ax eN jJ (some ⟨iC, 0, none⟩) 1 1 fz (fun Qz sS =>
 aB (some Qz) fun DP lz fM =>
 ((Mem.ld sS ⟨b0, (o0 + 1), none⟩) = (some (.pointer A6))) ∧
 aa Tryz.prog 58 #[(.pointer (some ⟨b2, o2, none⟩)), (.slice DP lz fM)] sS (fun Kg me =>
 (Kg = (.tuple #[])) ∧
 K (iV (lz : Int)) me) Kp) Kp) Kp) Kp)) Kp) :
 aa Tryz.prog 185 #[.pointer (some ⟨b0, o0, none⟩), .int .i64 x1, .pointer (some ⟨b2, o2, none⟩)] M K Kp := vw [(3, .bR [0, 1, 3, 7, 0, 16, 48, 112, 240, 496, 1023, 0, 2048, 8191, 16383] (sy [0, 1, 2, 4, 5, 6, 11, 7] (.dw 3 (.late 8 (sy [9] (.late 10 (sy [12, 13, 14] .done)))))))] Tryz.func185 h
theorem rN {b0 o0 : Nat} (h :
aB (Mem.ld M ⟨b0, o0, none⟩) fun A1 k2 k3 =>
K (.int .i64 ((k2 : Nat) : Int)) M) :
 aa Tryz.prog 202 ([.pointer (some ⟨b0, o0, none⟩)] : List Value).toArray M K Kp :=
 cq (C := Cx) good [] Tryz.func202 (by kernel_rfl) (by kernel_rfl) h
end Go.Proofs
namespace Go.Proofs
open Go.AF
set_option maxRecDepth 100000
variable {M : Mem} {K : Value → Mem → Prop} {Kp : List PanicEntry → Mem → Prop}
theorem C8 {mR : Option Addr} {mS mT : Nat} {mU : Option Addr} {mV mW : Nat} {gU : Int} {mX : Option Addr} {mY mZ : Nat} {cK : Int} {cL : Int} {cN : Int} {eE : Int} {b2 o2 : Nat} (h :
bh M (cl [(.slice mR mS mT), (.slice mU mV mW), (iV gU), (.slice mX mY mZ)] 39) fun k1 M2 =>
bh M2 (cl [(iV cK), (iV cL), (iV cN), (iV eE)] 29) fun k3 M4 =>
yN M4 k1 0 fun A5 k6 k7 A8 k9 gn iN Ax eN jJ =>
bG M4 k3 0 fun lq nm iW lA =>
aa Tryz.prog 56 #[(.agg #[(.slice A5 k6 k7), (.slice A8 k9 gn), (iV iN), (.slice Ax eN jJ)])] M4 (fun T5 vP =>
cw (some T5) fun C0 =>
((Mem.g9 vP ⟨k3, 0, none⟩ 0 4) = some [(iV lq), (iV nm), (iV iW), (iV lA)]) ∧
bh vP (cl [(.pointer C0), (iV lq), (iV nm), (iV iW), (iV lA), (.slice none 0 0), (.slice none 0 0), (.slice none 0 0), (.pointer (some ⟨b2, o2, none⟩)), (iV 0)] 137) fun gV me =>
rI me k3 0 fun BZ =>
∃ Uh : IT, (∃ tP, Uh tP [(iV 0)] me) ∧
∀ (Av : Nat) (_ : Nat → Value) (yb : Int) (ur : Mem), (Uh Av [(iV yb)] ur) → aO (decide (yb < BZ))
 (∃ J31 : List Value → Mem → Prop, (rI ur k3 2 fun n32 =>
 (rS ur gV 5 fun Gx oW Aw =>
 aa Tryz.prog 57 #[(iV n32)] ur (fun v36 GO =>
 cw (some v36) fun A38 =>
 bh GO (cl [(.pointer A38), (iV 0), (iV (-1))] 141) fun xB T6 =>
 aA 132 Gx oW Aw (some ⟨xB, 0, none⟩) 1 1 T6 (fun v41 Qx =>
 aB (some v41) fun A43 LB Kc =>
 sT Qx gV 5 (.slice A43 LB Kc) fun FV =>
 J31 [] FV) Kp) Kp) ∧
 (aa Tryz.prog 57 #[(iV n32)] ur (fun v47 MT =>
 cw (some v47) fun Yt =>
 rS MT gV 5 fun Xb ID qG =>
 bh MT (cl [(.pointer Yt), (iV 0), (iV (-1))] 141) fun sP Qs =>
 aA 132 Xb ID qG (some ⟨sP, 0, none⟩) 1 1 Qs (fun X8 X9 =>
 aB (some X8) fun W4 DO Sz =>
 sT X9 gV 5 (.slice W4 DO Sz) fun pI =>
 J31 [] pI) Kp) Kp) ∧
 True) ∧
 ∀ junk61 : Nat → Value, ∀ vo : Mem, (J31 [] vo) → ∃ Kl : Nat, (Kl < Av) ∧
 Uh Kl [(iV (IntKind.wrap .i64 (yb + 1)))] vo)
 (rI ur k3 1 fun n64 =>
 ∃ I65 : IT, (∃ II, I65 II [(iV 0)] ur) ∧
 ∀ (vp : Nat) (_ : Nat → Value) (Yu : Int) (IC : Mem), (I65 vp [(iV Yu)] IC) → aO (decide (Yu < n64))
 (rS IC gV 6 fun Ui Yr Kr =>
 bh IC (cl [(iV (-1)), (iV (-1)), (iV 0)] 143) fun IJ AY =>
 aA 133 Ui Yr Kr (some ⟨IJ, 0, none⟩) 1 1 AY (fun Yv Ko =>
 aB (some Yv) fun A78 QG Nu =>
 sT Ko gV 6 (.slice A78 QG Nu) fun Yw =>
 ∃ Kn : Nat, (Kn < vp) ∧
 I65 Kn [(iV (IntKind.wrap .i64 (Yu + 1)))] Yw) Kp)
 (bh IC Su fun y7 Nw =>
 aa Tryz.prog 58 #[(.pointer (some ⟨gV, 7, none⟩)), (.slice (some ⟨y7, 0, none⟩) 1 1)] Nw (fun Uj GP =>
 (Uj = (.tuple #[])) ∧
 K (.pointer (some ⟨gV, 0, none⟩)) GP) Kp))) Kp) :
 aa Tryz.prog 15 #[.agg #[.slice mR mS mT, .slice mU mV mW, .int .i64 gU, .slice mX mY mZ], .agg #[.int .i64 cK, .int .i64 cL, .int .i64 cN, .int .i64 eE], .pointer (some ⟨b2, o2, none⟩)] M K Kp := vw [(1, .bR [0, 1, 0, 0, 15, 31, 63] (sy [3, 0] (.dw 2 (sy [1, 4, 5, 6] .done)))), (2000000, .loop [(16, .c (.int .i64))]), (4, .JS [0, 0, 2, 6, 14, 0, 32, 96, 224, 480, 1022, 2047, 4095, 8191] (sy [0, 1, 2, 3, 5, 6] (.fork 4 (sy [7, 8, 9, 10, 11, 12, 13] .done) (.fork 7 (sy [8, 4, 9, 10, 11, 12, 13] .done) .dead))) []), (2000002, .loop [(34, .c (.int .i64))])] Tryz.func15 h
theorem pY {b0 o0 : Nat} (h :
rP M b0 o0 fun A1 =>
K (.pointer A1) M) :
 aa Tryz.prog 18 #[.pointer (some ⟨b0, o0, none⟩)] M K Kp := vw [] Tryz.func18 h
theorem oO {b0 o0 : Nat} (h :
rP M b0 o0 fun A1 =>
aa Tryz.prog 28 #[(.pointer A1)] M (fun v2 M3 =>
∃ n4 n5 : Int, (v2 = (.tuple #[(iV n4), (iV n5)])) ∧
aO (n4 == 1)
 (K (iV 1) M3)
 (aO (n4 == 2)
 (K (iV 2) M3)
 (rP M3 b0 o0 fun A6 =>
 aa Tryz.prog 65 #[(.pointer A6)] M3 (fun v7 M8 =>
 de (some v7) fun t9 =>
 aO t9
 (K (iV 3) M8)
 (K (iV 0) M8)) Kp))) Kp) :
 aa Tryz.prog 22 #[.pointer (some ⟨b0, o0, none⟩)] M K Kp := vw [] Tryz.func22 h
theorem pZ {b0 o0 : Nat} (h :
rI M b0 (o0 + 9) fun n1 =>
K (iV n1) M) :
 aa Tryz.prog 35 #[.pointer (some ⟨b0, o0, none⟩)] M K Kp := vw [] Tryz.func35 h
theorem rO {b0 o0 : Nat} (h :
bh M (.cells #[(.int .i64 0), (.int .i64 0), (.int .i64 0), (.slice none 0 0)] 43 (0, 0)) fun k1 M2 =>
aa Tryz.prog 22 #[(.pointer (some ⟨b0, o0, none⟩))] M2 (fun v3 M4 =>
aJ (some v3) .i64 fun n5 =>
aO (n5 != 0)
 (aK M4 ⟨k1, 0, none⟩ (.int .i64 0) fun M6 =>
 aK M6 ⟨k1, (0 + 1), none⟩ (.int .i64 0) fun M7 =>
 aK M7 ⟨k1, (0 + 2), none⟩ (.int .i64 0) fun M8 =>
 aK M8 ⟨k1, (0 + 3), none⟩ (.slice none 0 0) fun M9 =>
 aJ (Mem.ld M9 ⟨k1, 0, none⟩) .i64 fun jc =>
 aJ (Mem.ld M9 ⟨k1, (0 + 1), none⟩) .i64 fun iN =>
 aJ (Mem.ld M9 ⟨k1, (0 + 2), none⟩) .i64 fun jM =>
 aB (Mem.ld M9 ⟨k1, (0 + 3), none⟩) fun DN jJ iC =>
 K (.agg #[(.int .i64 jc), (.int .i64 iN), (.int .i64 jM), (.slice DN jJ iC)]) M9)
 (cw (Mem.ld M4 ⟨b0, (o0 + 8), none⟩) fun W8 =>
 aJ (Mem.ld M4 ⟨b0, ((o0 + 1) + 1), none⟩) .i64 fun iW =>
 aa Tryz.prog 107 #[(.pointer W8), (.int .i64 1), (.int .i64 (IntKind.wrap .i64 (iW + 1)))] M4 (fun Ez jD =>
 aJ (some Ez) .i64 fun gk =>
 bh jD (.cells #[(.int .i64 0), (.int .i64 0), (.int .i64 0), (.slice none 0 0)] 43 (0, 0)) fun fM dP =>
 aJ (Mem.ld dP ⟨b0, ((o0 + 1) + 1), none⟩) .i64 fun oY =>
 aO (gk == oY)
  (aa Tryz.prog 108 #[(.pointer (some ⟨b0, o0, none⟩))] dP (fun Yl FT =>
  ∃ ox : Int, ∃ oG : Int, ∃ wY : Int, ∃ SE : Option Addr, ∃ mj : Nat, ∃ nI : Nat, (Yl = (.agg #[(.int .i64 ox), (.int .i64 oG), (.int .i64 wY), (.slice SE mj nI)])) ∧
  aK FT ⟨fM, 0, none⟩ (.int .i64 ox) fun so =>
  aK so ⟨fM, (0 + 1), none⟩ (.int .i64 oG) fun Ay =>
  aK Ay ⟨fM, (0 + 2), none⟩ (.int .i64 wY) fun sr =>
  aK sr ⟨fM, (0 + 3), none⟩ (.slice SE mj nI) fun AX =>
  aJ (Mem.ld AX ⟨b0, (o0 + 9), none⟩) .i64 fun yZ =>
  aK AX ⟨b0, (o0 + 9), none⟩ (.int .i64 (IntKind.wrap .i64 (yZ + 1))) fun GO =>
  aJ (Mem.ld GO ⟨fM, 0, none⟩) .i64 fun Ka =>
  aJ (Mem.ld GO ⟨fM, (0 + 1), none⟩) .i64 fun Kb =>
  aJ (Mem.ld GO ⟨fM, (0 + 2), none⟩) .i64 fun DQ =>
  aB (Mem.ld GO ⟨fM, (0 + 3), none⟩) fun Ym Qq yQ =>
  aK GO ⟨k1, 0, none⟩ (.int .i64 Ka) fun AW =>
  aK AW ⟨k1, (0 + 1), none⟩ (.int .i64 Kb) fun tS =>
  aK tS ⟨k1, (0 + 2), none⟩ (.int .i64 DQ) fun FV =>
  aK FV ⟨k1, (0 + 3), none⟩ (.slice Ym Qq yQ) fun w7 =>
  aJ (Mem.ld w7 ⟨k1, 0, none⟩) .i64 fun Kk =>
  aJ (Mem.ld w7 ⟨k1, (0 + 1), none⟩) .i64 fun Uk =>
  aJ (Mem.ld w7 ⟨k1, (0 + 2), none⟩) .i64 fun Nl =>
  aB (Mem.ld w7 ⟨k1, (0 + 3), none⟩) fun Qr qG sP =>
  K (.agg #[(.int .i64 Kk), (.int .i64 Uk), (.int .i64 Nl), (.slice Qr qG sP)]) w7) Kp)
  (aB (Mem.ld dP ⟨b0, (o0 + 6), none⟩) fun A54 Nr QA =>
  ((0 : Int) ≤ gk) ∧
  ((gk : Int) < ((Nr : Nat) : Int)) ∧
  aF A54 fun C5 DO =>
  aJ (Mem.ld dP ⟨C5, (DO + ((Int.toNat gk) * 3)), none⟩) .i64 fun tO =>
  aO (tO == (-1))
   (aa Tryz.prog 109 #[(.pointer (some ⟨b0, o0, none⟩)), (.int .i64 gk)] dP (fun v60 Au =>
   ∃ Xa : Int, ∃ Gy : Int, ∃ n64 : Int, ∃ QH : Option Addr, ∃ II : Nat, ∃ vp : Nat, (v60 = (.agg #[(.int .i64 Xa), (.int .i64 Gy), (.int .i64 n64), (.slice QH II vp)])) ∧
   aK Au ⟨fM, 0, none⟩ (.int .i64 Xa) fun Yq =>
   aK Yq ⟨fM, (0 + 1), none⟩ (.int .i64 Gy) fun M69 =>
   aK M69 ⟨fM, (0 + 2), none⟩ (.int .i64 n64) fun IC =>
   aK IC ⟨fM, (0 + 3), none⟩ (.slice QH II vp) fun PJ =>
   aJ (Mem.ld PJ ⟨b0, (o0 + 9), none⟩) .i64 fun Yi =>
   aK PJ ⟨b0, (o0 + 9), none⟩ (.int .i64 (IntKind.wrap .i64 (Yi + 1))) fun AD =>
   aJ (Mem.ld AD ⟨fM, 0, none⟩) .i64 fun QI =>
   aJ (Mem.ld AD ⟨fM, (0 + 1), none⟩) .i64 fun EA =>
   aJ (Mem.ld AD ⟨fM, (0 + 2), none⟩) .i64 fun MY =>
   aB (Mem.ld AD ⟨fM, (0 + 3), none⟩) fun A77 Ua QG =>
   aK AD ⟨k1, 0, none⟩ (.int .i64 QI) fun xD =>
   aK xD ⟨k1, (0 + 1), none⟩ (.int .i64 EA) fun Yw =>
   aK Yw ⟨k1, (0 + 2), none⟩ (.int .i64 MY) fun M82 =>
   aK M82 ⟨k1, (0 + 3), none⟩ (.slice A77 Ua QG) fun C6 =>
   aJ (Mem.ld C6 ⟨k1, 0, none⟩) .i64 fun LC =>
   aJ (Mem.ld C6 ⟨k1, (0 + 1), none⟩) .i64 fun SN =>
   aJ (Mem.ld C6 ⟨k1, (0 + 2), none⟩) .i64 fun n86 =>
   aB (Mem.ld C6 ⟨k1, (0 + 3), none⟩) fun A87 LH k89 =>
   K (.agg #[(.int .i64 LC), (.int .i64 SN), (.int .i64 n86), (.slice A87 LH k89)]) C6) Kp)
   (aB (Mem.ld dP ⟨b0, (o0 + 6), none⟩) fun Xc Ul Um =>
   ((0 : Int) ≤ gk) ∧
   ((gk : Int) < ((Ul : Nat) : Int)) ∧
   aF Xc fun Un Ub =>
   aJ (Mem.ld dP ⟨Un, ((Ub + ((Int.toNat gk) * 3)) + 1), none⟩) .i64 fun GB =>
   aO (GB == (-1))
    (aa Tryz.prog 110 #[(.pointer (some ⟨b0, o0, none⟩)), (.int .i64 gk)] dP (fun v96 QC =>
    ∃ SD : Int, ∃ IK : Int, ∃ qS : Int, ∃ Yx : Option Addr, ∃ QD : Nat, ∃ m5 : Nat, (v96 = (.agg #[(.int .i64 SD), (.int .i64 IK), (.int .i64 qS), (.slice Yx QD m5)])) ∧
    aK QC ⟨fM, 0, none⟩ (.int .i64 SD) fun Uo =>
    aK Uo ⟨fM, (0 + 1), none⟩ (.int .i64 IK) fun QE =>
    aK QE ⟨fM, (0 + 2), none⟩ (.int .i64 qS) fun QJ =>
    aK QJ ⟨fM, (0 + 3), none⟩ (.slice Yx QD m5) fun C9 =>
    aJ (Mem.ld C9 ⟨b0, (o0 + 9), none⟩) .i64 fun Da =>
    aK C9 ⟨b0, (o0 + 9), none⟩ (.int .i64 (IntKind.wrap .i64 (Da + 1))) fun uu =>
    aJ (Mem.ld uu ⟨fM, 0, none⟩) .i64 fun Nc =>
    aJ (Mem.ld uu ⟨fM, (0 + 1), none⟩) .i64 fun Up =>
    aJ (Mem.ld uu ⟨fM, (0 + 2), none⟩) .i64 fun yR =>
    aB (Mem.ld uu ⟨fM, (0 + 3), none⟩) fun A113 Uq k115 =>
    aK uu ⟨k1, 0, none⟩ (.int .i64 Nc) fun xG =>
    aK xG ⟨k1, (0 + 1), none⟩ (.int .i64 Up) fun GQ =>
    aK GQ ⟨k1, (0 + 2), none⟩ (.int .i64 yR) fun nO =>
    aK nO ⟨k1, (0 + 3), none⟩ (.slice A113 Uq k115) fun Db =>
    aJ (Mem.ld Db ⟨k1, 0, none⟩) .i64 fun y8 =>
    aJ (Mem.ld Db ⟨k1, (0 + 1), none⟩) .i64 fun y9 =>
    aJ (Mem.ld Db ⟨k1, (0 + 2), none⟩) .i64 fun Nx =>
    aB (Mem.ld Db ⟨k1, (0 + 3), none⟩) fun A123 GR Ur =>
    K (.agg #[(.int .i64 y8), (.int .i64 y9), (.int .i64 Nx), (.slice A123 GR Ur)]) Db) Kp)
    (aa Tryz.prog 111 #[(.pointer (some ⟨b0, o0, none⟩)), (.int .i64 gk)] dP (fun Us QK =>
    ∃ xH : Int, ∃ Yy : Int, ∃ Yz : Int, ∃ EK : Option Addr, ∃ EL : Nat, ∃ Ks : Nat, (Us = (.agg #[(.int .i64 xH), (.int .i64 Yy), (.int .i64 Yz), (.slice EK EL Ks)])) ∧
    aK QK ⟨fM, 0, none⟩ (.int .i64 xH) fun Ny =>
    aK Ny ⟨fM, (0 + 1), none⟩ (.int .i64 Yy) fun M135 =>
    aK M135 ⟨fM, (0 + 2), none⟩ (.int .i64 Yz) fun M136 =>
    aK M136 ⟨fM, (0 + 3), none⟩ (.slice EK EL Ks) fun Kt =>
    aJ (Mem.ld Kt ⟨b0, (o0 + 9), none⟩) .i64 fun n138 =>
    aK Kt ⟨b0, (o0 + 9), none⟩ (.int .i64 (IntKind.wrap .i64 (n138 + 1))) fun Dc =>
    aJ (Mem.ld Dc ⟨fM, 0, none⟩) .i64 fun n140 =>
    aJ (Mem.ld Dc ⟨fM, (0 + 1), none⟩) .i64 fun n141 =>
    aJ (Mem.ld Dc ⟨fM, (0 + 2), none⟩) .i64 fun Ut =>
    aB (Mem.ld Dc ⟨fM, (0 + 3), none⟩) fun A143 k144 k145 =>
    aK Dc ⟨k1, 0, none⟩ (.int .i64 n140) fun M146 =>
    aK M146 ⟨k1, (0 + 1), none⟩ (.int .i64 n141) fun M147 =>
    aK M147 ⟨k1, (0 + 2), none⟩ (.int .i64 Ut) fun M148 =>
    aK M148 ⟨k1, (0 + 3), none⟩ (.slice A143 k144 k145) fun EM =>
    aJ (Mem.ld EM ⟨k1, 0, none⟩) .i64 fun Nz =>
    aJ (Mem.ld EM ⟨k1, (0 + 1), none⟩) .i64 fun Uu =>
    aJ (Mem.ld EM ⟨k1, (0 + 2), none⟩) .i64 fun Uv =>
    aB (Mem.ld EM ⟨k1, (0 + 3), none⟩) fun A153 NA k155 =>
    K (.agg #[(.int .i64 Nz), (.int .i64 Uu), (.int .i64 Uv), (.slice A153 NA k155)]) EM) Kp)))) Kp)) Kp) :
 aa Tryz.prog 54 ([.pointer (some ⟨b0, o0, none⟩)] : List Value).toArray M K Kp :=
 cq (C := Cx) good [(3, .bR [0, 1, 3, 7, 0, 16, 48, 112, 240, 496, 1023, 2047] (.step 0 (.step 1 (.step 2 (.step 4 (.step 5 (.step 6 (.step 7 (.step 3 (.step 8 (.step 9 (.step 10 (.step 11 .done)))))))))))))] Tryz.func54 (by kernel_rfl) (by kernel_rfl) h
theorem rQ {b0 o0 : Nat} (h :
bh M BR fun k1 M2 =>
rP M2 b0 o0 fun A3 =>
aa Tryz.prog 120 #[(.pointer A3)] M2 (fun v4 M5 =>
aB (some v4) fun A6 k7 k8 =>
aa Tryz.prog 58 #[(.pointer (some ⟨b0, (o0 + 7), none⟩)), (.slice A6 k7 k8)] M5 (fun v9 iZ =>
(v9 = (.tuple #[])) ∧
kC iZ k1 (iV 1) (iV (-1)) (iV (-1)) (.slice A6 k7 k8) fun lK =>
ME lK k1 0 fun lq nm iW Kj jK lz =>
K (.agg #[(iV lq), (iV nm), (iV iW), (.slice Kj jK lz)]) lK) Kp) Kp) :
 aa Tryz.prog 108 #[.pointer (some ⟨b0, o0, none⟩)] M K Kp := vw [] Tryz.func108 h
theorem rR {b0 o0 : Nat} {x1 : Int} (h :
bh M BR fun k1 M2 =>
rS M2 b0 (o0 + 5) fun A3 k4 k5 =>
∃ I6 : IT, (∃ k7, I6 k7 [(iV 0)] M2) ∧
∀ (k8 : Nat) (_ : Nat → Value) (jc : Int) (jL : Mem), (I6 k8 [(iV jc)] jL) → aO (decide (jc < k4))
 (rS jL b0 (o0 + 5) fun Ax eN jJ =>
 (0 ≤ jc) ∧
 (jc < eN) ∧
 aF Ax fun iC fL =>
 rI jL iC ((fL + ((Int.toNat jc) * 3)) + 2) fun iW =>
 aO (iW == (-1))
 (rS jL b0 (o0 + 5) fun Kj jK lz =>
 rS jL b0 (o0 + 6) fun C0 gV jq =>
 (0 ≤ jc) ∧
 (jc < jK) ∧
 aF Kj fun sM sN =>
 sT jL sM ((sN + ((Int.toNat jc) * 3)) + 2) (iV x1) fun yd =>
 ((0 : Int) ≤ x1) ∧
 ((x1 : Int) < gV) ∧
 aF C0 fun Av pO =>
 sT yd Av (pO + ((Int.toNat x1) * 3)) (iV jc) fun mK =>
 kC mK k1 (iV 2) (iV x1) (iV (-1)) (.slice none 0 0) fun Ay =>
 ME Ay k1 0 fun T3 LD yZ Nq iD xB =>
 K (.agg #[(iV T3), (iV LD), (iV yZ), (.slice Nq iD xB)]) Ay)
 (∃ FQ : Nat, (FQ < k8) ∧
 I6 FQ [(iV (IntKind.wrap .i64 (jc + 1)))] jL))
 (sT jL k1 0 (iV 3) fun Az =>
 sT Az k1 1 (iV x1) fun Qx =>
 sT Qx k1 2 (iV (-1)) fun tR =>
 sT tR k1 3 (.slice none 0 0) fun AW =>
 ME AW k1 0 fun uC AA sq Nv LF MX =>
 K (.agg #[(iV uC), (iV AA), (iV sq), (.slice Nv LF MX)]) AW)) :
 aa Tryz.prog 109 #[.pointer (some ⟨b0, o0, none⟩), .int .i64 x1] M K Kp := vw [(2000000, .loop [(11, .c (.int .i64))]), (5, .bR [0, 1, 3, 7, 0, 0, 32, 96, 224, 0, 0, 0, 1535, 5631, 13823, 32767, 65535, 131071] (sy [0, 1, 2, 4, 5, 6, 7, 9, 10, 11, 3, 8, 12, 13, 14, 15, 16, 17] .done))] Tryz.func109 h
theorem rT {b0 o0 : Nat} {x1 : Int} (h :
bh M (.cells #[(.int .i64 0), (.int .i64 0), (.int .i64 0), (.slice none 0 0)] 43 (0, 0)) fun k1 M2 =>
aB (Mem.ld M2 ⟨b0, (o0 + 5), none⟩) fun A3 k4 k5 =>
aB (Mem.ld M2 ⟨b0, (o0 + 6), none⟩) fun A6 k7 k8 =>
((0 : Int) ≤ x1) ∧
((x1 : Int) < ((k7 : Nat) : Int)) ∧
aF A6 fun k9 gn =>
aJ (Mem.ld M2 ⟨k9, (gn + ((Int.toNat x1) * 3)), none⟩) .i64 fun iN =>
((0 : Int) ≤ iN) ∧
((iN : Int) < ((k4 : Nat) : Int)) ∧
aF A3 fun gH eN =>
aB (Mem.ld M2 ⟨b0, (o0 + 6), none⟩) fun oX iC fL =>
((0 : Int) ≤ x1) ∧
((x1 : Int) < ((iC : Nat) : Int)) ∧
aF oX fun fB en =>
aJ (Mem.ld M2 ⟨fB, ((en + ((Int.toNat x1) * 3)) + 2), none⟩) .i64 fun yT =>
aO (decide ((yT : Int) > 0))
 (cw (Mem.ld M2 ⟨gH, (eN + ((Int.toNat iN) * 3)), none⟩) fun Qy =>
 aa Tryz.prog 148 #[(.pointer Qy)] M2 (fun Yo dP =>
 aJ (some Yo) .i64 fun oY =>
 ∃ J24 : List Value → Mem → Prop, (aO (oY != (-1))
  (cw (Mem.ld dP ⟨gH, (eN + ((Int.toNat iN) * 3)), none⟩) fun X6 =>
   aB (Mem.ld dP ⟨b0, (o0 + 6), none⟩) fun Ug Av pO =>
   aa Tryz.prog 149 #[(.pointer X6)] dP (fun v29 ur =>
   ∃ sk : Int, ∃ t32 : Bool, (v29 = (.tuple #[(.int .i64 sk), (.bool t32)])) ∧
   ((Mem.ld ur ⟨b0, (o0 + 6), none⟩) = (some (.slice Ug Av pO))) ∧
   ((0 : Int) ≤ x1) ∧
   ((x1 : Int) < ((Av : Nat) : Int)) ∧
   aF Ug fun tQ oW =>
   aK ur ⟨tQ, ((oW + ((Int.toNat x1) * 3)) + 1), none⟩ (.int .i64 sk) fun AX =>
   ((Mem.ld AX ⟨b0, (o0 + 6), none⟩) = (some (.slice Ug Av pO))) ∧
   aB (Mem.ld AX ⟨b0, (o0 + 6), none⟩) fun SK jU iD =>
   ((0 : Int) ≤ x1) ∧
   ((x1 : Int) < ((jU : Nat) : Int)) ∧
   aF SK fun xB FQ =>
   aJ (Mem.ld AX ⟨xB, ((FQ + ((Int.toNat x1) * 3)) + 1), none⟩) .i64 fun PK =>
   aK AX ⟨k1, 0, none⟩ (.int .i64 4) fun Qx =>
   aK Qx ⟨k1, (0 + 1), none⟩ (.int .i64 x1) fun tR =>
   aK tR ⟨k1, (0 + 2), none⟩ (.int .i64 PK) fun AW =>
   aK AW ⟨k1, (0 + 3), none⟩ (.slice none 0 0) fun tS =>
   aJ (Mem.ld tS ⟨k1, 0, none⟩) .i64 fun AA =>
   aJ (Mem.ld tS ⟨k1, (0 + 1), none⟩) .i64 fun sq =>
   aJ (Mem.ld tS ⟨k1, (0 + 2), none⟩) .i64 fun Kk =>
   aB (Mem.ld tS ⟨k1, (0 + 3), none⟩) fun Yt MX ID =>
   K (.agg #[(.int .i64 AA), (.int .i64 sq), (.int .i64 Kk), (.slice Yt MX ID)]) tS) Kp)
  (J24 [] dP)) ∧
 ∀ junk52 : Nat → Value, ∀ GN : Mem, (J24 [] GN) → aa Tryz.prog 150 #[(.pointer (some ⟨b0, o0, none⟩)), (.pointer (some ⟨gH, (eN + ((Int.toNat iN) * 3)), none⟩))] GN (fun NB vX =>
 ∃ IL : Int, ∃ t57 : Bool, (NB = (.tuple #[(.int .i64 IL), (.bool t57)])) ∧
 aO (!t57)
  (aJ (Mem.ld vX ⟨b0, (o0 + 1), none⟩) .i64 fun FP =>
  ∃ Uw : List Value → Mem → Prop, (aO (decide ((FP : Int) > 1))
   (cw (Mem.ld vX ⟨b0, (o0 + 8), none⟩) fun A60 =>
    aJ (Mem.ld vX ⟨b0, (o0 + 1), none⟩) .i64 fun Kf =>
    aa Tryz.prog 107 #[(.pointer A60), (.int .i64 2), (.int .i64 Kf)] vX (fun T4 CY =>
    aJ (some T4) .i64 fun n64 =>
    cw (Mem.ld CY ⟨gH, (eN + ((Int.toNat iN) * 3)), none⟩) fun QH =>
    aB (Mem.ld CY ⟨b0, (o0 + 5), none⟩) fun NC vp DR =>
    ((0 : Int) ≤ n64) ∧
    ((n64 : Int) < ((vp : Nat) : Int)) ∧
    aF NC fun YA EH =>
    cw (Mem.ld CY ⟨YA, (EH + ((Int.toNat n64) * 3)), none⟩) fun Ui =>
    aa Tryz.prog 151 #[(.pointer QH), (.pointer Ui)] CY (fun YB AD =>
    ∃ QI : Int, ∃ t75 : Bool, (YB = (.tuple #[(.int .i64 QI), (.bool t75)])) ∧
    Uw [(.int .i64 5), (.int .i64 QI), (.bool t75)] AD) Kp) Kp)
   (Uw [(.int .i64 4), (.int .i64 IL), (.bool t57)] vX)) ∧
  ∀ Ux : Nat → Value, ∀ EB : Int, ∀ EN : Int, ∀ t79 : Bool, ∀ xD : Mem, (Uw [(.int .i64 EB), (.int .i64 EN), (.bool t79)] xD) → aO (!t79)
   (aB (Mem.ld xD ⟨b0, (o0 + 6), none⟩) fun QB Kn y7 =>
   aK xD ⟨gH, ((eN + ((Int.toNat iN) * 3)) + 2), none⟩ (.int .i64 (-1)) fun Nw =>
   ((0 : Int) ≤ x1) ∧
   ((x1 : Int) < ((Kn : Nat) : Int)) ∧
   aF QB fun LI ND =>
   aK Nw ⟨LI, (ND + ((Int.toNat x1) * 3)), none⟩ (.int .i64 (-1)) fun IM =>
   aK IM ⟨LI, ((ND + ((Int.toNat x1) * 3)) + 1), none⟩ (.int .i64 (-1)) fun DS =>
   aK DS ⟨LI, ((ND + ((Int.toNat x1) * 3)) + 2), none⟩ (.int .i64 0) fun EI =>
   aK EI ⟨k1, 0, none⟩ (.int .i64 6) fun YC =>
   aK YC ⟨k1, (0 + 1), none⟩ (.int .i64 x1) fun lu =>
   aK lu ⟨k1, (0 + 2), none⟩ (.int .i64 (-1)) fun YD =>
   aK YD ⟨k1, (0 + 3), none⟩ (.slice none 0 0) fun EO =>
   aJ (Mem.ld EO ⟨k1, 0, none⟩) .i64 fun MZ =>
   aJ (Mem.ld EO ⟨k1, (0 + 1), none⟩) .i64 fun GB =>
   aJ (Mem.ld EO ⟨k1, (0 + 2), none⟩) .i64 fun FR =>
   aB (Mem.ld EO ⟨k1, (0 + 3), none⟩) fun YE YF Xd =>
   K (.agg #[(.int .i64 MZ), (.int .i64 GB), (.int .i64 FR), (.slice YE YF Xd)]) EO)
   (aJ (Mem.ld xD ⟨gH, ((eN + ((Int.toNat iN) * 3)) + 1), none⟩) .i64 fun qS =>
   aK xD ⟨gH, ((eN + ((Int.toNat iN) * 3)) + 1), none⟩ (.int .i64 (IntKind.wrap .i64 (qS + 1))) fun ji =>
   aB (Mem.ld ji ⟨b0, (o0 + 6), none⟩) fun za m5 EP =>
   aB (Mem.ld ji ⟨b0, (o0 + 6), none⟩) fun Dd xE Ku =>
   aJ (Mem.ld ji ⟨b0, ((o0 + 1) + 3), none⟩) .i64 fun Da =>
   ((0 : Int) ≤ x1) ∧
   ((x1 : Int) < ((m5 : Nat) : Int)) ∧
   aF za fun GS Kv =>
   aK ji ⟨GS, ((Kv + ((Int.toNat x1) * 3)) + 1), none⟩ (.int .i64 EN) fun nQ =>
   ((0 : Int) ≤ x1) ∧
   ((x1 : Int) < ((xE : Nat) : Int)) ∧
   aF Dd fun NF GU =>
   aK nQ ⟨NF, ((GU + ((Int.toNat x1) * 3)) + 2), none⟩ (.int .i64 Da) fun AZ =>
   aK AZ ⟨k1, 0, none⟩ (.int .i64 EB) fun GV =>
   aK GV ⟨k1, (0 + 1), none⟩ (.int .i64 x1) fun xG =>
   aK xG ⟨k1, (0 + 2), none⟩ (.int .i64 EN) fun GQ =>
   aK GQ ⟨k1, (0 + 3), none⟩ (.slice none 0 0) fun nO =>
   aJ (Mem.ld nO ⟨k1, 0, none⟩) .i64 fun NG =>
   aJ (Mem.ld nO ⟨k1, (0 + 1), none⟩) .i64 fun y8 =>
   aJ (Mem.ld nO ⟨k1, (0 + 2), none⟩) .i64 fun y9 =>
   aB (Mem.ld nO ⟨k1, (0 + 3), none⟩) fun NH GW GR =>
   K (.agg #[(.int .i64 NG), (.int .i64 y8), (.int .i64 y9), (.slice NH GW GR)]) nO))
  (∃ NI : List Value → Mem → Prop, (NI [(.int .i64 4), (.int .i64 IL), (.bool t57)] vX) ∧
  ∀ QL : Nat → Value, ∀ De : Int, ∀ xH : Int, ∀ t129 : Bool, ∀ rV : Mem, (NI [(.int .i64 De), (.int .i64 xH), (.bool t129)] rV) → aO (!t129)
   (aB (Mem.ld rV ⟨b0, (o0 + 6), none⟩) fun EK EL Ks =>
   aK rV ⟨gH, ((eN + ((Int.toNat iN) * 3)) + 2), none⟩ (.int .i64 (-1)) fun Ny =>
   ((0 : Int) ≤ x1) ∧
   ((x1 : Int) < ((EL : Nat) : Int)) ∧
   aF EK fun Ba rX =>
   aK Ny ⟨Ba, (rX + ((Int.toNat x1) * 3)), none⟩ (.int .i64 (-1)) fun Kt =>
   aK Kt ⟨Ba, ((rX + ((Int.toNat x1) * 3)) + 1), none⟩ (.int .i64 (-1)) fun Uy =>
   aK Uy ⟨Ba, ((rX + ((Int.toNat x1) * 3)) + 2), none⟩ (.int .i64 0) fun Dc =>
   aK Dc ⟨k1, 0, none⟩ (.int .i64 6) fun Uz =>
   aK Uz ⟨k1, (0 + 1), none⟩ (.int .i64 x1) fun Kw =>
   aK Kw ⟨k1, (0 + 2), none⟩ (.int .i64 (-1)) fun NJ =>
   aK NJ ⟨k1, (0 + 3), none⟩ (.slice none 0 0) fun zb =>
   aJ (Mem.ld zb ⟨k1, 0, none⟩) .i64 fun NK =>
   aJ (Mem.ld zb ⟨k1, (0 + 1), none⟩) .i64 fun NL =>
   aJ (Mem.ld zb ⟨k1, (0 + 2), none⟩) .i64 fun NM =>
   aB (Mem.ld zb ⟨k1, (0 + 3), none⟩) fun UA NN UB =>
   K (.agg #[(.int .i64 NK), (.int .i64 NL), (.int .i64 NM), (.slice UA NN UB)]) zb)
   (aJ (Mem.ld rV ⟨gH, ((eN + ((Int.toNat iN) * 3)) + 1), none⟩) .i64 fun Nz =>
   aK rV ⟨gH, ((eN + ((Int.toNat iN) * 3)) + 1), none⟩ (.int .i64 (IntKind.wrap .i64 (Nz + 1))) fun zc =>
   aB (Mem.ld zc ⟨b0, (o0 + 6), none⟩) fun NO NP NA =>
   aB (Mem.ld zc ⟨b0, (o0 + 6), none⟩) fun UC UD UE =>
   aJ (Mem.ld zc ⟨b0, ((o0 + 1) + 3), none⟩) .i64 fun UF =>
   ((0 : Int) ≤ x1) ∧
   ((x1 : Int) < ((NP : Nat) : Int)) ∧
   aF NO fun UG UH =>
   aK zc ⟨UG, ((UH + ((Int.toNat x1) * 3)) + 1), none⟩ (.int .i64 xH) fun vY =>
   ((0 : Int) ≤ x1) ∧
   ((x1 : Int) < ((UD : Nat) : Int)) ∧
   aF UC fun NQ NR =>
   aK vY ⟨NQ, ((NR + ((Int.toNat x1) * 3)) + 2), none⟩ (.int .i64 UF) fun NS =>
   aK NS ⟨k1, 0, none⟩ (.int .i64 De) fun NT =>
   aK NT ⟨k1, (0 + 1), none⟩ (.int .i64 x1) fun NU =>
   aK NU ⟨k1, (0 + 2), none⟩ (.int .i64 xH) fun Kx =>
   aK Kx ⟨k1, (0 + 3), none⟩ (.slice none 0 0) fun zd =>
   aJ (Mem.ld zd ⟨k1, 0, none⟩) .i64 fun NV =>
   aJ (Mem.ld zd ⟨k1, (0 + 1), none⟩) .i64 fun NW =>
   aJ (Mem.ld zd ⟨k1, (0 + 2), none⟩) .i64 fun NX =>
   aB (Mem.ld zd ⟨k1, (0 + 3), none⟩) fun UI Ky UJ =>
   K (.agg #[(.int .i64 NV), (.int .i64 NW), (.int .i64 NX), (.slice UI Ky UJ)]) zd))) Kp) Kp)
 (∃ YG : List Value → Mem → Prop, (YG [] M2) ∧
 ∀ junk176 : Nat → Value, ∀ YH : Mem, (YG [] YH) → aa Tryz.prog 150 #[(.pointer (some ⟨b0, o0, none⟩)), (.pointer (some ⟨gH, (eN + ((Int.toNat iN) * 3)), none⟩))] YH (fun v178 Kz =>
 ∃ UK : Int, ∃ t181 : Bool, (v178 = (.tuple #[(.int .i64 UK), (.bool t181)])) ∧
 aO (!t181)
  (aJ (Mem.ld Kz ⟨b0, (o0 + 1), none⟩) .i64 fun n182 =>
  ∃ UL : List Value → Mem → Prop, (aO (decide ((n182 : Int) > 1))
   (cw (Mem.ld Kz ⟨b0, (o0 + 8), none⟩) fun A184 =>
    aJ (Mem.ld Kz ⟨b0, (o0 + 1), none⟩) .i64 fun UM =>
    aa Tryz.prog 107 #[(.pointer A184), (.int .i64 2), (.int .i64 UM)] Kz (fun v186 QM =>
    aJ (some v186) .i64 fun GX =>
    cw (Mem.ld QM ⟨gH, (eN + ((Int.toNat iN) * 3)), none⟩) fun A189 =>
    aB (Mem.ld QM ⟨b0, (o0 + 5), none⟩) fun A190 k191 UN =>
    ((0 : Int) ≤ GX) ∧
    ((GX : Int) < ((k191 : Nat) : Int)) ∧
    aF A190 fun k193 k194 =>
    cw (Mem.ld QM ⟨k193, (k194 + ((Int.toNat GX) * 3)), none⟩) fun A195 =>
    aa Tryz.prog 151 #[(.pointer A189), (.pointer A195)] QM (fun v196 NY =>
    ∃ QN : Int, ∃ t199 : Bool, (v196 = (.tuple #[(.int .i64 QN), (.bool t199)])) ∧
    UL [(.int .i64 5), (.int .i64 QN), (.bool t199)] NY) Kp) Kp)
   (UL [(.int .i64 4), (.int .i64 UK), (.bool t181)] Kz)) ∧
  ∀ junk200 : Nat → Value, ∀ QO : Int, ∀ NZ : Int, ∀ t203 : Bool, ∀ N0 : Mem, (UL [(.int .i64 QO), (.int .i64 NZ), (.bool t203)] N0) → aO (!t203)
   (aB (Mem.ld N0 ⟨b0, (o0 + 6), none⟩) fun UO UP YI =>
   aK N0 ⟨gH, ((eN + ((Int.toNat iN) * 3)) + 2), none⟩ (.int .i64 (-1)) fun M208 =>
   ((0 : Int) ≤ x1) ∧
   ((x1 : Int) < ((UP : Nat) : Int)) ∧
   aF UO fun UQ UR =>
   aK M208 ⟨UQ, (UR + ((Int.toNat x1) * 3)), none⟩ (.int .i64 (-1)) fun M211 =>
   aK M211 ⟨UQ, ((UR + ((Int.toNat x1) * 3)) + 1), none⟩ (.int .i64 (-1)) fun QS =>
   aK QS ⟨UQ, ((UR + ((Int.toNat x1) * 3)) + 2), none⟩ (.int .i64 0) fun US =>
   aK US ⟨k1, 0, none⟩ (.int .i64 6) fun M214 =>
   aK M214 ⟨k1, (0 + 1), none⟩ (.int .i64 x1) fun M215 =>
   aK M215 ⟨k1, (0 + 2), none⟩ (.int .i64 (-1)) fun M216 =>
   aK M216 ⟨k1, (0 + 3), none⟩ (.slice none 0 0) fun N1 =>
   aJ (Mem.ld N1 ⟨k1, 0, none⟩) .i64 fun n218 =>
   aJ (Mem.ld N1 ⟨k1, (0 + 1), none⟩) .i64 fun n219 =>
   aJ (Mem.ld N1 ⟨k1, (0 + 2), none⟩) .i64 fun n220 =>
   aB (Mem.ld N1 ⟨k1, (0 + 3), none⟩) fun A221 k222 UT =>
   K (.agg #[(.int .i64 n218), (.int .i64 n219), (.int .i64 n220), (.slice A221 k222 UT)]) N1)
   (aJ (Mem.ld N0 ⟨gH, ((eN + ((Int.toNat iN) * 3)) + 1), none⟩) .i64 fun UU =>
   aK N0 ⟨gH, ((eN + ((Int.toNat iN) * 3)) + 1), none⟩ (.int .i64 (IntKind.wrap .i64 (UU + 1))) fun QT =>
   aB (Mem.ld QT ⟨b0, (o0 + 6), none⟩) fun UW UX k228 =>
   aB (Mem.ld QT ⟨b0, (o0 + 6), none⟩) fun A229 UY k231 =>
   aJ (Mem.ld QT ⟨b0, ((o0 + 1) + 3), none⟩) .i64 fun n232 =>
   ((0 : Int) ≤ x1) ∧
   ((x1 : Int) < ((UX : Nat) : Int)) ∧
   aF UW fun k233 UZ =>
   aK QT ⟨k233, ((UZ + ((Int.toNat x1) * 3)) + 1), none⟩ (.int .i64 NZ) fun M235 =>
   ((0 : Int) ≤ x1) ∧
   ((x1 : Int) < ((UY : Nat) : Int)) ∧
   aF A229 fun k236 U0 =>
   aK M235 ⟨k236, ((U0 + ((Int.toNat x1) * 3)) + 2), none⟩ (.int .i64 n232) fun U1 =>
   aK U1 ⟨k1, 0, none⟩ (.int .i64 QO) fun U2 =>
   aK U2 ⟨k1, (0 + 1), none⟩ (.int .i64 x1) fun QU =>
   aK QU ⟨k1, (0 + 2), none⟩ (.int .i64 NZ) fun M241 =>
   aK M241 ⟨k1, (0 + 3), none⟩ (.slice none 0 0) fun N2 =>
   aJ (Mem.ld N2 ⟨k1, 0, none⟩) .i64 fun U3 =>
   aJ (Mem.ld N2 ⟨k1, (0 + 1), none⟩) .i64 fun U4 =>
   aJ (Mem.ld N2 ⟨k1, (0 + 2), none⟩) .i64 fun U5 =>
   aB (Mem.ld N2 ⟨k1, (0 + 3), none⟩) fun A246 k247 U6 =>
   K (.agg #[(.int .i64 U3), (.int .i64 U4), (.int .i64 U5), (.slice A246 k247 U6)]) N2))
  (∃ YJ : List Value → Mem → Prop, (YJ [(.int .i64 4), (.int .i64 UK), (.bool t181)] Kz) ∧
  ∀ junk250 : Nat → Value, ∀ YK : Int, ∀ U7 : Int, ∀ t253 : Bool, ∀ N3 : Mem, (YJ [(.int .i64 YK), (.int .i64 U7), (.bool t253)] N3) → aO (!t253)
   (aB (Mem.ld N3 ⟨b0, (o0 + 6), none⟩) fun A255 U8 k257 =>
   aK N3 ⟨gH, ((eN + ((Int.toNat iN) * 3)) + 2), none⟩ (.int .i64 (-1)) fun M258 =>
   ((0 : Int) ≤ x1) ∧
   ((x1 : Int) < ((U8 : Nat) : Int)) ∧
   aF A255 fun U9 Va =>
   aK M258 ⟨U9, (Va + ((Int.toNat x1) * 3)), none⟩ (.int .i64 (-1)) fun M261 =>
   aK M261 ⟨U9, ((Va + ((Int.toNat x1) * 3)) + 1), none⟩ (.int .i64 (-1)) fun M262 =>
   aK M262 ⟨U9, ((Va + ((Int.toNat x1) * 3)) + 2), none⟩ (.int .i64 0) fun M263 =>
   aK M263 ⟨k1, 0, none⟩ (.int .i64 6) fun M264 =>
   aK M264 ⟨k1, (0 + 1), none⟩ (.int .i64 x1) fun M265 =>
   aK M265 ⟨k1, (0 + 2), none⟩ (.int .i64 (-1)) fun M266 =>
   aK M266 ⟨k1, (0 + 3), none⟩ (.slice none 0 0) fun ER =>
   aJ (Mem.ld ER ⟨k1, 0, none⟩) .i64 fun Vb =>
   aJ (Mem.ld ER ⟨k1, (0 + 1), none⟩) .i64 fun Vc =>
   aJ (Mem.ld ER ⟨k1, (0 + 2), none⟩) .i64 fun Vd =>
   aB (Mem.ld ER ⟨k1, (0 + 3), none⟩) fun A271 k272 k273 =>
   K (.agg #[(.int .i64 Vb), (.int .i64 Vc), (.int .i64 Vd), (.slice A271 k272 k273)]) ER)
   (aJ (Mem.ld N3 ⟨gH, ((eN + ((Int.toNat iN) * 3)) + 1), none⟩) .i64 fun Ve =>
   aK N3 ⟨gH, ((eN + ((Int.toNat iN) * 3)) + 1), none⟩ (.int .i64 (IntKind.wrap .i64 (Ve + 1))) fun QV =>
   aB (Mem.ld QV ⟨b0, (o0 + 6), none⟩) fun A276 k277 k278 =>
   aB (Mem.ld QV ⟨b0, (o0 + 6), none⟩) fun A279 k280 k281 =>
   aJ (Mem.ld QV ⟨b0, ((o0 + 1) + 3), none⟩) .i64 fun Vf =>
   ((0 : Int) ≤ x1) ∧
   ((x1 : Int) < ((k277 : Nat) : Int)) ∧
   aF A276 fun k283 k284 =>
   aK QV ⟨k283, ((k284 + ((Int.toNat x1) * 3)) + 1), none⟩ (.int .i64 U7) fun QW =>
   ((0 : Int) ≤ x1) ∧
   ((x1 : Int) < ((k280 : Nat) : Int)) ∧
   aF A279 fun k286 k287 =>
   aK QW ⟨k286, ((k287 + ((Int.toNat x1) * 3)) + 2), none⟩ (.int .i64 Vf) fun M288 =>
   aK M288 ⟨k1, 0, none⟩ (.int .i64 YK) fun M289 =>
   aK M289 ⟨k1, (0 + 1), none⟩ (.int .i64 x1) fun M290 =>
   aK M290 ⟨k1, (0 + 2), none⟩ (.int .i64 U7) fun M291 =>
   aK M291 ⟨k1, (0 + 3), none⟩ (.slice none 0 0) fun N4 =>
   aJ (Mem.ld N4 ⟨k1, 0, none⟩) .i64 fun n293 =>
   aJ (Mem.ld N4 ⟨k1, (0 + 1), none⟩) .i64 fun Vg =>
   aJ (Mem.ld N4 ⟨k1, (0 + 2), none⟩) .i64 fun Vh =>
   aB (Mem.ld N4 ⟨k1, (0 + 3), none⟩) fun A296 k297 k298 =>
   K (.agg #[(.int .i64 n293), (.int .i64 Vg), (.int .i64 Vh), (.slice A296 k297 k298)]) N4))) Kp)) :
 aa Tryz.prog 110 ([.pointer (some ⟨b0, o0, none⟩), .int .i64 x1] : List Value).toArray M K Kp :=
 cq (C := Cx) good [(1, .bR [0, 1, 3, 7, 0, 16, 48, 112, 0, 496, 1008, 2032, 4095, 8191] (.step 0 (.step 1 (.step 2 (.step 4 (.step 5 (.step 6 (.step 8 (.step 3 (.step 7 (.step 9 (.step 10 (.step 11 (.step 12 (.step 13 .done))))))))))))))), (3000039, .cut []), (3, .bR [0, 1, 3, 7, 0, 0, 32, 96, 224, 480, 992, 2016, 2016, 4095, 12287, 28671] (.step 0 (.step 1 (.step 2 (.step 4 (.step 5 (.step 6 (.step 7 (.step 8 (.dw 3 (.step 9 (.step 10 (.step 11 (.step 12 (.step 13 (.step 14 (.step 15 .done))))))))))))))))), (3000080, .cut [(6, .c (.int .i64)), (7, .c (.int .i64)), (8, .c .bool)]), (8, .bR [0, 1, 3, 7, 0, 16, 48, 112, 240, 511, 1023] (.step 0 (.step 1 (.step 2 (.step 4 (.step 5 (.step 6 (.step 7 (.step 3 (.step 8 (.step 9 (.step 10 .done)))))))))))), (10, .bR [0, 1, 3, 7, 0, 16, 48, 112, 0, 496, 1008, 2032, 4095, 8191, 16383, 16383, 32767, 131071] (.step 0 (.step 1 (.step 2 (.step 4 (.step 5 (.step 6 (.step 8 (.step 3 (.step 7 (.step 9 (.step 10 (.step 11 (.step 12 (.step 13 (.step 14 (.step 15 (.step 16 (.step 17 .done))))))))))))))))))), (15, .bR [0, 1, 3, 7, 0, 0, 32, 96, 224, 0, 0, 0, 2048, 6144, 14336, 30720, 65023, 130559, 261631, 524287, 1048575, 2097151] (.step 0 (.step 1 (.step 2 (.step 4 (.step 5 (.step 6 (.step 7 (.step 9 (.step 10 (.step 11 (.step 12 (.step 13 (.step 14 (.step 3 (.step 8 (.step 15 (.step 16 (.step 17 (.step 18 (.step 19 (.step 20 (.step 21 .done)))))))))))))))))))))))] Tryz.func110 (by kernel_rfl) (by kernel_rfl) h
theorem tr {b0 o0 : Nat} {x1 : Int} (h :
bh M (.cells #[(.int .i64 0), (.int .i64 0), (.int .i64 0), (.slice none 0 0)] 43 (0, 0)) fun k1 M2 =>
aB (Mem.ld M2 ⟨b0, (o0 + 6), none⟩) fun A3 k4 k5 =>
((0 : Int) ≤ x1) ∧
((x1 : Int) < ((k4 : Nat) : Int)) ∧
aF A3 fun k6 k7 =>
aJ (Mem.ld M2 ⟨k6, ((k7 + ((Int.toNat x1) * 3)) + 1), none⟩) .i64 fun n8 =>
cw (Mem.ld M2 ⟨b0, o0, none⟩) fun A9 =>
cw (Mem.ld M2 ⟨b0, (o0 + 8), none⟩) fun AO =>
(True) ∧
aa Tryz.prog 121 #[(.pointer A9), (.int .i64 n8), (.func (.func 107) #[(.pointer AO)] #[])] M2 (fun v11 sj =>
∃ t13 : Bool, ∃ oX : Option Addr, ∃ iC : Nat, ∃ fL : Nat, (v11 = (.agg #[(.bool t13), (.slice oX iC fL)])) ∧
bh sj (.cells #[(.bool false), (.slice none 0 0)] 250 (0, 0)) fun fB sS =>
aK sS ⟨fB, 0, none⟩ (.bool t13) fun jD =>
aK jD ⟨fB, (0 + 1), none⟩ (.slice oX iC fL) fun vP =>
aB (Mem.ld vP ⟨fB, (0 + 1), none⟩) fun C0 gV jq =>
∃ Vi : Nat → List Value → Mem → Prop, (∃ sN : Nat, Vi sN [(.int .i64 0)] vP) ∧
∀ tP : Nat, ∀ Vj : Nat → Value, ∀ wY : Int, ∀ mK : Mem, (Vi tP [(.int .i64 wY)] mK) → aO (decide ((wY : Int) < ((gV : Nat) : Int)))
 (((0 : Int) ≤ wY) ∧
 ((wY : Int) < ((gV : Nat) : Int)) ∧
 aF C0 fun mj nI =>
 aJ (Mem.ld mK ⟨mj, (nI + (Int.toNat wY)), none⟩) .i64 fun n32 =>
 aB (Mem.ld mK ⟨b0, (o0 + 5), none⟩) fun Gx oW Aw =>
 aJ (Mem.ld mK ⟨k6, (k7 + ((Int.toNat x1) * 3)), none⟩) .i64 fun yZ =>
 ((0 : Int) ≤ yZ) ∧
 ((yZ : Int) < ((oW : Nat) : Int)) ∧
 aF Gx fun jU iD =>
 cw (Mem.ld mK ⟨jU, (iD + ((Int.toNat yZ) * 3)), none⟩) fun A39 =>
 aa Tryz.prog 152 #[(.pointer A39), (.int .i64 n32), (.pointer (some ⟨b0, (o0 + 7), none⟩))] mK (fun Ki Az =>
 aJ (some Ki) .i64 fun y3 =>
 ∃ yQ : Nat, (yQ < tP) ∧
 Vi yQ [(.int .i64 (IntKind.wrap .i64 (wY + 1)))] Az) Kp)
 (aJ (Mem.ld mK ⟨k6, ((k7 + ((Int.toNat x1) * 3)) + 2), none⟩) .i64 fun w8 =>
 aK mK ⟨k6, ((k7 + ((Int.toNat x1) * 3)) + 2), none⟩ (.int .i64 (IntKind.wrap .i64 (w8 - 1))) fun tS =>
 de (Mem.ld tS ⟨fB, 0, none⟩) fun t46 =>
 aO (!t46)
  (aK tS ⟨k6, ((k7 + ((Int.toNat x1) * 3)) + 1), none⟩ (.int .i64 (-1)) fun w7 =>
  cw (Mem.ld w7 ⟨b0, o0, none⟩) fun Nv =>
  aa Tryz.prog 119 #[(.pointer Nv), (.int .i64 n8)] w7 (fun Kd xZ =>
  aJ (some Kd) .i64 fun GL =>
  aO (GL == 1)
   (bh xZ (.cells #[(.int .i64 n8)] 3 (0, 0)) fun qG GN =>
   aa Tryz.prog 58 #[(.pointer (some ⟨b0, (o0 + 7), none⟩)), (.slice (some ⟨qG, 0, none⟩) 1 1)] GN (fun NB vX =>
   (NB = (.tuple #[])) ∧
   aB (Mem.ld vX ⟨fB, (0 + 1), none⟩) fun QX C5 DO =>
   aK vX ⟨k1, 0, none⟩ (.int .i64 7) fun AB =>
   aK AB ⟨k1, (0 + 1), none⟩ (.int .i64 x1) fun pI =>
   aK pI ⟨k1, (0 + 2), none⟩ (.int .i64 n8) fun Au =>
   aK Au ⟨k1, (0 + 3), none⟩ (.slice QX C5 DO) fun vo =>
   aJ (Mem.ld vo ⟨k1, 0, none⟩) .i64 fun Gy =>
   aJ (Mem.ld vo ⟨k1, (0 + 1), none⟩) .i64 fun n64 =>
   aJ (Mem.ld vo ⟨k1, (0 + 2), none⟩) .i64 fun AP =>
   aB (Mem.ld vo ⟨k1, (0 + 3), none⟩) fun NC vp DR =>
   K (.agg #[(.int .i64 Gy), (.int .i64 n64), (.int .i64 AP), (.slice NC vp DR)]) vo) Kp)
   (aB (Mem.ld xZ ⟨fB, (0 + 1), none⟩) fun PL EH Km =>
   aK xZ ⟨k1, 0, none⟩ (.int .i64 7) fun SB =>
   aK SB ⟨k1, (0 + 1), none⟩ (.int .i64 x1) fun AD =>
   aK AD ⟨k1, (0 + 2), none⟩ (.int .i64 n8) fun EG =>
   aK EG ⟨k1, (0 + 3), none⟩ (.slice PL EH Km) fun AY =>
   aJ (Mem.ld AY ⟨k1, 0, none⟩) .i64 fun MY =>
   aJ (Mem.ld AY ⟨k1, (0 + 1), none⟩) .i64 fun EB =>
   aJ (Mem.ld AY ⟨k1, (0 + 2), none⟩) .i64 fun EN =>
   aB (Mem.ld AY ⟨k1, (0 + 3), none⟩) fun Ud Nu Ue =>
   K (.agg #[(.int .i64 MY), (.int .i64 EB), (.int .i64 EN), (.slice Ud Nu Ue)]) AY)) Kp)
  (aJ (Mem.ld tS ⟨k6, ((k7 + ((Int.toNat x1) * 3)) + 2), none⟩) .i64 fun Gz =>
  aO (Gz == 0)
   (aK tS ⟨k6, ((k7 + ((Int.toNat x1) * 3)) + 1), none⟩ (.int .i64 (-1)) fun C6 =>
   cw (Mem.ld C6 ⟨b0, o0, none⟩) fun A84 =>
   aa Tryz.prog 119 #[(.pointer A84), (.int .i64 n8)] C6 (fun Uj GP =>
   aJ (some Uj) .i64 fun YL =>
   aO (YL == 1)
    (bh GP (.cells #[(.int .i64 n8)] 3 (0, 0)) fun LH EI =>
    aa Tryz.prog 58 #[(.pointer (some ⟨b0, (o0 + 7), none⟩)), (.slice (some ⟨LH, 0, none⟩) 1 1)] EI (fun Nt lu =>
    (Nt = (.tuple #[])) ∧
    aB (Mem.ld lu ⟨fB, (0 + 1), none⟩) fun Yp Un Ub =>
    aK lu ⟨k1, 0, none⟩ (.int .i64 7) fun PM =>
    aK PM ⟨k1, (0 + 1), none⟩ (.int .i64 x1) fun PN =>
    aK PN ⟨k1, (0 + 2), none⟩ (.int .i64 n8) fun QC =>
    aK QC ⟨k1, (0 + 3), none⟩ (.slice Yp Un Ub) fun Bb =>
    aJ (Mem.ld Bb ⟨k1, 0, none⟩) .i64 fun IK =>
    aJ (Mem.ld Bb ⟨k1, (0 + 1), none⟩) .i64 fun qS =>
    aJ (Mem.ld Bb ⟨k1, (0 + 2), none⟩) .i64 fun Na =>
    aB (Mem.ld Bb ⟨k1, (0 + 3), none⟩) fun za m5 EP =>
    K (.agg #[(.int .i64 IK), (.int .i64 qS), (.int .i64 Na), (.slice za m5 EP)]) Bb) Kp)
    (aB (Mem.ld GP ⟨fB, (0 + 1), none⟩) fun Dd xE Ku =>
    aK GP ⟨k1, 0, none⟩ (.int .i64 7) fun Vk =>
    aK Vk ⟨k1, (0 + 1), none⟩ (.int .i64 x1) fun uu =>
    aK uu ⟨k1, (0 + 2), none⟩ (.int .i64 n8) fun Vl =>
    aK Vl ⟨k1, (0 + 3), none⟩ (.slice Dd xE Ku) fun nQ =>
    aJ (Mem.ld nQ ⟨k1, 0, none⟩) .i64 fun yR =>
    aJ (Mem.ld nQ ⟨k1, (0 + 1), none⟩) .i64 fun Nd =>
    aJ (Mem.ld nQ ⟨k1, (0 + 2), none⟩) .i64 fun Nf =>
    aB (Mem.ld nQ ⟨k1, (0 + 3), none⟩) fun Vm KA Vn =>
    K (.agg #[(.int .i64 yR), (.int .i64 Nd), (.int .i64 Nf), (.slice Vm KA Vn)]) nQ)) Kp)
   (aB (Mem.ld tS ⟨fB, (0 + 1), none⟩) fun Vo GY Vp =>
   aK tS ⟨k1, 0, none⟩ (.int .i64 7) fun Vq =>
   aK Vq ⟨k1, (0 + 1), none⟩ (.int .i64 x1) fun Vr =>
   aK Vr ⟨k1, (0 + 2), none⟩ (.int .i64 n8) fun Vs =>
   aK Vs ⟨k1, (0 + 3), none⟩ (.slice Vo GY Vp) fun vZ =>
   aJ (Mem.ld vZ ⟨k1, 0, none⟩) .i64 fun GZ =>
   aJ (Mem.ld vZ ⟨k1, (0 + 1), none⟩) .i64 fun Vt =>
   aJ (Mem.ld vZ ⟨k1, (0 + 2), none⟩) .i64 fun De =>
   aB (Mem.ld vZ ⟨k1, (0 + 3), none⟩) fun Vu N5 Vv =>
   K (.agg #[(.int .i64 GZ), (.int .i64 Vt), (.int .i64 De), (.slice Vu N5 Vv)]) vZ)))) Kp) :
 aa Tryz.prog 111 ([.pointer (some ⟨b0, o0, none⟩), .int .i64 x1] : List Value).toArray M K Kp :=
 cq (C := Cx) good [(3, .bR [0, 1, 3, 7, 0, 0, 32, 96, 224, 480, 1023, 0, 4095] (.step 0 (.step 1 (.step 2 (.step 4 (.step 5 (.step 6 (.step 7 (.step 3 (.step 8 (.step 9 (.late 10 (.step 11 (.step 12 .done)))))))))))))), (2000000, .loop [(34, .c (.int .i64))]), (7, .bR [0, 1, 3, 7, 0, 16, 48, 112, 255, 511, 1023, 0, 0, 4096, 12288, 32767] (.step 0 (.step 1 (.step 2 (.step 4 (.step 5 (.step 6 (.step 11 (.step 12 (.step 13 (.step 14 (.step 3 (.step 7 (.step 8 (.step 9 (.step 10 (.step 15 .done)))))))))))))))))] Tryz.func111 (by kernel_rfl) (by kernel_rfl) h
theorem tu {b0 o0 : Nat} {b1 o1 : Nat} (h :
rP M b1 o1 fun A1 =>
aa Tryz.prog 178 #[(.pointer A1), (.pointer (some ⟨b0, (o0 + 7), none⟩))] M (fun v2 M3 =>
aJ (some v2) .i64 fun n4 =>
rI M3 b1 (o1 + 1) fun n5 =>
((7 : Int) ≠ 0) ∧
aO ((Int.tmod n5 7) == 6)
 (aa Tryz.prog 179 #[(.pointer (some ⟨b0, (o0 + 7), none⟩)), (iV 1)] M3 (fun v6 M7 =>
 aB (some v6) fun A8 k9 gn =>
 aO ((k9 : Int) == 1)
 (((0 : Int) ≤ 0) ∧
 ((0 : Int) < k9) ∧
 aF A8 fun eO gH =>
 rI M7 eO (gH + 0) fun iM =>
 K (.tuple #[(iV iM), (.bool true)]) M7)
 (rP M7 b1 o1 fun oX =>
 aa Tryz.prog 149 #[(.pointer oX)] M7 (fun C1 fz =>
 ∃ iW : Int, ∃ t18 : Bool, (C1 = (.tuple #[(iV iW), (.bool t18)])) ∧
 aO t18
 (K (.tuple #[(iV iW), (.bool true)]) fz)
 (rP fz b1 o1 fun DP =>
 aa Tryz.prog 180 #[(.pointer DP), (.pointer (some ⟨b0, (o0 + 7), none⟩)), (iV 0)] fz (fun v20 oB =>
 ∃ wX : Int, ∃ t23 : Bool, (v20 = (.tuple #[(iV wX), (.bool t23)])) ∧
 K (.tuple #[(iV wX), (.bool t23)]) oB) Kp)) Kp)) Kp)
 (rP M3 b1 o1 fun PF =>
 aa Tryz.prog 149 #[(.pointer PF)] M3 (fun T0 yd =>
 ∃ oG : Int, ∃ t28 : Bool, (T0 = (.tuple #[(iV oG), (.bool t28)])) ∧
 aO t28
 (K (.tuple #[(iV oG), (.bool true)]) yd)
 (rP yd b1 o1 fun SE =>
 aa Tryz.prog 180 #[(.pointer SE), (.pointer (some ⟨b0, (o0 + 7), none⟩)), (iV 0)] yd (fun v30 T7 =>
 ∃ n32 : Int, ∃ t33 : Bool, (v30 = (.tuple #[(iV n32), (.bool t33)])) ∧
 K (.tuple #[(iV n32), (.bool t33)]) T7) Kp)) Kp)) Kp) :
 aa Tryz.prog 150 #[.pointer (some ⟨b0, o0, none⟩), .pointer (some ⟨b1, o1, none⟩)] M K Kp := vw [(1, .bR [0, 1, 3, 7, 0, 16, 48, 127] (sy [0, 1, 2, 4, 5, 6, 3, 7] .done)), (9, .bR [0, 1, 3, 7, 0, 16, 48, 127, 255, 255, 1023, 2047] (sy [0, 1, 2, 4, 5, 6, 3, 7, 8, 9, 10, 11] .done))] Tryz.func150 h
end Go.Proofs
namespace Go.AF
theorem cY.two : ∀ (zs : List HP) (i j : Nat), i ≠ j → i < zs.length → j < zs.length → ∃ rest, ∀ P Q, ∃ l1, cY ((zs.set i P).set j Q) P l1 ∧ cY l1 Q rest
 | [], _, _, _, h, _ => by simp at h
 | z :: zs, 0, 0, h, _, _ => absurd rfl h
 | z :: zs, 0, j + 1, _, _, hj => ⟨zs.eraseIdx j, fun P Q => ⟨zs.set j Q, by simp only [List.set_cons_zero, List.set_cons_succ]; exact .here, cY.idx (by simpa using hj)⟩⟩
 | z :: zs, i + 1, 0, _, hi, _ => ⟨zs.eraseIdx i, fun P Q => ⟨Q :: zs.eraseIdx i, by simp only [List.set_cons_zero, List.set_cons_succ]; exact .there (cY.idx (by simpa using hi)), .here⟩⟩
 | z :: zs, i + 1, j + 1, h, hi, hj => by
  obtain ⟨rest, hr⟩ := cY.two zs i j (by omega) (by simpa using hi) (by simpa using hj)
  refine ⟨z :: rest, fun P Q => ?_⟩
  obtain ⟨l1, h1, h2⟩ := hr P Q
  exact ⟨z :: l1, by simp only [List.set_cons_succ]; exact .there h1, .there h2⟩
section
variable {α : Type} {r : sH α} {R : Mem} {L L' ou : List HP} {M : Mem} {bs : List Nat} {cs : List α} {b b' i j : Nat} {c c' : α}
theorem Hp.N6 (h : Hp R L M) (r : sH α) {bs : List Nat} {cs : List α} [o : fG r L bs cs L'] (hij : i ≠ j) (hb : bs[i]? = some b) (hc : cs[i]? = some c) (hb' : bs[j]? = some b') (FU : cs[j]? = some c') :
  ∃ X : HP, Hp R (az r b c :: az r b' c' :: X :: L') M ∧ ∀ {R' : Mem} {L2 : List HP} {M' : Mem} {d d' : α}, Hp R' (az r b d :: az r b' d' :: X :: L2) M' → Hp R' (bj r bs ((cs.set i d).set j d') :: L2) M' := by
 have hi := (List.getElem?_eq_some_iff.1 hb).1
 have hj := (List.getElem?_eq_some_iff.1 hb').1
 have KB := (List.getElem?_eq_some_iff.1 hc).1
 have Gm := (List.getElem?_eq_some_iff.1 FU).1
 have hl : (List.zipWith (az r) bs cs).length = min bs.length cs.length := List.length_zipWith
 obtain ⟨rest, hr⟩ := cY.two (List.zipWith (az r) bs cs) i j hij (by omega) (by omega)
 refine ⟨sep rest, ?_, ?_⟩
 ·have h0 : Hp R (sep (List.zipWith (az r) bs cs) :: L') M := h.pick o.pick
  obtain ⟨l1, p1, p2⟩ := hr (az r b c) (az r b' c')
  have e : ((List.zipWith (az r) bs cs).set i (az r b c)).set j (az r b' c') = List.zipWith (az r) bs cs := by
   rw [nJ hb, nJ hb']
   congr 1
   obtain ⟨_, e1⟩ := List.getElem?_eq_some_iff.1 hc
   obtain ⟨_, e2⟩ := List.getElem?_eq_some_iff.1 FU
   subst e1; subst e2
   rw [List.set_getElem_self, List.set_getElem_self]
  rw [e] at p1
  refine h0.map fun A hs => ?_
  have h1 := bU.pick p1.app (bU.aX.1 hs)
  exact h1.tail fun B Lx => (bU.pick p2.app Lx).tail fun C PG => bU.aX.2 PG
 ·intro R' L2 M' d d' h1
  obtain ⟨l1, p1, p2⟩ := hr (az r b d) (az r b' d')
  rw [nJ hb, nJ hb'] at p1
  show Hp R' (sep (List.zipWith (az r) bs ((cs.set i d).set j d')) :: L2) M'
  refine h1.map fun A hs => bU.aX.2 (bU.nB p1.app ?_)
  exact hs.tail fun B Lx => bU.nB p2.app (Lx.tail fun C PG => bU.aX.1 PG)
end
end Go.AF
namespace Go.Proofs
open Go.AF
set_option maxRecDepth 100000
theorem qb {yV : Int} {yW : Int} {gU : Int} {N7 : Int} {M : Mem} {K : Value → Mem → Prop} {Kp : List PanicEntry → Mem → Prop} (h :
bh M (cl [(iV yV), (iV yW), (iV gU), (iV N7)] 23) fun k1 M2 =>
bh M2 J3 fun k3 M4 =>
bG M4 k1 0 fun n5 n6 n7 n8 =>
aa Tryz.prog 55 #[(iV n5), (iV 5)] M4 (fun v9 iZ =>
aJ (some v9) .i64 fun iN =>
eI iZ k1 3 n8 ∧
eI iZ k1 2 n7 ∧
eI iZ k1 1 n6 ∧
aa Tryz.prog 55 #[(iV n6), (iV 5)] iZ (fun It mL =>
aJ (some It) .i64 fun mb =>
eI mL k1 3 n8 ∧
eI mL k1 2 n7 ∧
eI mL k1 1 n6 ∧
aa Tryz.prog 55 #[(iV n7), (iV 5)] mL (fun C1 fz =>
aJ (some C1) .i64 fun iW =>
eI fz k1 3 n8 ∧
eI fz k1 2 n7 ∧
eI fz k1 1 n6 ∧
aa Tryz.prog 55 #[(iV n8), (iV 12)] fz (fun Ez jD =>
aJ (some Ez) .i64 fun gk =>
eI jD k1 3 n8 ∧
eI jD k1 2 n7 ∧
eI jD k1 1 n6 ∧
kC jD k3 (iV (IntKind.wrap .i64 (1 + iN))) (iV (IntKind.wrap .i64 (1 + mb))) (iV (IntKind.wrap .i64 (2 + iW))) (iV (IntKind.wrap .i64 (1 + gk))) fun j8 =>
eI j8 k1 3 n8 ∧
eI j8 k1 2 n7 ∧
eI j8 k1 1 n6 ∧
bG j8 k3 0 fun mN ox oG wY =>
K (.agg #[(iV mN), (iV ox), (iV oG), (iV wY)]) j8) Kp) Kp) Kp) Kp) :
 aa Tryz.prog 14 #[.agg #[.int .i64 yV, .int .i64 yW, .int .i64 gU, .int .i64 N7]] M K Kp := vw [(2, .bR [0, 0, 2, 7, 15, 0, 0, 64, 239, 495, 0, 0, 2048, 7663, 15855, 0, 0, 65536, 245231, 507375, 1048575, 2097151] (sy [0, 1, 5, 6, 10, 11, 15, 16, 2] (.dw 7 (.dw 12 (.dw 17 (sy [3, 4, 8, 9, 13, 14, 18, 19, 20, 21] .done))))))] Tryz.func14 h
theorem nR {x0 : Int} {x1 : Int} {M : Mem} {K : Value → Mem → Prop} {Kp : List PanicEntry → Mem → Prop} (h :
((x1 : Int) ≠ 0) ∧
K (iV (Int.tmod (IntKind.wrap .i64 (((Nat.bitwise and (BitVec.ofInt IntKind.i64.bits x0).toNat (BitVec.ofInt IntKind.i64.bits 255).toNat) : Nat) : Int)) x1)) M) :
 aa Tryz.prog 55 #[.int .i64 x0, .int .i64 x1] M K Kp := vw [] Tryz.func55 h
theorem ze {B0 : Option Addr} {m0 c0 : Nat} {x1 : Int} {M : Mem} {K : Value → Mem → Prop} {Kp : List PanicEntry → Mem → Prop} (h :
aY Tryz.prog (Go.Instr.makeSlice 36 (iV (if (0 : Int) > x1 then 0 else x1)) (iV (if (0 : Int) > x1 then 0 else x1))) M (fun v1 M2 =>
aB (some v1) fun A3 k4 k5 =>
∃ I6 : IT, (∃ k7, I6 k7 [(iV 0)] M2) ∧
∀ (k8 : Nat) (_ : Nat → Value) (jc : Int) (jL : Mem), (I6 k8 [(iV jc)] jL) → aO (decide (jc < k4))
 ((0 ≤ jc) ∧
 (jc < k4) ∧
 aF A3 fun gH eN =>
 sT jL gH (eN + (Int.toNat jc)) (iV (-1)) fun lK =>
 ∃ iC : Nat, (iC < k8) ∧
 I6 iC [(iV (IntKind.wrap .i64 (jc + 1)))] lK)
 (aY Tryz.prog (Go.Instr.makeSlice 248 (iV (k4 : Int)) (iV (k4 : Int))) jL (fun Nk oE =>
 aB (some Nk) fun Kj jK lz =>
 ∃ YM : IT, (∃ gV, YM gV [(iV 0), (iV 0), (iV 0)] oE) ∧
 ∀ (jq : Nat) (_ : Nat → Value) (mN : Int) (ox : Int) (oG : Int) (uq : Mem), (YM jq [(iV mN), (iV ox), (iV oG)] uq) → aO (decide (oG < m0))
 ((0 ≤ oG) ∧
 (oG < m0) ∧
 aF B0 fun iy mj =>
 rIU uq iy (mj + ((Int.toNat oG) * 2)) fun sk n32 =>
 bh uq Iv fun tQ sr =>
 sT2 sr tQ (iV sk) (.int .u64 n32) fun Aq =>
 rI Aq tQ 0 fun MQ =>
 aO (MQ != 1)
 (∃ iD : Nat, (iD < jq) ∧
 YM iD [(iV mN), (iV ox), (iV (IntKind.wrap .i64 (oG + 1)))] Aq)
 (rU Aq tQ 1 fun Kb =>
 aO (decide ((Kb : Int) < (IntKind.wrap .u64 (k4 : Int))))
 (rU Aq tQ 1 fun DQ =>
 (0 ≤ DQ) ∧
 (DQ < k4) ∧
 aF A3 fun MR Qq =>
 rI Aq MR (Qq + (Int.toNat DQ)) fun xY =>
 rU Aq tQ 1 fun w8 =>
 (0 ≤ w8) ∧
 (w8 < k4) ∧
 aF A3 fun Kc MS =>
 rU Aq tQ 1 fun sq =>
 sT Aq Kc (MS + (Int.toNat w8)) (iV mN) fun MT =>
 ((Mem.ld MT ⟨tQ, 1, none⟩) = (some (.int .u64 sq))) ∧
 (0 ≤ sq) ∧
 (sq < jK) ∧
 aF Kj fun LF MX =>
 sT MT LF (MX + (Int.toNat sq)) (.bool true) fun X7 =>
 ((Mem.ld X7 ⟨tQ, 1, none⟩) = (some (.int .u64 sq))) ∧
 ∃ qG : Nat, (qG < jq) ∧
 YM qG [(iV (IntKind.wrap .i64 (mN + 1))), (iV (if ((IntKind.wrap .i64 (mN - xY)) : Int) > ox then (IntKind.wrap .i64 (mN - xY)) else ox)), (iV (IntKind.wrap .i64 (oG + 1)))] X7)
 (∃ sP : Nat, (sP < jq) ∧
 YM sP [(iV (IntKind.wrap .i64 (mN + 1))), (iV ox), (iV (IntKind.wrap .i64 (oG + 1)))] Aq)))
 (∃ I54 : IT, (∃ Nr, I54 Nr [(iV ox), (iV 0)] uq) ∧
 ∀ (QA : Nat) (_ : Nat → Value) (FP : Int) (tO : Int) (pI : Mem), (I54 QA [(iV FP), (iV tO)] pI) → aO (decide (tO < k4))
 ((0 ≤ tO) ∧
 (tO < k4) ∧
 aF A3 fun k61 Ns =>
 rI pI k61 (Ns + (Int.toNat tO)) fun Gy =>
 (0 ≤ tO) ∧
 (tO < jK) ∧
 aF Kj fun Vw k65 =>
 rB pI Vw (k65 + (Int.toNat tO)) fun t66 =>
 aO (!t66)
 (K (iV 0) pI)
 (∃ vp : Nat, (vp < QA) ∧
 I54 vp [(iV (if ((IntKind.wrap .i64 (mN - Gy)) : Int) > FP then (IntKind.wrap .i64 (mN - Gy)) else FP)), (iV (IntKind.wrap .i64 (tO + 1)))] pI))
 (K (iV FP) pI))) Kp)) Kp) :
 aa Tryz.prog 75 #[.slice B0 m0 c0, .int .i64 x1] M K Kp := vw [(2000000, .loop [(19, .c (.int .i64))]), (2000002, .loop [(8, .c (.int .i64)), (9, .c (.int .i64)), (31, .c (.int .i64))]), (15, .bR [0, 0, 2, 0, 0, 16, 0, 71, 199, 511, 1023] (sy [0, 1, 3, 4, 6, 2, 7] (.dw 5 (sy [8, 9, 10] .done)))), (2000004, .loop [(9, .c (.int .i64)), (67, .c (.int .i64))])] Tryz.func75 h
variable {M : Mem} {K : Value → Mem → Prop} {Kp : List PanicEntry → Mem → Prop}
theorem Bc {mR : Option Addr} {mS mT : Nat} {mU : Option Addr} {mV mW : Nat} {gU : Int} {mX : Option Addr} {mY mZ : Nat} {cK : Int} {cL : Int} {cN : Int} {eE : Int} {B2 : Option Addr} {m2 c2 : Nat} {x3 : Int} (h :
bh M (cl [(.slice mR mS mT), (.slice mU mV mW), (iV gU), (.slice mX mY mZ)] 39) fun k1 M2 =>
bh M2 (cl [(iV cK), (iV cL), (iV cN), (iV eE)] 29) fun k3 M4 =>
bh M4 (cl [(iV x3)] 3) fun k5 M6 =>
bh M6 BS fun k7 M8 =>
aa Tryz.prog 16 #[(.slice B2 m2 c2)] M8 (fun v9 iZ =>
cw (some v9) fun PI =>
yN iZ k1 0 fun Ax eN jJ wW fL fB lA DP lz fM =>
bG iZ k3 0 fun wX oY BZ mN =>
aa Tryz.prog 15 #[(.agg #[(.slice Ax eN jJ), (.slice wW fL fB), (iV lA), (.slice DP lz fM)]), (.agg #[(iV wX), (iV oY), (iV BZ), (iV mN)]), (.pointer PI)] iZ (fun TW wZ =>
cw (some TW) fun Qv =>
bh wZ TQ fun iy ur =>
sT ur iy 0 (.pointer Qv) fun T7 =>
bh T7 (.map #[] 0) fun uv Ay =>
bA Tryz.prog (Go.Instr.mapUpdate 170 (.map (some uv)) (iV 0) (iV (-1))) Ay (fun sr =>
bh sr (cl [(.map (some uv)), (iV 0)] 172) fun Aw Aq =>
bh Aq Qo fun jU mh =>
sT mh jU 0 (.pointer (some ⟨Aw, 0, none⟩)) fun SM =>
aa Tryz.prog 61 #[(.func (.func 71) #[] #[(.pointer (some ⟨k5, 0, none⟩)), (.pointer (some ⟨iy, 0, none⟩)), (.pointer (some ⟨jU, 0, none⟩))])] SM (fun Ki Az =>
∃ y3 xY w8 uC AA sq : Int, (Ki = (.tuple #[(iV y3), (.agg #[(iV xY), (iV w8), (iV uC), (iV AA), (.int .u64 sq)])])) ∧
rP Az iy 0 fun Nv =>
aa Tryz.prog 18 #[(.pointer Nv)] Az (fun Kd xZ =>
cw (some Kd) fun Qr =>
aa Tryz.prog 73 #[(.pointer Qr)] xZ (fun v52 GN =>
aJ (some v52) .i64 fun T8 =>
∃ I55 : IT, (∃ QA, I55 QA [(iV 0)] GN) ∧
∀ (C5 : Nat) (_ : Nat → Value) (tO : Int) (pI : Mem), (I55 C5 [(iV tO)] pI) → aO (decide (tO < T8))
 (rP pI iy 0 fun T9 =>
 rP pI jU 0 fun Xe =>
 aa Tryz.prog 35 #[(.pointer T9)] pI (fun v63 IF =>
 aJ (some v63) .i64 fun AP =>
 ((Mem.ld IF ⟨jU, 0, none⟩) = (some (.pointer Xe))) ∧
 aa Tryz.prog 74 #[(.pointer Xe), (iV tO), (iV (IntKind.wrap .i64 (AP - 1)))] IF (fun v66 M67 =>
 (v66 = (.tuple #[])) ∧
 ((Mem.ld M67 ⟨jU, 0, none⟩) = (some (.pointer Xe))) ∧
 ∃ DR : Nat, (DR < C5) ∧
 I55 DR [(iV (IntKind.wrap .i64 (tO + 1)))] M67) Kp) Kp)
 (rP pI iy 0 fun PL =>
 rP pI iy 0 fun QF =>
 rI pI k3 1 fun LG =>
 rP pI jU 0 fun SO =>
 aF SO fun Kr IJ =>
 rI pI Kr (IJ + 1) fun EA =>
 aa Tryz.prog 35 #[(.pointer PL)] pI (fun Yv Ko =>
 aJ (some Yv) .i64 fun EN =>
 ((Mem.ld Ko ⟨Kr, (IJ + 1), none⟩) = (some (iV EA))) ∧
 ((Mem.ld Ko ⟨jU, 0, none⟩) = (some (.pointer SO))) ∧
 eI Ko k3 1 LG ∧
 ((Mem.ld Ko ⟨iy, 0, none⟩) = (some (.pointer QF))) ∧
 aa Tryz.prog 18 #[(.pointer QF)] Ko (fun v79 xD =>
 cw (some v79) fun QB =>
 ((Mem.ld xD ⟨Kr, (IJ + 1), none⟩) = (some (iV EA))) ∧
 ((Mem.ld xD ⟨jU, 0, none⟩) = (some (.pointer SO))) ∧
 eI xD k3 1 LG ∧
 ((Mem.ld xD ⟨iy, 0, none⟩) = (some (.pointer QF))) ∧
 aa Tryz.prog 73 #[(.pointer QB)] xD (fun v82 C6 =>
 aJ (some v82) .i64 fun LC =>
 ((Mem.ld C6 ⟨Kr, (IJ + 1), none⟩) = (some (iV EA))) ∧
 ((Mem.ld C6 ⟨jU, 0, none⟩) = (some (.pointer SO))) ∧
 eI C6 k3 1 LG ∧
 ((Mem.ld C6 ⟨iy, 0, none⟩) = (some (.pointer QF))) ∧
 aa Tryz.prog 76 #[(.pointer PI)] C6 (fun Uj GP =>
 aB (some Uj) fun A87 LH k89 =>
 ((Mem.ld GP ⟨Kr, (IJ + 1), none⟩) = (some (iV EA))) ∧
 ((Mem.ld GP ⟨jU, 0, none⟩) = (some (.pointer SO))) ∧
 eI GP k3 1 LG ∧
 ((Mem.ld GP ⟨iy, 0, none⟩) = (some (.pointer QF))) ∧
 aa Tryz.prog 75 #[(.slice A87 LH k89), (iV LG)] GP (fun Nt lu =>
 aJ (some Nt) .i64 fun TV =>
 ((Mem.ld lu ⟨Kr, (IJ + 1), none⟩) = (some (iV EA))) ∧
 ((Mem.ld lu ⟨jU, 0, none⟩) = (some (.pointer SO))) ∧
 eI lu k3 1 LG ∧
 ((Mem.ld lu ⟨iy, 0, none⟩) = (some (.pointer QF))) ∧
 kC lu k7 (iV EN) (iV LC) (iV TV) (iV EA) fun PN =>
 ((Mem.ld PN ⟨Kr, (IJ + 1), none⟩) = (some (iV EA))) ∧
 ((Mem.ld PN ⟨jU, 0, none⟩) = (some (.pointer SO))) ∧
 eI PN k3 1 LG ∧
 ((Mem.ld PN ⟨iy, 0, none⟩) = (some (.pointer QF))) ∧
 bG PN k7 0 fun n97 SD IK qS =>
 K (.agg #[(iV n97), (iV SD), (iV IK), (iV qS)]) PN) Kp) Kp) Kp) Kp) Kp)) Kp) Kp) Kp) Kp) Kp) Kp) :
 aa Tryz.prog 29 #[.agg #[.slice mR mS mT, .slice mU mV mW, .int .i64 gU, .slice mX mY mZ], .agg #[.int .i64 cK, .int .i64 cL, .int .i64 cN, .int .i64 eE], .slice B2 m2 c2, .int .i64 x3] M K Kp := vw [(2000000, .loop [(28, .c (.int .i64))]), (8, .bR [0, 0, 0, 4, 12, 31] (sy [1, 2] (.dw 0 (sy [3, 4, 5] .done)))), (10, .bR [0, 1, 0, 7, 15, 0, 63, 0, 128, 511, 0, 1024, 3072, 7168, 16383, 32767] (sy [5, 7, 0] (.dw 2 (.dw 8 (.dw 10 (sy [11, 12] (.dw 13 (sy [1, 3, 4, 6, 9, 14, 15] .done))))))))] Tryz.func29 h
theorem xI {b0 o0 : Nat} {b1 o1 : Nat} {b2 o2 : Nat} (h :
rI M b0 o0 fun n1 =>
∃ I2 : IT, (∃ k3, I2 k3 [(iV 0)] M) ∧
∀ (k4 : Nat) (_ : Nat → Value) (n6 : Int) (M7 : Mem), (I2 k4 [(iV n6)] M7) → aO (decide ((n6 : Int) < (if (0 : Int) > n1 then 0 else n1)))
 (rP M7 b1 o1 fun A8 =>
 aa Tryz.prog 22 #[(.pointer A8)] M7 (fun v9 iZ =>
 aJ (some v9) .i64 fun iN =>
 aO (iN != 0)
 (K (.tuple #[]) iZ)
 (rP iZ b1 o1 fun Ax =>
 rP iZ b2 o2 fun DN =>
 rP iZ b1 o1 fun oX =>
 aa Tryz.prog 54 #[(.pointer Ax)] iZ (fun C1 fz =>
 ∃ iW lA yT : Int, ∃ Qy : Option Addr, ∃ fM gV : Nat, (C1 = (.agg #[(iV iW), (iV lA), (iV yT), (.slice Qy fM gV)])) ∧
 ((Mem.ld fz ⟨b1, o1, none⟩) = (some (.pointer oX))) ∧
 ((Mem.ld fz ⟨b2, o2, none⟩) = (some (.pointer DN))) ∧
 aa Tryz.prog 72 #[(.pointer DN), (.agg #[(iV iW), (iV lA), (iV yT), (.slice Qy fM gV)]), (.pointer oX)] fz (fun Yc j8 =>
 (Yc = (.tuple #[])) ∧
 ((Mem.ld j8 ⟨b1, o1, none⟩) = (some (.pointer oX))) ∧
 ((Mem.ld j8 ⟨b2, o2, none⟩) = (some (.pointer DN))) ∧
 ∃ sN : Nat, (sN < k4) ∧
 I2 sN [(iV (IntKind.wrap .i64 (n6 + 1)))] j8) Kp) Kp)) Kp)
 (K (.tuple #[]) M7)) :
 aa Tryz.prog 71 #[.pointer (some ⟨b0, o0, none⟩), .pointer (some ⟨b1, o1, none⟩), .pointer (some ⟨b2, o2, none⟩)] M K Kp := vw [(2000000, .loop [(5, .c (.int .i64))]), (3, .bR [0, 0, 2, 0, 15] (sy [1] (.dw 0 (.dw 3 (sy [2, 4] .done)))))] Tryz.func71 h
theorem tv {b0 o0 : Nat} {cK : Int} {cL : Int} {cN : Int} {YN : Option Addr} {YO YP : Nat} {b2 o2 : Nat} (h :
bh M (cl [(iV cK), (iV cL), (iV cN), (.slice YN YO YP)] 43) fun k1 M2 =>
aa Tryz.prog 35 #[(.pointer (some ⟨b2, o2, none⟩))] M2 (fun v3 M4 =>
aJ (some v3) .i64 fun n5 =>
rI M4 k1 0 fun n6 =>
aO (n6 == 7)
 (rI M4 k1 2 fun n7 =>
 aa Tryz.prog 74 #[(.pointer (some ⟨b0, o0, none⟩)), (iV n7), (iV (IntKind.wrap .i64 (n5 - 1)))] M4 (fun v8 M9 =>
 (v8 = (.tuple #[])) ∧
 rI M9 k1 2 fun jc =>
 aa Tryz.prog 18 #[(.pointer (some ⟨b2, o2, none⟩))] M9 (fun v11 sj =>
 cw (some v11) fun DN =>
 eI sj k1 2 jc ∧
 aa Tryz.prog 119 #[(.pointer DN), (iV jc)] sj (fun Yn su =>
 aJ (some Yn) .i64 fun nm =>
 eI su k1 2 jc ∧
 aO (nm == 1)
 (dZ (Mem.ld su ⟨b0, o0, none⟩) fun Qz =>
 rI su k1 2 fun lA =>
 bA Tryz.prog (Go.Instr.mapUpdate 170 Qz (iV lA) (iV (IntKind.wrap .i64 (n5 - 1)))) su (fun jD =>
 rS jD k1 3 fun Qy fM gV =>
 ∃ I23 : IT, (∃ sM, I23 sM [(iV 0)] jD) ∧
 ∀ (sN : Nat) (_ : Nat → Value) (oG : Int) (uq : Mem), (I23 sN [(iV oG)] uq) → aO (decide (oG < fM))
 ((0 ≤ oG) ∧
 (oG < fM) ∧
 aF Qy fun iy mj =>
 rI uq iy (mj + (Int.toNat oG)) fun sk =>
 dZ (Mem.ld uq ⟨b0, o0, none⟩) fun Uf =>
 bA Tryz.prog (Go.Instr.mapUpdate 170 Uf (iV sk) (iV (IntKind.wrap .i64 (n5 - 1)))) uq (fun Ay =>
 ∃ oW : Nat, (oW < sN) ∧
 I23 oW [(iV (IntKind.wrap .i64 (oG + 1)))] Ay) Kp)
 (K (.tuple #[]) uq)) Kp)
 (rS su k1 3 fun A35 Ng jU =>
 ∃ Vx : IT, (∃ xB, Vx xB [(iV 0)] su) ∧
 ∀ (FQ : Nat) (_ : Nat → Value) (y3 : Int) (tR : Mem), (Vx FQ [(iV y3)] tR) → aO (decide (y3 < Ng))
 ((0 ≤ y3) ∧
 (y3 < Ng) ∧
 aF A35 fun LB Kc =>
 rI tR LB (Kc + (Int.toNat y3)) fun AA =>
 dZ (Mem.ld tR ⟨b0, o0, none⟩) fun v47 =>
 bA Tryz.prog (Go.Instr.mapUpdate 170 v47 (iV AA) (iV (IntKind.wrap .i64 (n5 - 1)))) tR (fun MT =>
 ∃ LF : Nat, (LF < FQ) ∧
 Vx LF [(iV (IntKind.wrap .i64 (y3 + 1)))] MT) Kp)
 (K (.tuple #[]) tR))) Kp) Kp) Kp)
 (rS M4 k1 3 fun Xb ID qG =>
 ∃ I53 : IT, (∃ Ke, I53 Ke [(iV 0)] M4) ∧
 ∀ (Nr : Nat) (_ : Nat → Value) (IE : Int) (IG : Mem), (I53 Nr [(iV IE)] IG) → aO (decide (IE < ID))
 ((0 ≤ IE) ∧
 (IE < ID) ∧
 aF Xb fun Sz k60 =>
 rI IG Sz (k60 + (Int.toNat IE)) fun Kf =>
 dZ (Mem.ld IG ⟨b0, o0, none⟩) fun T4 =>
 bA Tryz.prog (Go.Instr.mapUpdate 170 T4 (iV Kf) (iV (IntKind.wrap .i64 (n5 - 1)))) IG (fun CY =>
 ∃ Vw : Nat, (Vw < Nr) ∧
 I53 Vw [(iV (IntKind.wrap .i64 (IE + 1)))] CY) Kp)
 (K (.tuple #[]) IG))) Kp) :
 aa Tryz.prog 72 #[.pointer (some ⟨b0, o0, none⟩), .agg #[.int .i64 cK, .int .i64 cL, .int .i64 cN, .slice YN YO YP], .pointer (some ⟨b2, o2, none⟩)] M K Kp := vw [(4, .bR [0, 1, 0, 4, 15, 31] (sy [0, 2] (.dw 3 (sy [1, 4, 5] .done)))), (5, .bR [0, 1, 3, 7, 0, 16, 0, 127] (sy [0, 1, 2, 4, 6, 3, 5, 7] .done)), (2000000, .loop [(36, .c (.int .i64))])] Tryz.func72 h
theorem tw {b0 o0 : Nat} {x1 : Int} {x2 : Int} (h :
dZ (Mem.ld M ⟨b0, o0, none⟩) fun v1 =>
aY Tryz.prog (Go.Instr.lookup 170 v1 (iV x1) true) M (fun v2 M3 =>
∃ n4 : Int, ∃ t5 : Bool, (v2 = (.tuple #[(iV n4), (.bool t5)])) ∧
aO t5
 (rI M3 b0 (o0 + 1) fun n6 =>
 sT M3 b0 (o0 + 1) (iV (if ((IntKind.wrap .i64 (x2 - n4)) : Int) > n6 then (IntKind.wrap .i64 (x2 - n4)) else n6)) fun M7 =>
 dZ (Mem.ld M7 ⟨b0, o0, none⟩) fun v8 =>
 aY Tryz.prog (Go.Builtin.delete_ #[170, 3] 0 #[v8, (iV x1)]) M7 (fun v9 iZ =>
 (v9 = (.tuple #[])) ∧
 K (.tuple #[]) iZ) Kp)
 (K (.tuple #[]) M3)) Kp) :
 aa Tryz.prog 74 #[.pointer (some ⟨b0, o0, none⟩), .int .i64 x1, .int .i64 x2] M K Kp := vw [] Tryz.func74 h
theorem Bd {yV : Int} {yW : Int} {gU : Int} {N7 : Int} {x1 : Int} {x2 : Int} (h :
bh M (cl [(iV yV), (iV yW), (iV gU), (iV N7)] 29) fun k1 M2 =>
rI M2 k1 3 fun n3 =>
rI M2 k1 2 fun n4 =>
K (iV (IntKind.wrap .i64 ((IntKind.wrap .i64 ((IntKind.wrap .i64 ((IntKind.wrap .i64 ((IntKind.wrap .i64 (2 * n3)) + 2)) * x1)) * (IntKind.wrap .i64 ((IntKind.wrap .i64 (7 * (IntKind.wrap .i64 (x2 + 2)))) + (IntKind.wrap .i64 (4 * (IntKind.wrap .i64 (n4 + 2)))))))) + (IntKind.wrap .i64 (8 * x1))))) M2) :
 aa Tryz.prog 30 #[.agg #[.int .i64 yV, .int .i64 yW, .int .i64 gU, .int .i64 N7], .int .i64 x1, .int .i64 x2] M K Kp := vw [] Tryz.func30 h
end Go.Proofs
