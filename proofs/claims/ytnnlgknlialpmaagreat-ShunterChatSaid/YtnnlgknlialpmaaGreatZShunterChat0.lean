/- A part of proofs about one program. -/
import Derived.Test.YtnnlgknlialpmaaGreatProg
import Derived.Test.YtnnlgknlialpmaaGreatZShunterChatStC
import Derived.Test.YtnnlgknlialpmaaGreatZShunterChatMod
import Derived.Test.YtnnlgknlialpmaaGreatZShunterChatWin2
set_option linter.unusedVariables false
namespace Go.Proofs
open Go.AF
noncomputable def Cx : Ctx := ⟨Tryz.prog, 255⟩
theorem good : Cx.Good := by
 refine ⟨?_, by kernel_rfl⟩
 have h : (List.range 253).all (fun g => od Tryz.prog (g + 2)) = true := by kernel_rfl
 intro g hg
 have h1 : g < 255 := hg.2
 have := List.all_eq_true.1 h (g - 2) (List.mem_range.2 (by omega))
 have e : g - 2 + 2 = g := by omega
 simp only [e] at this
 exact this
def sy : List Nat → Ex → Ex
 | [], e => e
 | i :: l, e => .step i (sy l e)
abbrev aA (t : Nat) (A : Option Addr) (n c : Nat) (B : Option Addr) (m d : Nat) (M : Mem) (K : Value → Mem → Prop) (Kp : List PanicEntry → Mem → Prop) : Prop := aN Tryz.prog (Go.Builtin.append_ #[t, t] t #[.slice A n c, .slice B m d]) M K Kp
theorem vw {f : FuncId} {fn : Func} {args : List Value} {M : Mem} {K : Value → Mem → Prop} {Kp : List PanicEntry → Mem → Prop} (H : List (Nat × Hint)) (hf : Cx.P.funcs[f]? = some fn) {vc : Prop} (h : vc) (h1 : wU fn args.length = true := by kernel_rfl)
  (h2 : vc = dh Cx H Kp (eo fn) 0 (I0 Cx.P fn K) (fD args) M := by kernel_rfl) : aa Cx.P f args.toArray M K Kp := b6 (C := Cx) good H hf h1 h2 h
end Go.Proofs
namespace Go.Proofs
open Go.AF
set_option maxRecDepth 100000
variable {M : Mem} {K : Value → Mem → Prop} {Kp : List PanicEntry → Mem → Prop}
theorem BS {x0 : Int} (h :
aX M (cl [(iV (if (16 : Int) < (if (0 : Int) > x0 then 0 else x0) then 16 else (if (0 : Int) > x0 then 0 else x0))), (.slice none 0 0), (.slice none 0 0), (.slice none 0 0), (.bool false)] 305) fun k1 M2 =>
K (.pointer (some ⟨k1, 0, none⟩)) M2) :
 aa Tryz.prog 113 #[.int .i64 x0] M K Kp := vw [] Tryz.func113 h
theorem mL {b0 o0 : Nat} {cL : Int} {cN : Int} {cO : Int} (h :
aX M (cl [(iV cL), (iV cN), (iV cO)] 280) fun k1 M2 =>
rS M2 b0 (o0 + 3) fun A3 k4 k5 =>
oz M2 k1 0 fun n6 n7 n8 =>
aX M2 (cl [(iV n6), (iV n7), (iV n8)] 280) fun k9 gF =>
aA 195 A3 k4 k5 (some ⟨k9, 0, none⟩) 1 1 gF (fun v11 s9 =>
az (some v11) fun EY jE gX =>
sT s9 b0 (o0 + 3) (.slice EY jE gX) fun fh =>
K (.tuple #[]) fh) Kp) :
 aa Tryz.prog 235 #[.pointer (some ⟨b0, o0, none⟩), .agg #[.int .i64 cL, .int .i64 cN, .int .i64 cO]] M K Kp := vw [(1, .bQ [0, 0, 2, 6, 14, 0, 32, 126, 255, 511, 1023] (sy [0, 1, 2, 3, 4, 5, 6, 7, 8, 9, 10] .done))] Tryz.func235 h
theorem mN {b0 o0 : Nat} {cL : Int} {cN : Int} {cO : Int} (h :
aX M (cl [(iV cL), (iV cN), (iV cO)] 280) fun k1 M2 =>
rS M2 b0 (o0 + 2) fun A3 k4 k5 =>
oz M2 k1 0 fun n6 n7 n8 =>
aX M2 (cl [(iV n6), (iV n7), (iV n8)] 280) fun k9 gF =>
aA 195 A3 k4 k5 (some ⟨k9, 0, none⟩) 1 1 gF (fun v11 s9 =>
az (some v11) fun EY jE gX =>
sT s9 b0 (o0 + 2) (.slice EY jE gX) fun fh =>
K (.tuple #[]) fh) Kp) :
 aa Tryz.prog 236 #[.pointer (some ⟨b0, o0, none⟩), .agg #[.int .i64 cL, .int .i64 cN, .int .i64 cO]] M K Kp := vw [(1, .bQ [0, 0, 2, 6, 14, 0, 32, 126, 255, 511, 1023] (sy [0, 1, 2, 3, 4, 5, 6, 7, 8, 9, 10] .done))] Tryz.func236 h
theorem ry {b0 o0 : Nat} {x1 : Int} (h :
aX M jM fun k1 M2 =>
rB M2 b0 (o0 + 4) fun t3 =>
aM t3
 (sT M2 k1 0 (iV 0) fun M4 =>
 sT M4 k1 1 (iV 0) fun M5 =>
 sT M5 k1 2 (iV 0) fun M6 =>
 oz M6 k1 0 fun n7 n8 n9 =>
 K (.tuple #[(.agg #[(iV n7), (iV n8), (iV n9)]), (.bool false), (iV 10)]) M6)
 (rS M2 b0 (o0 + 3) fun EZ eT gx =>
 aM (decide ((eT : Int) > 0))
 (aX M2 jM fun c7 mh =>
 rS mh b0 (o0 + 3) fun vP gA eK =>
 aa Tryz.prog 250 #[(.slice vP gA eK)] mh (fun FA jN =>
 ∃ iD mO qP : Int, ∃ Yn : Option Addr, ∃ sE oB : Nat, (FA = (.tuple #[(.agg #[(iV iD), (iV mO), (iV qP)]), (.slice Yn sE oB)])) ∧
 Lw jN c7 (iV iD) (iV mO) (iV qP) fun uR =>
 sT uR b0 (o0 + 3) (.slice Yn sE oB) fun mP =>
 sT mP c7 2 (iV x1) fun xM =>
 oz xM c7 0 fun td n32 O8 =>
 Lw xM k1 (iV td) (iV n32) (iV O8) fun AG =>
 oz AG k1 0 fun O9 Jm LM =>
 K (.tuple #[(.agg #[(iV O9), (iV Jm), (iV LM)]), (.bool true), (iV 0)]) AG) Kp)
 (rS M2 b0 (o0 + 1) fun Yo Jn LN =>
 rI M2 b0 o0 fun DD =>
 aM (decide ((Jn : Int) < DD))
 (rS M2 b0 (o0 + 1) fun A44 Jo LO =>
 aX M2 (cl [(iV x1)] 2) fun Wp LP =>
 aA 53 A44 Jo LO (some ⟨Wp, 0, none⟩) 1 1 LP (fun Jp wX =>
 az (some Jp) fun Pa tf pQ =>
 sT wX b0 (o0 + 1) (.slice Pa tf pQ) fun Pb =>
 Lw Pb k1 (iV 0) (iV 0) (iV 0) fun LQ =>
 oz LQ k1 0 fun Hs vQ SQ =>
 K (.tuple #[(.agg #[(iV Hs), (iV vQ), (iV SQ)]), (.bool false), (iV 0)]) LQ) Kp)
 (sT M2 k1 0 (iV 0) fun FB =>
 sT FB k1 1 (iV 0) fun sF =>
 sT sF k1 2 (iV 0) fun BT =>
 oz BT k1 0 fun n64 BU Zx =>
 K (.tuple #[(.agg #[(iV n64), (iV BU), (iV Zx)]), (.bool false), (iV 6)]) BT)))) :
 aa Tryz.prog 237 #[.pointer (some ⟨b0, o0, none⟩), .int .i64 x1] M K Kp := vw [(8, .bQ [0, 1, 3, 7, 15, 0, 32, 96, 224, 511, 1023] (sy [0, 1, 2, 5, 6, 7, 3, 4, 8, 9, 10] .done))] Tryz.func237 h
theorem rz {b0 o0 : Nat} (h :
aX M mK fun k1 M2 =>
aX M2 mK fun k3 M4 =>
rS M4 b0 (o0 + 2) fun A5 k6 k7 =>
∃ J8 : List Value → Mem → Prop, (aM (decide ((k6 : Int) > 0))
 (rS M4 b0 (o0 + 2) fun A9 fm eT =>
 aa Tryz.prog 250 #[(.slice A9 fm eT)] M4 (fun CX kj =>
 ∃ pR jm lN : Int, ∃ Oo : Option Addr, ∃ fZ iz : Nat, (CX = (.tuple #[(.agg #[(iV pR), (iV jm), (iV lN)]), (.slice Oo fZ iz)])) ∧
 sT kj k3 2 (iV pR) fun rA =>
 sT rA k3 (2 + 1) (iV jm) fun wB =>
 sT wB k3 (2 + 2) (iV lN) fun rC =>
 sT rC b0 (o0 + 2) (.slice Oo fZ iz) fun j5 =>
 sT j5 k3 5 (.bool true) fun jn =>
 rS jn b0 (o0 + 1) fun Wq uS DE =>
 rI jn k3 (2 + 2) fun vR =>
 aX jn (cl [(iV vR)] 2) fun gY xM =>
 aA 53 Wq uS DE (some ⟨gY, 0, none⟩) 1 1 xM (fun SR qQ =>
 az (some SR) fun LR tg BV =>
 sT qQ b0 (o0 + 1) (.slice LR tg BV) fun AG =>
 J8 [] AG) Kp) Kp)
 (J8 [] M4)) ∧
∀ Zy : Nat → Value, ∀ mj : Mem, (J8 [] mj) → rS mj b0 (o0 + 1) fun Yp Jq Jn =>
aM (decide ((Jq : Int) > 0))
 (rS mj b0 (o0 + 1) fun Zz AH Pc =>
 ((0 : Int) ≤ 0) ∧
 ((0 : Int) < AH) ∧
 aF Zz fun Jo LO =>
 rI mj Jo (LO + 0) fun xN =>
 Zq mj k3 (iV xN) (.bool true) fun xO =>
 aX xO (cl [] 2) fun LS Wr =>
 rS Wr b0 (o0 + 1) fun A52 pQ Oq =>
 ((0 : Int) ≤ Oq) ∧
 ((Oq : Int) ≤ Oq) ∧
 ((0 : Int) ≤ pQ) ∧
 ((pQ : Int) ≤ Oq) ∧
 ((0 : Int) ≤ 1) ∧
 ((1 : Int) ≤ pQ) ∧
 aN Tryz.prog (Go.Builtin.append_ #[53, 53] 53 #[(.slice (some ⟨LS, 0, none⟩) 0 0), (.slice (lC A52 1 (Int.toNat (Oq : Int)) 1) ((Int.toNat (pQ : Int)) - 1) ((Int.toNat (Oq : Int)) - 1))]) Wr (fun Ws SS =>
 az (some Ws) fun ZA Jr Ht =>
 sT SS b0 (o0 + 1) (.slice ZA Jr Ht) fun nD =>
 wV nD k3 0 fun LU t62 FC n64 BU t66 =>
 Ym nD k1 (iV LU) (.bool t62) (iV FC) (iV n64) (iV BU) (.bool t66) fun Rj =>
 wV Rj k1 0 fun Wu t74 FD Hu FE t78 =>
 K (.tuple #[(.agg #[(iV Wu), (.bool t74), (iV FD), (iV Hu), (iV FE), (.bool t78)]), (iV 0)]) Rj) Kp)
 (rB mj b0 (o0 + 4) fun t79 =>
 aM t79
 (rI mj k3 0 fun n80 =>
 rB mj k3 1 fun t81 =>
 rI mj k3 2 fun Ot =>
 rI mj k3 3 fun Vp =>
 rI mj k3 4 fun Ou =>
 rB mj k3 5 fun t85 =>
 Ym mj k1 (iV n80) (.bool t81) (iV Ot) (iV Vp) (iV Ou) (.bool t85) fun nE =>
 wV nE k1 0 fun Wv t93 SU Pd SW t97 =>
 K (.tuple #[(.agg #[(iV Wv), (.bool t93), (iV SU), (iV Pd), (iV SW), (.bool t97)]), (iV 0)]) nE)
 (rI mj k3 0 fun Rk =>
 rB mj k3 1 fun t99 =>
 rI mj k3 2 fun nF =>
 rI mj k3 3 fun LV =>
 rI mj k3 4 fun ZB =>
 rB mj k3 5 fun t103 =>
 Ym mj k1 (iV Rk) (.bool t99) (iV nF) (iV LV) (iV ZB) (.bool t103) fun wC =>
 wV wC k1 0 fun SX t111 FF LW LX t115 =>
 K (.tuple #[(.agg #[(iV SX), (.bool t111), (iV FF), (iV LW), (iV LX), (.bool t115)]), (iV 5)]) wC))) :
 aa Tryz.prog 239 #[.pointer (some ⟨b0, o0, none⟩)] M K Kp := vw [(3000010, .cut []), (5, .bQ [0, 0, 2, 6, 14, 0, 32, 96, 224, 510, 1023, 2047, 4095] (sy [0, 1, 2, 3, 5, 6, 4, 7, 8, 9, 10, 11, 12] .done))] Tryz.func239 h
theorem qf {b0 o0 : Nat} (h :
rB M b0 (o0 + 4) fun t1 =>
aM t1
 (K (.tuple #[(.slice none 0 0), (.slice none 0 0), (iV 10)]) M)
 (rS M b0 (o0 + 3) fun A2 k3 k4 =>
 rS M b0 (o0 + 2) fun A5 k6 k7 =>
 sT M b0 (o0 + 4) (.bool true) fun M8 =>
 sT M8 b0 (o0 + 3) (.slice none 0 0) fun M9 =>
 sT M9 b0 (o0 + 2) (.slice none 0 0) fun gF =>
 K (.tuple #[(.slice A2 k3 k4), (.slice A5 k6 k7), (iV 0)]) gF)) :
 aa Tryz.prog 243 #[.pointer (some ⟨b0, o0, none⟩)] M K Kp := vw [(3, .bQ [0, 1, 3, 7, 0, 16, 48, 112, 15, 511] (sy [0, 1, 2, 4, 5, 6, 3, 8, 7, 9] .done))] Tryz.func243 h
theorem nG {b0 o0 : Nat} (h :
rB M b0 (o0 + 4) fun t1 =>
aM t1
 (K (.bool true) M)
 (rS M b0 (o0 + 2) fun A2 k3 k4 =>
 aM (decide ((k3 : Int) > 0))
 (K (.bool true) M)
 (rS M b0 (o0 + 1) fun A5 k6 k7 =>
 K (.bool (decide ((k6 : Int) > 0))) M))) :
 aa Tryz.prog 248 #[.pointer (some ⟨b0, o0, none⟩)] M K Kp := vw [] Tryz.func248 h
theorem nH {b0 o0 : Nat} (h :
rB M b0 (o0 + 4) fun t1 =>
aM t1
 (K (.bool true) M)
 (rS M b0 (o0 + 3) fun A2 k3 k4 =>
 aM (decide ((k3 : Int) > 0))
 (K (.bool true) M)
 (rS M b0 (o0 + 1) fun A5 k6 k7 =>
 rI M b0 o0 fun n8 =>
 K (.bool (decide ((k6 : Int) < n8))) M))) :
 aa Tryz.prog 249 #[.pointer (some ⟨b0, o0, none⟩)] M K Kp := vw [(1, .bQ [0, 1, 3, 7, 15, 31, 63, 127, 255, 511, 1023, 2047, 4095, 8191, 16383, 32767, 65535, 131071, 8191, 270335, 794623, 1843199, 4194303, 8388607, 16777215] (sy [0, 1, 2, 3, 4, 5, 6, 7, 8, 9, 10, 11, 12, 13, 14, 15, 18, 19, 20, 16, 17, 21, 22, 23, 24] .done))] Tryz.func249 h
theorem xP {B0 : Option Addr} {m0 c0 : Nat} (h :
aX M jM fun k1 M2 =>
((0 : Int) ≤ 0) ∧
((0 : Int) < m0) ∧
aF B0 fun k3 k4 =>
((0 : Int) ≤ c0) ∧
((c0 : Int) ≤ c0) ∧
((0 : Int) ≤ m0) ∧
((m0 : Int) ≤ c0) ∧
((0 : Int) ≤ 1) ∧
((1 : Int) ≤ m0) ∧
oz M2 k3 (k4 + 0) fun n5 n6 n7 =>
aX M2 (cl [] 280) fun k8 M9 =>
aN Tryz.prog (Go.Builtin.append_ #[195, 195] 195 #[(.slice (some ⟨k8, 0, none⟩) 0 0), (.slice (lC B0 1 (Int.toNat (c0 : Int)) 3) ((Int.toNat (m0 : Int)) - 1) ((Int.toNat (c0 : Int)) - 1))]) M9 (fun v10 jO =>
az (some v10) fun zp c7 jE =>
((Mem.iH jO ⟨k3, (k4 + 0), none⟩ 0 3) = some [(iV n5), (iV n6), (iV n7)]) ∧
Lw jO k1 (iV n5) (iV n6) (iV n7) fun mo =>
((Mem.iH mo ⟨k3, (k4 + 0), none⟩ 0 3) = some [(iV n5), (iV n6), (iV n7)]) ∧
oz mo k1 0 fun kf wY iD =>
K (.tuple #[(.agg #[(iV kf), (iV wY), (iV iD)]), (.slice zp c7 jE)]) mo) Kp) :
 aa Tryz.prog 250 #[.slice B0 m0 c0] M K Kp := vw [(1, .bQ [0, 1, 3, 0, 0, 16, 56, 127, 255] (sy [0, 1, 4, 5] (.eN 2 (sy [3, 6, 7, 8] .done))))] Tryz.func250 h
theorem rD {b0 o0 : Nat} {x1 : Int} (h :
rS M b0 (o0 + 2) fun A1 k2 k3 =>
(aa Tryz.prog 254 #[(.slice A1 k2 k3), (iV x1)] M (fun v4 M5 =>
 az (some v4) fun A6 k7 k8 =>
 rS M5 b0 (o0 + 3) fun A9 fm eT =>
 aa Tryz.prog 254 #[(.slice A9 fm eT), (iV x1)] M5 (fun CX kj =>
 az (some CX) fun mq gX gA =>
 sT kj b0 (o0 + 2) (.slice A6 k7 k8) fun mo =>
 sT mo b0 (o0 + 3) (.slice mq gX gA) fun qg =>
 K (.tuple #[]) qg) Kp) Kp) ∧
(rS M b0 (o0 + 3) fun E0 kH eZ =>
 aa Tryz.prog 254 #[(.slice A1 k2 k3), (iV x1)] M (fun Js j5 =>
 az (some Js) fun Pe oB uS =>
 aa Tryz.prog 254 #[(.slice E0 kH eZ), (iV x1)] j5 (fun Pf uR =>
 az (some Pf) fun Rl mQ uq =>
 sT uR b0 (o0 + 2) (.slice Pe oB uS) fun qQ =>
 sT qQ b0 (o0 + 3) (.slice Rl mQ uq) fun zq =>
 K (.tuple #[]) zq) Kp) Kp) ∧
True) :
 aa Tryz.prog 253 #[.pointer (some ⟨b0, o0, none⟩), .int .i64 x1] M K Kp := vw [(0, .bQ [0, 0, 0, 4, 12, 28, 0, 124, 0, 256, 768, 1792, 0, 8188, 16381, 32765, 65533, 131071, 262143, 524287] (sy [0, 1, 2, 3, 4, 6, 8, 9, 10, 12, 5] (.fork 7 (sy [11, 13, 14, 15, 16, 17, 18, 19] .done) (.fork 11 (sy [7, 13, 14, 15, 16, 17, 18, 19] .done) .dead))))] Tryz.func253 h
theorem uT {B0 : Option Addr} {m0 c0 : Nat} {x1 : Int} (h :
∃ I1 : IT, (∃ k2, I1 k2 [(.slice none 0 0), (iV 0)] M) ∧
∀ (k3 : Nat) (_ : Nat → Value) (A5 : Option Addr) (k6 : Nat) (k7 : Nat) (n8 : Int) (M9 : Mem), (I1 k3 [(.slice A5 k6 k7), (iV n8)] M9) → aM (decide (n8 < m0))
 ((0 ≤ n8) ∧
 (n8 < m0) ∧
 aF B0 fun fm eT =>
 oz M9 fm (eT + ((Int.toNat n8) * 3)) fun iQ kY pR =>
 aX M9 jM fun gX fh =>
 Lw fh gX (iV iQ) (iV kY) (iV pR) fun jN =>
 rI jN gX 0 fun iD =>
 aM (iD != x1)
 (rI jN gX 0 fun mO =>
 rI jN gX 1 fun qP =>
 rI jN gX 2 fun BW =>
 aX jN (cl [(iV mO), (iV qP), (iV BW)] 280) fun sE Hv =>
 aA 195 A5 k6 k7 (some ⟨sE, 0, none⟩) 1 1 Hv (fun Ww wZ =>
 az (some Ww) fun SY gY mQ =>
 ∃ uq : Nat, (uq < k3) ∧
 I1 uq [(.slice SY gY mQ), (iV (IntKind.wrap .i64 (n8 + 1)))] wZ) Kp)
 (∃ ur : Nat, (ur < k3) ∧
 I1 ur [(.slice A5 k6 k7), (iV (IntKind.wrap .i64 (n8 + 1)))] jN))
 (K (.slice A5 k6 k7) M9)) :
 aa Tryz.prog 254 #[.slice B0 m0 c0, .int .i64 x1] M K Kp := vw [(2000000, .loop [(5, .c .sl), (10, .c (.int .i64))])] Tryz.func254 h
end Go.Proofs
namespace Go.Proofs
open Go.AF
set_option maxRecDepth 100000
set_option maxHeartbeats 1000000
attribute [local irreducible] aH cK dM b8 az dD aF aI aX aN bl aM
theorem BX : bu Tryz.prog 53 2 1 8 [.int .i64 0] := bu.mk' (zv := .int .i64 0) (by kernel_rfl) (by kernel_rfl) rfl (by omega)
theorem w4 : bu Tryz.prog 195 280 3 24 [.int .i64 0, .int .i64 0, .int .i64 0] := bu.mk' (zv := .agg #[.int .i64 0, .int .i64 0, .int .i64 0]) (by kernel_rfl) (by kernel_rfl) rfl (by omega)
abbrev xQ (A : Option Addr) (c : Nat) (l : List Int) : HP := cv bI 2 A c l
abbrev th (A : Option Addr) (c : Nat) (l : List Wt) : HP := cv iC 280 A c l
abbrev gR (c : aP) (Ab : Option Addr) (cb : Nat) (As : Option Addr) (cs : Nat) (Ar : Option Addr) (cr : Nat) : List Value :=
 [.int .i64 (c.room : Int), .slice Ab c.buf.length cb, .slice As c.snd.length cs, .slice Ar c.dU.length cr, .bool c.closed]
def bz : rq aP := ⟨fun b c => exs fun Ab : Option Addr => exs fun cb : Nat => exs fun As : Option Addr => exs fun cs : Nat => exs fun Ar : Option Addr => exs fun cr : Nat =>
 sep [pt b (gR c Ab cb As cs Ar cr) 305, xQ Ab cb c.buf, th As cs c.snd, th Ar cr c.dU]⟩
section
variable {R : Mem} {L L' : List HP} {M : Mem} {K : Value → Mem → Prop} {Kp : List PanicEntry → Mem → Prop} {b : Nat} {c : aP}
theorem gS (h : Hp R L M) [o : bV bz b L c L'] : ∃ Ab cb As cs Ar cr, Hp R (pt b (gR c Ab cb As cs Ar cr) 305 :: xQ Ab cb c.buf :: th As cs c.snd :: th Ar cr c.dU :: L') M := by
 have := h.obj bz b
 simpa only [bz, Hp.c5, Hp.aR, List.cons_append, List.nil_append] using this
theorem Hw {Ab As Ar : Option Addr} {cb cs cr : Nat} (h : Hp R (pt b (gR c Ab cb As cs Ar cr) 305 :: xQ Ab cb c.buf :: th As cs c.snd :: th Ar cr c.dU :: L) M) : Hp R (ay bz b c :: L) M := by
 refine Hp.uO ?_
 simp only [bz, Hp.c5, Hp.aR, List.cons_append, List.nil_append]
 exact ⟨_, _, _, _, _, _, h⟩
theorem cW {Ab As Ar : Option Addr} {nb cb ns cs nr cr room : Nat} {closed : Bool} {buf : List Int} {snd dU : List Wt} {L1 L2 L3 L4 : List HP} (h : Hp R L M) (b : Nat)
  [p : j4 b L [.int .i64 (room : Int), .slice Ab nb cb, .slice As ns cs, .slice Ar nr cr, .bool closed] 305 L1] [p1 : ct Ab L1 Int bI 2 cb buf L2] [p2 : ct As L2 Wt iC 280 cs snd L3] [p3 : ct Ar L3 Wt iC 280 cr dU L4]
  (e1 : nb = buf.length := by first | rfl | simp) (e2 : ns = snd.length := by first | rfl | simp) (e3 : nr = dU.length := by first | rfl | simp) : Hp R (ay bz b ⟨room, buf, snd, dU, closed⟩ :: L4) M := by
 subst e1; subst e2; subst e3
 exact Hw (h.sub (.cons p.pick (.cons p1.pick (.cons p2.pick (.cons p3.pick .refl)))))
theorem AI {room : Int} (h : Hp R L M) (k : ∀ b M', Hp R (ay bz b (.new room) :: L) M' → K (.pointer (some ⟨b, 0, none⟩)) M') :
  aa Tryz.prog 113 #[.int .i64 room] M K Kp := by
 refine BS ?_
 rw [LB]
 refine aj h fun b M' h => k b M' (Hw ((((h.cE iC _).cE iC _).cE bI _).sub bM))
theorem vS {B : Option Addr} {m c : Nat} {w : Wt} {r : List Wt} (h : Hp R L M) (hB : Src R L B (iC.cells (w :: r))) (hm : m = r.length + 1) (hc : m ≤ c) (hn : m ≤ 1000000000)
  (k : ∀ A' c' M', Hp R (th A' c' r :: L) M' → K (.tuple #[.agg #[.int .i64 w.g, .int .i64 w.cs, .int .i64 w.v], .slice A' r.length c']) M') :
  aa Tryz.prog 250 #[.slice B m c] M K Kp := by
 refine xP ?_
 obtain ⟨b, o, rfl⟩ := hB.kD h (by simp) (by decide)
 repeat (first|(refine aj h ?_;clear h;intro kb M h)|(refine aq h ?_;clear h;intro M h)|refine St.to h ?_|(apply Exists.intro;(repeat apply Exists.intro);refine And.intro rfl ?_)|refine au ?_|refine af ?_|refine ai ?_)
 refine bn (hB.cons.at h (i := 0) (j := 0) rfl rfl (by omega)) ?_
 refine bn (hB.cons.at h (i := 0) (j := 1) rfl rfl (by omega)) ?_
 refine bn (hB.cons.at h (i := 0) (j := 2) rfl rfl (by omega)) ?_
 repeat (first|(refine aj h ?_;clear h;intro kb M h)|(refine aq h ?_;clear h;intro M h)|refine St.to h ?_|(apply Exists.intro;(repeat apply Exists.intro);refine And.intro rfl ?_)|refine au ?_|refine af ?_|refine ai ?_)
 have s2 := hB.drop (m := 1) (c := c) (by simp; omega)
 simp only [Int.toNat_natCast]
 refine h.kF iC w4 r s2.cons.cons (by omega) (by omega) ?_
 clear h
 intro A' c' M h
 repeat (first|(refine aj h ?_;clear h;intro kb M h)|(refine aq h ?_;clear h;intro M h)|refine St.to h ?_|(apply Exists.intro;(repeat apply Exists.intro);refine And.intro rfl ?_)|refine au ?_|refine af ?_|refine ai ?_)
 refine ⟨hB.cons.cons.iH h (i := 0) rfl (by omega), ?_⟩
 repeat (first|(refine aj h ?_;clear h;intro kb M h)|(refine aq h ?_;clear h;intro M h)|refine St.to h ?_|(apply Exists.intro;(repeat apply Exists.intro);refine And.intro rfl ?_)|refine au ?_|refine af ?_|refine ai ?_)
 refine ⟨hB.cons.cons.iH h (i := 0) rfl (by omega), ?_⟩
 repeat (first|(refine aj h ?_;clear h;intro kb M h)|(refine aq h ?_;clear h;intro M h)|refine St.to h ?_|(apply Exists.intro;(repeat apply Exists.intro);refine And.intro rfl ?_)|refine au ?_|refine af ?_|refine ai ?_)
 exact k _ _ _ h.mJ
theorem zG (h : Hp R L M) [o : bV bz b L c L'] (k : K (.bool c.sV) M) : aa Tryz.prog 249 #[.pointer (some ⟨b, 0, none⟩)] M K Kp := by
 refine nH ?_
 have h' := gS h (b := b)
 clear h
 obtain ⟨Ab, cb, As, cs, Ar, cr, h⟩ := h'
 repeat (first|(refine aj h ?_;clear h;intro kb M h)|(refine aq h ?_;clear h;intro M h)|refine St.to h ?_|(apply Exists.intro;(repeat apply Exists.intro);refine And.intro rfl ?_)|refine au ?_|refine af ?_|refine ai ?_)
 refine gf.2 ⟨fun hc => ?_, fun hc => ?_⟩
 ·rwa [aP.sV, hc] at k
 ·repeat (first|(refine aj h ?_;clear h;intro kb M h)|(refine aq h ?_;clear h;intro M h)|refine St.to h ?_|(apply Exists.intro;(repeat apply Exists.intro);refine And.intro rfl ?_)|refine au ?_|refine af ?_|refine ai ?_)
  refine aJ.2 ⟨fun hr => ?_, fun hr => ?_⟩
  ·have : c.dU.isEmpty = false := by cases hc : c.dU <;> simp_all
   rwa [aP.sV, hc, this] at k
  ·repeat (first|(refine aj h ?_;clear h;intro kb M h)|(refine aq h ?_;clear h;intro M h)|refine St.to h ?_|(apply Exists.intro;(repeat apply Exists.intro);refine And.intro rfl ?_)|refine au ?_|refine af ?_|refine ai ?_)
   have : c.dU.isEmpty = true := by cases hc : c.dU <;> simp_all
   rw [aP.sV, hc, this] at k
   simpa using k
theorem zH (h : Hp R L M) [o : bV bz b L c L'] (k : K (.bool c.sW) M) : aa Tryz.prog 248 #[.pointer (some ⟨b, 0, none⟩)] M K Kp := by
 refine nG ?_
 have h' := gS h (b := b)
 clear h
 obtain ⟨Ab, cb, As, cs, Ar, cr, h⟩ := h'
 repeat (first|(refine aj h ?_;clear h;intro kb M h)|(refine aq h ?_;clear h;intro M h)|refine St.to h ?_|(apply Exists.intro;(repeat apply Exists.intro);refine And.intro rfl ?_)|refine au ?_|refine af ?_|refine ai ?_)
 refine gf.2 ⟨fun hc => ?_, fun hc => ?_⟩
 ·rwa [aP.sW, hc] at k
 ·repeat (first|(refine aj h ?_;clear h;intro kb M h)|(refine aq h ?_;clear h;intro M h)|refine St.to h ?_|(apply Exists.intro;(repeat apply Exists.intro);refine And.intro rfl ?_)|refine au ?_|refine af ?_|refine ai ?_)
  refine aJ.2 ⟨fun hr => ?_, fun hr => ?_⟩
  ·have : c.snd.isEmpty = false := by cases hc : c.snd <;> simp_all
   rwa [aP.sW, hc, this] at k
  ·repeat (first|(refine aj h ?_;clear h;intro kb M h)|(refine aq h ?_;clear h;intro M h)|refine St.to h ?_|(apply Exists.intro;(repeat apply Exists.intro);refine And.intro rfl ?_)|refine au ?_|refine af ?_|refine ai ?_)
   have : c.snd.isEmpty = true := by cases hc : c.snd <;> simp_all
   rw [aP.sW, hc, this] at k
   have e : (!c.buf.isEmpty) = decide ((c.buf.length : Int) > 0) := by cases c.buf <;> simp
   rw [← e]; simpa using k
theorem oC {w : Wt} (h : Hp R L M) [o : bV bz b L c L'] (hs : c.Small 1000000000) (k : ∀ M', Hp R (ay bz b { c with snd := c.snd ++ [w] } :: L') M' → K (.tuple #[]) M') :
  aa Tryz.prog 236 #[.pointer (some ⟨b, 0, none⟩), .agg #[.int .i64 w.g, .int .i64 w.cs, .int .i64 w.v]] M K Kp := by
 refine mN ?_
 have h' := gS h (b := b)
 clear h
 obtain ⟨Ab, cb, As, cs, Ar, cr, h⟩ := h'
 obtain ⟨h1, h2, h3⟩ := hs
 repeat (first|(refine aj h ?_;clear h;intro kb M h)|(refine aq h ?_;clear h;intro M h)|refine St.to h ?_|(apply Exists.intro;(repeat apply Exists.intro);refine And.intro rfl ?_)|refine au ?_|refine af ?_|refine ai ?_)
 refine h.bD w4 [w] rfl rfl (by simp; omega) ?_
 clear h
 intro A' c' M h
 repeat (first|(refine aj h ?_;clear h;intro kb M h)|(refine aq h ?_;clear h;intro M h)|refine St.to h ?_|(apply Exists.intro;(repeat apply Exists.intro);refine And.intro rfl ?_)|refine au ?_|refine af ?_|refine ai ?_)
 exact k _ (cW h b).bT
theorem oD {w : Wt} (h : Hp R L M) [o : bV bz b L c L'] (hs : c.Small 1000000000) (k : ∀ M', Hp R (ay bz b { c with dU := c.dU ++ [w] } :: L') M' → K (.tuple #[]) M') :
  aa Tryz.prog 235 #[.pointer (some ⟨b, 0, none⟩), .agg #[.int .i64 w.g, .int .i64 w.cs, .int .i64 w.v]] M K Kp := by
 refine mL ?_
 have h' := gS h (b := b)
 clear h
 obtain ⟨Ab, cb, As, cs, Ar, cr, h⟩ := h'
 obtain ⟨h1, h2, h3⟩ := hs
 repeat (first|(refine aj h ?_;clear h;intro kb M h)|(refine aq h ?_;clear h;intro M h)|refine St.to h ?_|(apply Exists.intro;(repeat apply Exists.intro);refine And.intro rfl ?_)|refine au ?_|refine af ?_|refine ai ?_)
 refine h.bD w4 [w] rfl rfl (by simp; omega) ?_
 clear h
 intro A' c' M h
 repeat (first|(refine aj h ?_;clear h;intro kb M h)|(refine aq h ?_;clear h;intro M h)|refine St.to h ?_|(apply Exists.intro;(repeat apply Exists.intro);refine And.intro rfl ?_)|refine au ?_|refine af ?_|refine ai ?_)
 exact k _ (cW h b).bT
def Rn (x : Wt × Bool × Int) : Value := .tuple #[.agg #[.int .i64 x.1.g, .int .i64 x.1.cs, .int .i64 x.1.v], .bool x.2.1, .int .i64 x.2.2]
theorem FG {v : Int} (h : Hp R L M) [o : bV bz b L c L'] (hs : c.Small 1000000000) (k : ∀ M', Hp R (ay bz b (c.send v).1 :: L') M' → K (Rn (c.send v).2) M') :
  aa Tryz.prog 237 #[.pointer (some ⟨b, 0, none⟩), .int .i64 v] M K Kp := by
 refine ry ?_
 obtain ⟨room, buf, snd, dU, closed⟩ := c
 obtain ⟨h1, h2, h3⟩ := hs
 have h' := gS h (b := b)
 clear h
 obtain ⟨Ab, cb, As, cs, Ar, cr, h⟩ := h'
 dsimp only [gR] at h1 h2 h3 h
 repeat (first|(refine aj h ?_;clear h;intro kb M h)|(refine aq h ?_;clear h;intro M h)|refine St.to h ?_|(apply Exists.intro;(repeat apply Exists.intro);refine And.intro rfl ?_)|refine au ?_|refine af ?_|refine ai ?_)
 refine gf.2 ⟨fun hc => ?_, fun hc => ?_⟩
 ·subst hc
  repeat (first|(refine aj h ?_;clear h;intro kb M h)|(refine aq h ?_;clear h;intro M h)|refine St.to h ?_|(apply Exists.intro;(repeat apply Exists.intro);refine And.intro rfl ?_)|refine au ?_|refine af ?_|refine ai ?_)
  exact k _ (cW h b).bT
 subst hc
 repeat (first|(refine aj h ?_;clear h;intro kb M h)|(refine aq h ?_;clear h;intro M h)|refine St.to h ?_|(apply Exists.intro;(repeat apply Exists.intro);refine And.intro rfl ?_)|refine au ?_|refine af ?_|refine ai ?_)
 refine aJ.2 ⟨fun hr => ?_, fun hr => ?_⟩
 ·cases dU with
  | nil => simp at hr
  | cons w r =>
   repeat (first|(refine aj h ?_;clear h;intro kb M h)|(refine aq h ?_;clear h;intro M h)|refine St.to h ?_|(apply Exists.intro;(repeat apply Exists.intro);refine And.intro rfl ?_)|refine au ?_|refine af ?_|refine ai ?_)
   refine vS h (h.src (A := Ar)) rfl (h.jk Ar) (by simpa using h3) ?_
   clear h
   intro A' c' M h
   repeat (first|(refine aj h ?_;clear h;intro kb M h)|(refine aq h ?_;clear h;intro M h)|refine St.to h ?_|(apply Exists.intro;(repeat apply Exists.intro);refine And.intro rfl ?_)|refine au ?_|refine af ?_|refine ai ?_)
   exact k _ (cW h b).bT
 cases dU with
 | cons w r => simp at hr
 | nil =>
 simp only [aP.send, Bool.false_eq_true, if_false] at k
 repeat (first|(refine aj h ?_;clear h;intro kb M h)|(refine aq h ?_;clear h;intro M h)|refine St.to h ?_|(apply Exists.intro;(repeat apply Exists.intro);refine And.intro rfl ?_)|refine au ?_|refine af ?_|refine ai ?_)
 refine aJ.2 ⟨fun hl => ?_, fun hl => ?_⟩
 ·rw [if_pos (by omega)] at k
  repeat (first|(refine aj h ?_;clear h;intro kb M h)|(refine aq h ?_;clear h;intro M h)|refine St.to h ?_|(apply Exists.intro;(repeat apply Exists.intro);refine And.intro rfl ?_)|refine au ?_|refine af ?_|refine ai ?_)
  refine h.bD BX [v] rfl rfl (by simp; omega) ?_
  clear h
  intro A' c' M h
  repeat (first|(refine aj h ?_;clear h;intro kb M h)|(refine aq h ?_;clear h;intro M h)|refine St.to h ?_|(apply Exists.intro;(repeat apply Exists.intro);refine And.intro rfl ?_)|refine au ?_|refine af ?_|refine ai ?_)
  exact k _ (cW h b).bT
 ·rw [if_neg (by omega)] at k
  repeat (first|(refine aj h ?_;clear h;intro kb M h)|(refine aq h ?_;clear h;intro M h)|refine St.to h ?_|(apply Exists.intro;(repeat apply Exists.intro);refine And.intro rfl ?_)|refine au ?_|refine af ?_|refine ai ?_)
  exact k _ (cW h b).bT
def Ro (x : Int × Bool × Wt × Bool × Int) : Value := .tuple #[.agg #[.int .i64 x.1, .bool x.2.1, .int .i64 x.2.2.1.g, .int .i64 x.2.2.1.cs, .int .i64 x.2.2.1.v, .bool x.2.2.2.1], .int .i64 x.2.2.2.2]
theorem FH (h : Hp R L M) [o : bV bz b L c L'] (hs : c.Small 1000000000) (k : ∀ M', Hp R (ay bz b c.recv.1 :: L') M' → K (Ro c.recv.2) M') :
  aa Tryz.prog 239 #[.pointer (some ⟨b, 0, none⟩)] M K Kp := by
 refine rz ?_
 obtain ⟨room, buf, snd, dU, closed⟩ := c
 obtain ⟨h1, h2, h3⟩ := hs
 have h' := gS h (b := b)
 clear h
 obtain ⟨Ab, cb, As, cs, Ar, cr, h⟩ := h'
 dsimp only [gR] at h1 h2 h3 h
 refine aj h ?_
 clear h
 intro kr M h
 refine aj h ?_
 clear h
 intro kg M h
 repeat (first|(refine aj h ?_;clear h;intro kb M h)|(refine aq h ?_;clear h;intro M h)|refine St.to h ?_|(apply Exists.intro;(repeat apply Exists.intro);refine And.intro rfl ?_)|refine au ?_|refine af ?_|refine ai ?_)
 refine ⟨fun vs M => vs = [] ∧ ∃ Ab cb As cs, Hp R (pt kr [.int .i64 0, .bool false, .int .i64 0, .int .i64 0, .int .i64 0, .bool false] 381 ::
  pt kg [.int .i64 0, .bool false, .int .i64 (snd.headD .zero).g, .int .i64 (snd.headD .zero).cs, .int .i64 (snd.headD .zero).v, .bool (!snd.isEmpty)] 381 ::
  pt b (gR ⟨room, aP.all ⟨room, buf, snd, dU, closed⟩, snd.tail, dU, closed⟩ Ab cb As cs Ar cr) 305 :: xQ Ab cb (aP.all ⟨room, buf, snd, dU, closed⟩) :: th As cs snd.tail :: th Ar cr dU :: L') M, ?_, ?_⟩
 ·refine aJ.2 ⟨fun hr => ?_, fun hr => ?_⟩
  ·cases snd with
   | nil => simp at hr
   | cons w r =>
    repeat (first|(refine aj h ?_;clear h;intro kb M h)|(refine aq h ?_;clear h;intro M h)|refine St.to h ?_|(apply Exists.intro;(repeat apply Exists.intro);refine And.intro rfl ?_)|refine au ?_|refine af ?_|refine ai ?_)
    refine vS h (h.src (A := As)) rfl (h.jk As) (by simpa using h2) ?_
    clear h
    intro A' c' M h
    repeat (first|(refine aj h ?_;clear h;intro kb M h)|(refine aq h ?_;clear h;intro M h)|refine St.to h ?_|(apply Exists.intro;(repeat apply Exists.intro);refine And.intro rfl ?_)|refine au ?_|refine af ?_|refine ai ?_)
    refine h.bD BX [w.v] rfl rfl (by simp; omega) ?_
    clear h
    intro A2 c2 M h
    repeat (first|(refine aj h ?_;clear h;intro kb M h)|(refine aq h ?_;clear h;intro M h)|refine St.to h ?_|(apply Exists.intro;(repeat apply Exists.intro);refine And.intro rfl ?_)|refine au ?_|refine af ?_|refine ai ?_)
    exact ⟨A2, c2, A', c', h.sub bM⟩
  ·cases snd with
   | cons w r => simp at hr
   | nil => exact ⟨rfl, Ab, cb, As, cs, h.sub bM⟩
 clear h
 rintro _ M ⟨_, Ab, cb, As, cs, h⟩
 unfold aP.recv at k
 dsimp only at k
 have gz : (aP.all ⟨room, buf, snd, dU, closed⟩).length ≤ 1000000001 := by unfold aP.all; split <;> simp <;> omega
 have OV : aP.all ⟨room, buf, snd, dU, closed⟩ = [] → snd = [] ∧ buf = [] := by unfold aP.all; dsimp only; cases snd <;> simp
 generalize aP.all ⟨room, buf, snd, dU, closed⟩ = all at h k gz OV
 dsimp only [gR] at h
 repeat (first|(refine aj h ?_;clear h;intro kb M h)|(refine aq h ?_;clear h;intro M h)|refine St.to h ?_|(apply Exists.intro;(repeat apply Exists.intro);refine And.intro rfl ?_)|refine au ?_|refine af ?_|refine ai ?_)
 refine aJ.2 ⟨fun hr => ?_, fun hr => ?_⟩
 ·cases all with
  | nil => simp at hr
  | cons v l =>
   dsimp only at k
   repeat (first|(refine aj h ?_;clear h;intro kb M h)|(refine aq h ?_;clear h;intro M h)|refine St.to h ?_|(apply Exists.intro;(repeat apply Exists.intro);refine And.intro rfl ?_)|refine au ?_|refine af ?_|refine ai ?_)
   obtain ⟨x, rfl⟩ := h.bA (A := Ab) (by simp) (by decide)
   repeat (first|(refine aj h ?_;clear h;intro kb M h)|(refine aq h ?_;clear h;intro M h)|refine St.to h ?_|(apply Exists.intro;(repeat apply Exists.intro);refine And.intro rfl ?_)|refine au ?_|refine af ?_|refine ai ?_)
   refine bn ((h.src (A := some ⟨x, 0, none⟩)).at h (i := 0) (j := 0) rfl rfl (by omega)) ?_
   have hcap := h.jk (some ⟨x, 0, none⟩)
   have hlen : l.length + 1 ≤ 1000000001 := by simpa using gz
   repeat (first|(refine aj h ?_;clear h;intro kb M h)|(refine aq h ?_;clear h;intro M h)|refine St.to h ?_|(apply Exists.intro;(repeat apply Exists.intro);refine And.intro rfl ?_)|refine au ?_|refine af ?_|refine ai ?_)
   simp only [Int.toNat_natCast]
   refine h.kF bI BX l ((h.src (A := some ⟨x, 0, none⟩)).drop (m := 1) hcap) (by simp) (by omega) ?_
   clear h
   intro A' c' M h
   repeat (first|(refine aj h ?_;clear h;intro kb M h)|(refine aq h ?_;clear h;intro M h)|refine St.to h ?_|(apply Exists.intro;(repeat apply Exists.intro);refine And.intro rfl ?_)|refine au ?_|refine af ?_|refine ai ?_)
   exact k _ (cW h b).bT
 ·cases all with
  | cons v l => simp at hr
  | nil =>
  obtain ⟨rfl, rfl⟩ := OV rfl
  repeat (first|(refine aj h ?_;clear h;intro kb M h)|(refine aq h ?_;clear h;intro M h)|refine St.to h ?_|(apply Exists.intro;(repeat apply Exists.intro);refine And.intro rfl ?_)|refine au ?_|refine af ?_|refine ai ?_)
  refine gf.2 ⟨fun hc => ?_, fun hc => ?_⟩
  ·subst hc
   repeat (first|(refine aj h ?_;clear h;intro kb M h)|(refine aq h ?_;clear h;intro M h)|refine St.to h ?_|(apply Exists.intro;(repeat apply Exists.intro);refine And.intro rfl ?_)|refine au ?_|refine af ?_|refine ai ?_)
   exact k _ (cW h b).bT
  ·subst hc
   repeat (first|(refine aj h ?_;clear h;intro kb M h)|(refine aq h ?_;clear h;intro M h)|refine St.to h ?_|(apply Exists.intro;(repeat apply Exists.intro);refine And.intro rfl ?_)|refine au ?_|refine af ?_|refine ai ?_)
   exact k _ (cW h b).bT
theorem DF (h : Hp R L M) [o : bV bz b L c L']
  (k : ∀ A ca B cb M', Hp R (ay bz b c.close.1 :: th B cb c.close.2.2.1 :: th A ca c.close.2.1 :: L') M' → K (.tuple #[.slice A c.close.2.1.length ca, .slice B c.close.2.2.1.length cb, .int .i64 c.close.2.2.2]) M') :
  aa Tryz.prog 243 #[.pointer (some ⟨b, 0, none⟩)] M K Kp := by
 refine qf ?_
 obtain ⟨room, buf, snd, dU, closed⟩ := c
 have h' := gS h (b := b)
 clear h
 obtain ⟨Ab, cb, As, cs, Ar, cr, h⟩ := h'
 dsimp only [gR] at h
 repeat (first|(refine aj h ?_;clear h;intro kb M h)|(refine aq h ?_;clear h;intro M h)|refine St.to h ?_|(apply Exists.intro;(repeat apply Exists.intro);refine And.intro rfl ?_)|refine au ?_|refine af ?_|refine ai ?_)
 refine gf.2 ⟨fun hc => ?_, fun hc => ?_⟩
 ·subst hc
  have h := cW ((h.cE iC 280).cE iC 280) b
  exact k none 0 none 0 _ h
 ·subst hc
  repeat (first|(refine aj h ?_;clear h;intro kb M h)|(refine aq h ?_;clear h;intro M h)|refine St.to h ?_|(apply Exists.intro;(repeat apply Exists.intro);refine And.intro rfl ?_)|refine au ?_|refine af ?_|refine ai ?_)
  have h := (h.cE iC 280).cE iC 280
  exact k _ _ _ _ _ ((cW h b).sub bM)
theorem iR {B : Option Addr} {n cc : Nat} {g : Int} {l : List Wt} (h : Hp R L M) (hB : Src R L B (iC.cells l)) (hn : n = l.length) (hs : l.length ≤ 1000000000)
  (k : ∀ A' c' M', Hp R (th A' c' (wo g l) :: L) M' → K (.slice A' (wo g l).length c') M') :
  aa Tryz.prog 254 #[.slice B n cc, .int .i64 g] M K Kp := by
 subst hn
 refine uT ⟨fun d vs M => ∃ i A c, vs = [.slice A (wo g (l.take i)).length c, .int .i64 (i : Int)] ∧ d = l.length - i ∧ i ≤ l.length ∧ Hp R (th A c (wo g (l.take i)) :: L) M,
  ⟨_, 0, none, 0, rfl, rfl, by omega, h.cE _ _⟩, ?_⟩
 clear h
 rintro d _ A n c' ii M ⟨i, _, _, he, hd, hi, h⟩
 simp only [List.cons.injEq, Value.slice.injEq, Value.int.injEq, and_true, true_and] at he
 obtain ⟨⟨rfl, rfl, rfl⟩, rfl⟩ := he
 refine aJ.2 ⟨fun hlt => ?_, fun hge => ?_⟩
 ·obtain ⟨w, hw⟩ := aO (l := l) (i := i) (by omega)
  obtain ⟨b, o, rfl⟩ := hB.cons.kD h (by omega) (by decide)
  have e1 : IntKind.wrap .i64 ((i : Int) + 1) = ((i + 1 : Nat) : Int) := aS (by omega)
  have hl := Fx g (l.take i)
  have kq := List.length_take_le i l
  rw [e1]
  repeat (first|(refine aj h ?_;clear h;intro kb M h)|(refine aq h ?_;clear h;intro M h)|refine St.to h ?_|(apply Exists.intro;(repeat apply Exists.intro);refine And.intro rfl ?_)|refine au ?_|refine af ?_|refine ai ?_)
  refine bn (hB.cons.at h (j := 0) hw rfl (by simp [iC])) ?_
  refine bn (hB.cons.at h (j := 1) hw rfl (by simp [iC]; omega)) ?_
  refine bn (hB.cons.at h (j := 2) hw rfl (by simp [iC]; omega)) ?_
  repeat (first|(refine aj h ?_;clear h;intro kb M h)|(refine aq h ?_;clear h;intro M h)|refine St.to h ?_|(apply Exists.intro;(repeat apply Exists.intro);refine And.intro rfl ?_)|refine au ?_|refine af ?_|refine ai ?_)
  refine eu.2 ⟨fun hne => ?_, fun heq => ?_⟩
  ·have e2 : wo g (l.take (i + 1)) = wo g (l.take i) ++ [w] := by rw [cV hw, LD]; simp [wo, hne]
   repeat (first|(refine aj h ?_;clear h;intro kb M h)|(refine aq h ?_;clear h;intro M h)|refine St.to h ?_|(apply Exists.intro;(repeat apply Exists.intro);refine And.intro rfl ?_)|refine au ?_|refine af ?_|refine ai ?_)
   refine h.bD w4 [w] rfl rfl (by simp; omega) ?_
   clear h
   intro A' c' M h
   repeat (first|(refine aj h ?_;clear h;intro kb M h)|(refine aq h ?_;clear h;intro M h)|refine St.to h ?_|(apply Exists.intro;(repeat apply Exists.intro);refine And.intro rfl ?_)|refine au ?_|refine af ?_|refine ai ?_)
   exact ⟨l.length - (i + 1), by omega, i + 1, A', c', by rw [e2], rfl, by omega, by rw [e2]; exact h.bT⟩
  ·have e2 : wo g (l.take (i + 1)) = wo g (l.take i) := by rw [cV hw, LD]; simp [wo, heq]
   exact ⟨l.length - (i + 1), by omega, i + 1, A, c', by rw [e2], rfl, by omega, by rw [e2]; exact h.mJ⟩
 ·have : i = l.length := by omega
  subst this
  rw [List.take_length] at h ⊢
  exact k _ _ _ h
theorem FJ {g : Int} (h : Hp R L M) [o : bV bz b L c L'] (hs : c.Small 1000000000) (k : ∀ M', Hp R (ay bz b (c.drop g) :: L') M' → K (.tuple #[]) M') :
  aa Tryz.prog 253 #[.pointer (some ⟨b, 0, none⟩), .int .i64 g] M K Kp := by
 refine rD ?_
 have h' := gS h (b := b)
 clear h
 obtain ⟨Ab, cb, As, cs, Ar, cr, h⟩ := h'
 obtain ⟨h1, h2, h3⟩ := hs
 repeat (first|(refine aj h ?_;clear h;intro kb M h)|(refine aq h ?_;clear h;intro M h)|refine St.to h ?_|(apply Exists.intro;(repeat apply Exists.intro);refine And.intro rfl ?_)|refine au ?_|refine af ?_|refine ai ?_)
 refine ⟨?_, ?_, trivial⟩
 ·refine iR h (h.src (A := As)) rfl h2 ?_
  clear h
  intro A' c' M h
  repeat (first|(refine aj h ?_;clear h;intro kb M h)|(refine aq h ?_;clear h;intro M h)|refine St.to h ?_|(apply Exists.intro;(repeat apply Exists.intro);refine And.intro rfl ?_)|refine au ?_|refine af ?_|refine ai ?_)
  refine iR h (h.src (A := Ar)) rfl h3 ?_
  clear h
  intro B' d' M h
  repeat (first|(refine aj h ?_;clear h;intro kb M h)|(refine aq h ?_;clear h;intro M h)|refine St.to h ?_|(apply Exists.intro;(repeat apply Exists.intro);refine And.intro rfl ?_)|refine au ?_|refine af ?_|refine ai ?_)
  exact k _ (cW h b).bT
 ·repeat (first|(refine aj h ?_;clear h;intro kb M h)|(refine aq h ?_;clear h;intro M h)|refine St.to h ?_|(apply Exists.intro;(repeat apply Exists.intro);refine And.intro rfl ?_)|refine au ?_|refine af ?_|refine ai ?_)
  refine iR h (h.src (A := As)) rfl h2 ?_
  clear h
  intro A' c' M h
  repeat (first|(refine aj h ?_;clear h;intro kb M h)|(refine aq h ?_;clear h;intro M h)|refine St.to h ?_|(apply Exists.intro;(repeat apply Exists.intro);refine And.intro rfl ?_)|refine au ?_|refine af ?_|refine ai ?_)
  refine iR h (h.src (A := Ar)) rfl h3 ?_
  clear h
  intro B' d' M h
  repeat (first|(refine aj h ?_;clear h;intro kb M h)|(refine aq h ?_;clear h;intro M h)|refine St.to h ?_|(apply Exists.intro;(repeat apply Exists.intro);refine And.intro rfl ?_)|refine au ?_|refine af ?_|refine ai ?_)
  exact k _ (cW h b).bT
end
end Go.Proofs
namespace Go.AF
theorem mR {α β γ : Type} {f : α → β → γ} : ∀ {l : List α} {m : List β} {i : Nat} {a : α} {b : β}, l[i]? = some a → (List.zipWith f l m).set i (f a b) = List.zipWith f l (m.set i b)
 | [], _, _, _, _, h => by simp at h
 | x :: l, [], i, a, b, h => by simp
 | x :: l, y :: m, 0, a, b, h => by simp at h; subst h; rfl
 | x :: l, y :: m, i + 1, a, b, h => by
  have := mR (f := f) (m := m) (b := b) (show l[i]? = some a from by simpa using h)
  simp [this]
theorem FK {α β γ : Type} {f : α → β → γ} : ∀ {l : List α} {m : List β} {i : Nat} {a : α} {b : β}, l[i]? = some a → m[i]? = some b → (List.zipWith f l m)[i]? = some (f a b)
 | [], _, _, _, _, h, _ => by simp at h
 | x :: l, [], i, a, b, h, g => by simp at g
 | x :: l, y :: m, 0, a, b, h, g => by simp at h g; subst h; subst g; rfl
 | x :: l, y :: m, i + 1, a, b, h, g => by simpa using FK (f := f) (show l[i]? = some a from by simpa using h) (show m[i]? = some b from by simpa using g)
theorem cG.Wx {P : HP} {L : List HP} : ∀ (l : List HP), cG (l ++ P :: L) P (l ++ L)
 | [] => .here
 | Q :: l => .there (cG.Wx l)
section
variable {α : Type} {r : rq α} {R : Mem} {L L' nx : List HP} {M : Mem} {bs : List Nat} {cs : List α} {b i : Nat} {c : α}
def aV (r : rq α) (bs : List Nat) (cs : List α) : HP := sep (List.zipWith (ay r) bs cs)
def kI (r : rq α) (bs : List Nat) (cs : List α) (i : Nat) : HP := sep ((List.zipWith (ay r) bs cs).eraseIdx i)
class e8 (r : rq α) (L : List HP) (bs : outParam (List Nat)) (cs : outParam (List α)) (L' : outParam (List HP)) : Prop where
 pick : cG L (aV r bs cs) L'
instance e8.here : e8 r (aV r bs cs :: L) bs cs L := ⟨.here⟩
instance (priority := low) e8.there {P : HP} [h : e8 r L bs cs L'] : e8 r (P :: L) bs cs (P :: L') := ⟨.there h.pick⟩
class vT (r : rq α) (L : List HP) (bs : outParam (List Nat)) (cs : outParam (List α)) (i : outParam Nat) (L' : outParam (List HP)) : Prop where
 pick : cG L (kI r bs cs i) L'
instance vT.here : vT r (kI r bs cs i :: L) bs cs i L := ⟨.here⟩
instance (priority := low) vT.there {P : HP} [h : vT r L bs cs i L'] : vT r (P :: L) bs cs i (P :: L') := ⟨.there h.pick⟩
theorem Hp.mS (h : Hp R L M) (r : rq α) {bs : List Nat} {cs : List α} [o : e8 r L bs cs L'] : Hp R (aV r bs cs :: L') M := h.pick o.pick
theorem Hp.tj (h : Hp R L M) (r : rq α) : Hp R (aV r [] [] :: L) M := Hp.aR.2 h
theorem Hp.cQ (h : Hp R L M) (r : rq α) {bs : List Nat} {cs : List α} [o : e8 r L bs cs L'] (hb : bs[i]? = some b) (hc : cs[i]? = some c) : Hp R (ay r b c :: kI r bs cs i :: L') M :=
 (h.pick o.pick).focus (FK hb hc)
theorem Hp.dw (h : Hp R L M) (r : rq α) (b : Nat) {bs : List Nat} {cs : List α} {i : Nat} {c : α} [o : bV r b L c L'] [x : vT r L' bs cs i nx] (hb : bs[i]? = some b) (hc : i < cs.length) : Hp R (aV r bs (cs.set i c) :: nx) M := by
 have h1 : Hp R (ay r b c :: kI r bs cs i :: nx) M := (h.pick o.pick).map fun _ hs => hs.tail (fun _ => bS.pick x.pick)
 have h2 := Hp.O2 (ls := List.zipWith (ay r) bs cs) h1 (by rw [List.length_zipWith]; have := (List.getElem?_eq_some_iff.1 hb).1; omega)
 rw [mR hb] at h2
 exact h2
theorem Hp.uU (h : Hp R L M) (r : rq α) (b : Nat) {bs : List Nat} {cs : List α} {i : Nat} {c : α} [o : bV r b L c L'] [x : vT r L' bs cs i nx] (hb : bs[i]? = some b) (hc : cs[i]? = some c) : Hp R (aV r bs cs :: nx) M := by
 have := h.dw r b hb (List.getElem?_eq_some_iff.1 hc).1
 obtain ⟨hi, rfl⟩ := List.getElem?_eq_some_iff.1 hc
 rwa [List.set_getElem_self] at this
theorem Hp.jP (h : Hp R L M) (r : rq α) (b : Nat) {bs : List Nat} {cs : List α} {c : α} [o : bV r b L c L'] [x : e8 r L' bs cs nx] (hl : bs.length = cs.length) : Hp R (aV r (bs ++ [b]) (cs ++ [c]) :: nx) M := by
 have h1 : Hp R (ay r b c :: aV r bs cs :: nx) M := (h.pick o.pick).map fun _ hs => hs.tail (fun _ => bS.pick x.pick)
 refine Hp.aR.2 ?_
 rw [List.zipWith_append hl, List.append_assoc]
 refine Hp.mG (P := ay r b c) ?_ (cG.Wx _)
 exact h1.map fun _ hs => hs.tail fun _ hb => bS.aR.1 hb
end
end Go.AF
namespace Go.Proofs
open Go.AF
set_option maxRecDepth 100000
variable {M : Mem} {K : Value → Mem → Prop} {Kp : List PanicEntry → Mem → Prop}
theorem uV {B0 : Option Addr} {m0 c0 : Nat} {B1 : Option Addr} {m1 c1 : Nat} (h :
∃ I1 : IT, (∃ k2, I1 k2 [(.slice none 0 0), (iV 0)] M) ∧
∀ (k3 : Nat) (_ : Nat → Value) (A5 : Option Addr) (k6 : Nat) (k7 : Nat) (n8 : Int) (M9 : Mem), (I1 k3 [(.slice A5 k6 k7), (iV n8)] M9) → aM (decide (n8 < m0))
 ((0 ≤ n8) ∧
 (n8 < m0) ∧
 aF B0 fun fm eT =>
 oz M9 fm (eT + ((Int.toNat n8) * 3)) fun iQ kY pR =>
 aX M9 pN fun gX fh =>
 Lw fh gX (iV iQ) (iV kY) (iV pR) fun jN =>
 oz jN gX 0 fun iD mO qP =>
 aa Tryz.prog 234 #[(.agg #[(iV iD), (iV mO), (iV qP)]), (.slice B1 m1 c1)] jN (fun Wy jn =>
 cK (some Wy) fun t25 =>
 aM t25
 (aX jn (cl [(iV n8)] 3) fun uS wZ =>
 aA 36 A5 k6 k7 (some ⟨uS, 0, none⟩) 1 1 wZ (fun SZ mP =>
 az (some SZ) fun Wz uq ur =>
 ∃ qR : Nat, (qR < k3) ∧
 I1 qR [(.slice Wz uq ur), (iV (IntKind.wrap .i64 (n8 + 1)))] mP) Kp)
 (∃ tg : Nat, (tg < k3) ∧
 I1 tg [(.slice A5 k6 k7), (iV (IntKind.wrap .i64 (n8 + 1)))] jn)) Kp)
 (K (.slice A5 k6 k7) M9)) :
 aa Tryz.prog 205 #[.slice B0 m0 c0, .slice B1 m1 c1] M K Kp := vw [(2000000, .loop [(5, .c .sl), (10, .c (.int .i64))])] Tryz.func205 h
theorem zI {B0 : Option Addr} {m0 c0 : Nat} (h :
∃ I1 : IT, (∃ k2, I1 k2 [(iV 0)] M) ∧
∀ (k3 : Nat) (_ : Nat → Value) (n5 : Int) (M6 : Mem), (I1 k3 [(iV n5)] M6) → aM (decide (n5 < m0))
 ((0 ≤ n5) ∧
 (n5 < m0) ∧
 aF B0 fun k7 k8 =>
 oz M6 k7 (k8 + ((Int.toNat n5) * 3)) fun n9 iS gG =>
 aX M6 pN fun gx kj =>
 Lw kj gx (iV n9) (iV iS) (iV gG) fun fh =>
 rI fh gx 0 fun lA =>
 aM (lA == 2)
 (K (.tuple #[(iV n5), (.bool true)]) fh)
 (∃ fZ : Nat, (fZ < k3) ∧
 I1 fZ [(iV (IntKind.wrap .i64 (n5 + 1)))] fh))
 (K (.tuple #[(iV 0), (.bool false)]) M6)) :
 aa Tryz.prog 206 #[.slice B0 m0 c0] M K Kp := vw [(2000000, .loop [(8, .c (.int .i64))])] Tryz.func206 h
theorem zJ {x0 : Int} {B1 : Option Addr} {m1 c1 : Nat} {B2 : Option Addr} {m2 c2 : Nat} {B3 : Option Addr} {m3 c3 : Nat} (h :
∃ I1 : IT, (∃ k2, I1 k2 [(iV 0)] M) ∧
∀ (k3 : Nat) (_ : Nat → Value) (n5 : Int) (M6 : Mem), (I1 k3 [(iV n5)] M6) → aM (decide (n5 < m1))
 ((0 ≤ n5) ∧
 (n5 < m1) ∧
 aF B1 fun k7 k8 =>
 oz M6 k7 (k8 + ((Int.toNat n5) * 3)) fun n9 iS gG =>
 aX M6 pN fun gx kj =>
 Lw kj gx (iV n9) (iV iS) (iV gG) fun fh =>
 rI fh gx 0 fun lA =>
 aM (lA == 0)
 (rI fh gx 1 fun kf =>
 (0 ≤ kf) ∧
 (kf < m3) ∧
 aF B3 fun iz kH =>
 rP fh iz (kH + (Int.toNat kf)) fun BY =>
 aa Tryz.prog 235 #[(.pointer BY), (.agg #[(iV x0), (iV n5), (iV 0)])] fh (fun Js j5 =>
 (Js = (.tuple #[])) ∧
 ∃ sE : Nat, (sE < k3) ∧
 I1 sE [(iV (IntKind.wrap .i64 (n5 + 1)))] j5) Kp)
 (aM (lA == 1)
 (rI fh gx 1 fun mT =>
 (0 ≤ mT) ∧
 (mT < m3) ∧
 aF B3 fun uS DE =>
 rP fh uS (DE + (Int.toNat mT)) fun SY =>
 rI fh gx 2 fun DG =>
 (0 ≤ DG) ∧
 (DG < m2) ∧
 aF B2 fun mQ uq =>
 rI fh mQ (uq + (Int.toNat DG)) fun n32 =>
 aa Tryz.prog 236 #[(.pointer SY), (.agg #[(iV x0), (iV n5), (iV n32)])] fh (fun v33 qS =>
 (v33 = (.tuple #[])) ∧
 ∃ BV : Nat, (BV < k3) ∧
 I1 BV [(iV (IntKind.wrap .i64 (n5 + 1)))] qS) Kp)
 (∃ LY : Nat, (LY < k3) ∧
 I1 LY [(iV (IntKind.wrap .i64 (n5 + 1)))] fh)))
 (K (.tuple #[]) M6)) :
 aa Tryz.prog 207 #[.int .i64 x0, .slice B1 m1 c1, .slice B2 m2 c2, .slice B3 m3 c3] M K Kp := vw [(2000000, .loop [(12, .c (.int .i64))]), (7, .bQ [0, 0, 2, 7, 15, 0, 0, 0, 0, 256, 896, 1920, 4064, 8191] (sy [0, 1, 5, 6, 7, 8, 2, 3, 4, 9, 10, 11, 12, 13] .done))] Tryz.func207 h
theorem tp {lO : Int} {tq : Int} {lP : Int} {B1 : Option Addr} {m1 c1 : Nat} (h :
aX M (cl [(iV lO), (iV tq), (iV lP)] 165) fun k1 M2 =>
rI M2 k1 0 fun n3 =>
aM (n3 == 0)
 (rI M2 k1 1 fun n4 =>
 (0 ≤ n4) ∧
 (n4 < m1) ∧
 aF B1 fun k5 k6 =>
 rP M2 k5 (k6 + (Int.toNat n4)) fun A7 =>
 aa Tryz.prog 248 #[(.pointer A7)] M2 (fun v8 M9 =>
 cK (some v8) fun t10 =>
 K (.bool t10) M9) Kp)
 (aM (n3 == 1)
 (rI M2 k1 1 fun gG =>
 (0 ≤ gG) ∧
 (gG < m1) ∧
 aF B1 fun gx c7 =>
 rP M2 gx (c7 + (Int.toNat gG)) fun mq =>
 aa Tryz.prog 249 #[(.pointer mq)] M2 (fun DH fh =>
 cK (some DH) fun t17 =>
 K (.bool t17) fh) Kp)
 (K (.bool false) M2))) :
 aa Tryz.prog 234 #[.agg #[.int .i64 lO, .int .i64 tq, .int .i64 lP], .slice B1 m1 c1] M K Kp := vw [] Tryz.func234 h
theorem xR {x0 : Int} {B1 : Option Addr} {m1 c1 : Nat} (h :
∃ I1 : IT, (∃ k2, I1 k2 [(iV 0)] M) ∧
∀ (k3 : Nat) (_ : Nat → Value) (n5 : Int) (M6 : Mem), (I1 k3 [(iV n5)] M6) → aM (decide (n5 < m1))
 ((0 ≤ n5) ∧
 (n5 < m1) ∧
 aF B1 fun k7 k8 =>
 rP M6 k7 (k8 + (Int.toNat n5)) fun A9 =>
 aa Tryz.prog 253 #[(.pointer A9), (iV x0)] M6 (fun v10 jO =>
 (v10 = (.tuple #[])) ∧
 ∃ gx : Nat, (gx < k3) ∧
 I1 gx [(iV (IntKind.wrap .i64 (n5 + 1)))] jO) Kp)
 (K (.tuple #[]) M6)) :
 aa Tryz.prog 252 #[.int .i64 x0, .slice B1 m1 c1] M K Kp := vw [(2000000, .loop [(8, .c (.int .i64))])] Tryz.func252 h
end Go.Proofs
namespace Go.Proofs
open Go.AF
set_option maxRecDepth 100000
set_option maxHeartbeats 1000000
attribute [local irreducible] aH cK dM b8 az dD aF aI aX aN bl aM
structure pS where
 way : Int
 ch : Int
 bQ : Int
 deriving DecidableEq
def xS : gW pS := ⟨3, fun w => [.int .i64 w.way, .int .i64 w.ch, .int .i64 w.bQ], fun _ => rfl, fun w v hv => by
 simp only [List.mem_cons, List.not_mem_nil, or_false] at hv; obtain rfl | rfl | rfl := hv <;> rfl⟩
def pS.Ok (n : Nat) (c : pS) : Prop := 0 ≤ c.way ∧ c.way ≤ 2 ∧ (c.way ≠ 2 → 0 ≤ c.ch ∧ c.ch < n ∧ 0 ≤ c.bQ ∧ c.bQ < 8)
instance (n : Nat) (c : pS) : Decidable (c.Ok n) := by unfold pS.Ok; infer_instance
def dk (cs : List aP) (k : Int) : aP := cs.getD k.toNat ⟨0, [], [], [], false⟩
def can (cs : List aP) (c : pS) : Bool := if c.way = 0 then (dk cs c.ch).sW else if c.way = 1 then (dk cs c.ch).sV else false
def LZ (cases : List pS) (cs : List aP) (j : Nat) : Bool := match cases[j]? with
 | some c => can cs c
 | none => false
def BZ (cases : List pS) (cs : List aP) (i : Nat) : List Int := ((List.range i).filter (LZ cases cs)).map Int.ofNat
def enabled (cases : List pS) (cs : List aP) : List Int := BZ cases cs cases.length
theorem DI (cases : List pS) (cs : List aP) (i : Nat) : (BZ cases cs i).length ≤ i := by
 unfold BZ; rw [List.length_map]; exact Nat.le_trans (List.length_filter_le ..) (by simp)
theorem AJ {cases : List pS} {cs : List aP} {i : Nat} {c : pS} (h : cases[i]? = some c) : BZ cases cs (i + 1) = BZ cases cs i ++ (if can cs c then [(i : Int)] else []) := by
 unfold BZ
 rw [List.range_succ, List.filter_append, List.map_append]
 simp only [List.filter_cons, LZ, h, List.filter_nil]
 split <;> simp_all
def els (cases : List pS) : Option Nat := cases.findIdx? (fun c => c.way == 2)
def jF (g : Int) (fa : List Int) (i : Nat) (c : pS) (cs : List aP) : List aP :=
 if c.way = 0 then cs.set c.ch.toNat { dk cs c.ch with dU := (dk cs c.ch).dU ++ [⟨g, i, 0⟩] }
 else if c.way = 1 then cs.set c.ch.toNat { dk cs c.ch with snd := (dk cs c.ch).snd ++ [⟨g, i, fa.getD c.bQ.toNat 0⟩] } else cs
def dH (g : Int) (fa : List Int) (cases : List pS) (cs : List aP) : Nat → List aP
 | 0 => cs
 | i + 1 => match cases[i]? with
  | some c => jF g fa i c (dH g fa cases cs i)
  | none => dH g fa cases cs i
theorem DJ (g : Int) (fa : List Int) (i : Nat) (c : pS) (cs : List aP) : (jF g fa i c cs).length = cs.length := by
 unfold jF; split
 ·simp
 ·split <;> simp
theorem j6 (g : Int) (fa : List Int) (cases : List pS) (cs : List aP) : ∀ i, (dH g fa cases cs i).length = cs.length
 | 0 => rfl
 | i + 1 => by
  unfold dH; split
  ·rw [DJ, j6 _ _ _ _ i]
  ·exact j6 _ _ _ _ i
theorem mem_set {α : Type} {l : List α} {i : Nat} {x y : α} (h : y ∈ l.set i x) : y ∈ l ∨ y = x := by
 rcases List.mem_or_eq_of_mem_set h with h | h
 ·exact .inl h
 ·exact .inr h
theorem tr {cs : List aP} {k : Int} (h0 : 0 ≤ k) (h : k < cs.length) : dk cs k ∈ cs := by
 unfold dk; rw [List.getD_eq_getElem?_getD, List.getElem?_eq_getElem (by omega)]; exact List.getElem_mem _
theorem zK {g : Int} {fa : List Int} {i : Nat} {c : pS} {cs : List aP} {N : Nat} (hs : ∀ x ∈ cs, x.Small N) (hc : c.Ok cs.length) : ∀ x ∈ jF g fa i c cs, x.Small (N + 1) := by
 obtain ⟨_, _, kk⟩ := hc
 intro x hm
 unfold jF at hm
 split at hm
 ·rename_i hw
  have hx := hs _ (tr (kk (by omega)).1 (kk (by omega)).2.1)
  rcases mem_set hm with h | rfl
  ·exact (hs x h).mono (by omega)
  ·exact hx.wr _
 split at hm
 ·rename_i hw
  have hx := hs _ (tr (kk (by omega)).1 (kk (by omega)).2.1)
  rcases mem_set hm with h | rfl
  ·exact (hs x h).mono (by omega)
  ·exact hx.ws _
 ·exact (hs x hm).mono (by omega)
theorem mU {g : Int} {fa : List Int} {cases : List pS} {cs : List aP} {N : Nat} (hs : ∀ x ∈ cs, x.Small N) (hok : ∀ c ∈ cases, c.Ok cs.length) : ∀ i, ∀ x ∈ dH g fa cases cs i, x.Small (N + i)
 | 0 => hs
 | i + 1 => by
  unfold dH; split
  ·rename_i c hc
   exact zK (mU hs hok i) (by rw [j6]; exact hok c (List.mem_of_getElem? hc))
  ·exact fun x hx => (mU hs hok i x hx).mono (by omega)
section
variable {R : Mem} {L L' : List HP} {M : Mem} {K : Value → Mem → Prop} {Kp : List PanicEntry → Mem → Prop} {bs : List Nat} {cs : List aP}
theorem xT : bu Tryz.prog 36 3 1 8 [.int .i64 0] := bu.mk' (zv := .int .i64 0) (by kernel_rfl) (by kernel_rfl) rfl (by omega)
theorem Ma {cases : List pS} {i : Nat} {c : pS} (hc : cases[i]? = some c) (hw : c.way = 2) (hp : ∀ j c, j < i → cases[j]? = some c → c.way ≠ 2) : els cases = some i := by
 obtain ⟨hi, e⟩ := List.getElem?_eq_some_iff.1 hc
 refine List.findIdx?_eq_some_iff_getElem.2 ⟨hi, by rw [e]; simpa using hw, fun j hj => ?_⟩
 have := hp j _ hj (List.getElem?_eq_getElem (by omega))
 simpa using this
theorem Mb {cases : List pS} (hp : ∀ j c, j < cases.length → cases[j]? = some c → c.way ≠ 2) : els cases = none := by
 refine List.findIdx?_eq_none_iff.2 fun c hc => ?_
 obtain ⟨j, hj, e⟩ := List.getElem_of_mem hc
 have := hp j c hj (by rw [← e]; exact List.getElem?_eq_getElem hj)
 simpa using this
theorem FL {B : Option Addr} {m cc : Nat} {cases : List pS} (h : Hp R L M) (hB : Src R L B (xS.cells cases)) (hm : m = cases.length) (hb : cases.length ≤ 1000000000)
  (k : ∀ M', Hp R L M' → K (.tuple #[.int .i64 (match els cases with | some i => (i : Int) | none => 0), .bool (els cases).isSome]) M') :
  aa Tryz.prog 206 #[.slice B m cc] M K Kp := by
 subst hm
 refine zI ⟨fun d ws M => ∃ i : Nat, ws = [.int .i64 (i : Int)] ∧ d = cases.length - i ∧ i ≤ cases.length ∧ (∀ j c, j < i → cases[j]? = some c → c.way ≠ 2) ∧ Hp R L M, ⟨_, 0, rfl, rfl, by omega, fun j c hj => by omega, h⟩, ?_⟩
 clear h
 rintro d _ ii M ⟨i, he, hd, hi, hp, h⟩
 simp only [List.cons.injEq, Value.int.injEq, and_true, true_and] at he
 subst he
 refine aJ.2 ⟨fun hlt => ?_, fun hge => ?_⟩
 ·obtain ⟨c, hc⟩ := aO (l := cases) (i := i) (by omega)
  obtain ⟨b, o, rfl⟩ := hB.kD h (by omega) (by decide)
  repeat (first|(refine aj h ?_;clear h;intro kb M h)|(refine aq h ?_;clear h;intro M h)|refine St.to h ?_|(apply Exists.intro;(repeat apply Exists.intro);refine And.intro rfl ?_)|refine au ?_|refine af ?_|refine ai ?_)
  simp only [Int.toNat_natCast]
  refine bn (hB.at h (i := i) (j := 0) hc rfl rfl) ?_
  refine bn (hB.at h (i := i) (j := 1) hc rfl rfl) ?_
  refine bn (hB.at h (i := i) (j := 2) hc rfl rfl) ?_
  repeat (first|(refine aj h ?_;clear h;intro kb M h)|(refine aq h ?_;clear h;intro M h)|refine St.to h ?_|(apply Exists.intro;(repeat apply Exists.intro);refine And.intro rfl ?_)|refine au ?_|refine af ?_|refine ai ?_)
  refine bN.2 ⟨fun e => ?_, fun e => ?_⟩
  ·have := Ma hc e hp
   rw [this] at k
   exact k _ h.mJ
  ·rw [aS (by omega)]
   refine ⟨cases.length - (i + 1), by omega, i + 1, rfl, rfl, by omega, fun j c' hj E1 => ?_, h.mJ⟩
   rcases Nat.lt_or_ge j i with jg | jg
   ·exact hp j c' jg E1
   ·obtain rfl : j = i := by omega
    rw [hc] at E1; cases E1; exact e
 ·obtain rfl : i = cases.length := by omega
  rw [Mb hp] at k
  exact k _ h
theorem Jt {c : pS} {B : Option Addr} {m cc : Nat} (h : Hp R L M) [o : e8 bz L bs cs L'] (hB : Src R L' B (kX.cells bs)) (hm : m = bs.length) (hl : bs.length = cs.length) (hc : c.way ≠ 2 → 0 ≤ c.ch ∧ c.ch < cs.length) (FM : 0 ≤ c.way ∧ c.way ≤ 2)
  (k : ∀ M', Hp R (aV bz bs cs :: L') M' → K (.bool (can cs c)) M') : aa Tryz.prog 234 #[.agg #[.int .i64 c.way, .int .i64 c.ch, .int .i64 c.bQ], .slice B m cc] M K Kp := by
 subst hm
 replace h := h.mS bz
 obtain ⟨way, ch, bQ⟩ := c
 dsimp only at *
 by_cases Yq : way = 2
 ·subst Yq
  refine tp ?_
  repeat (first|(refine aj h ?_;clear h;intro kb M h)|(refine aq h ?_;clear h;intro M h)|refine St.to h ?_|(apply Exists.intro;(repeat apply Exists.intro);refine And.intro rfl ?_)|refine au ?_|refine af ?_|refine ai ?_)
  exact k _ h.mJ
 replace hc := hc Yq
 obtain ⟨q, rfl⟩ := Int.eq_ofNat_of_zero_le hc.1
 obtain ⟨x, hx⟩ := aO (l := cs) (i := q) (by omega)
 obtain ⟨b, hb⟩ := aO (l := bs) (i := q) (by omega)
 have ZC : dk cs (q : Int) = x := by simp [dk, hx]
 obtain ⟨b0, o0, rfl⟩ := hB.cons.kD h (by omega) (by decide)
 simp only [can, ZC] at k
 refine tp ?_
 repeat (first|(refine aj h ?_;clear h;intro kb M h)|(refine aq h ?_;clear h;intro M h)|refine St.to h ?_|(apply Exists.intro;(repeat apply Exists.intro);refine And.intro rfl ?_)|refine au ?_|refine af ?_|refine ai ?_)
 refine bN.2 ⟨fun e => ?_, fun e => ?_⟩
 ·rw [if_pos e] at k
  repeat (first|(refine aj h ?_;clear h;intro kb M h)|(refine aq h ?_;clear h;intro M h)|refine St.to h ?_|(apply Exists.intro;(repeat apply Exists.intro);refine And.intro rfl ?_)|refine au ?_|refine af ?_|refine ai ?_)
  refine lK (hB.cons.cons.at h (i := q) (j := 0) hb rfl (by simp [kX])) ?_
  replace h := h.cQ bz hb hx
  refine zH h ?_
  repeat (first|(refine aj h ?_;clear h;intro kb M h)|(refine aq h ?_;clear h;intro M h)|refine St.to h ?_|(apply Exists.intro;(repeat apply Exists.intro);refine And.intro rfl ?_)|refine au ?_|refine af ?_|refine ai ?_)
  exact k _ (h.uU bz b hb hx).bT
 rw [if_neg e] at k
 refine bN.2 ⟨fun e => ?_, fun e => ?_⟩
 ·rw [if_pos e] at k
  repeat (first|(refine aj h ?_;clear h;intro kb M h)|(refine aq h ?_;clear h;intro M h)|refine St.to h ?_|(apply Exists.intro;(repeat apply Exists.intro);refine And.intro rfl ?_)|refine au ?_|refine af ?_|refine ai ?_)
  refine lK (hB.cons.cons.at h (i := q) (j := 0) hb rfl (by simp [kX])) ?_
  replace h := h.cQ bz hb hx
  refine zG h ?_
  repeat (first|(refine aj h ?_;clear h;intro kb M h)|(refine aq h ?_;clear h;intro M h)|refine St.to h ?_|(apply Exists.intro;(repeat apply Exists.intro);refine And.intro rfl ?_)|refine au ?_|refine af ?_|refine ai ?_)
  exact k _ (h.uU bz b hb hx).bT
 ·rw [if_neg e] at k
  exact k _ h.mJ
theorem zL {B A : Option Addr} {m cc n ca : Nat} {cases : List pS} (h : Hp R L M) [o : e8 bz L bs cs L'] (hB : Src R L' B (xS.cells cases)) (hA : Src R L' A (kX.cells bs)) (hm : m = cases.length) (hn : n = bs.length)
  (hb : cases.length ≤ 1000000000) (hl : bs.length = cs.length) (hok : ∀ c ∈ cases, c.Ok cs.length)
  (k : ∀ A' c' M', Hp R (cv bI 3 A' c' (enabled cases cs) :: aV bz bs cs :: L') M' → K (.slice A' (enabled cases cs).length c') M') :
  aa Tryz.prog 205 #[.slice B m cc, .slice A n ca] M K Kp := by
 subst hm
 replace h := h.mS bz
 refine uV ⟨fun d ws M => ∃ (i : Nat) (X : Option Addr) (cx : Nat), ws = [.slice X (BZ cases cs i).length cx, .int .i64 (i : Int)] ∧ d = cases.length - i ∧ i ≤ cases.length ∧ Hp R (cv bI 3 X cx (BZ cases cs i) :: aV bz bs cs :: L') M, ⟨_, 0, none, 0, rfl, rfl, by omega, h.cE bI _⟩, ?_⟩
 clear h
 rintro d _ X n1 cx ii M ⟨i, _, _, he, hd, hi, h⟩
 simp only [List.cons.injEq, Value.int.injEq, Value.slice.injEq, and_true, true_and] at he
 obtain ⟨⟨rfl, rfl, rfl⟩, rfl⟩ := he
 refine aJ.2 ⟨fun hlt => ?_, fun hge => ?_⟩
 ·obtain ⟨c, hc⟩ := aO (l := cases) (i := i) (by omega)
  obtain ⟨b, o, rfl⟩ := hB.cons.cons.kD h (by omega) (by decide)
  repeat (first|(refine aj h ?_;clear h;intro kb M h)|(refine aq h ?_;clear h;intro M h)|refine St.to h ?_|(apply Exists.intro;(repeat apply Exists.intro);refine And.intro rfl ?_)|refine au ?_|refine af ?_|refine ai ?_)
  simp only [Int.toNat_natCast]
  refine bn (hB.cons.cons.at h (i := i) (j := 0) hc rfl rfl) ?_
  refine bn (hB.cons.cons.at h (i := i) (j := 1) hc rfl rfl) ?_
  refine bn (hB.cons.cons.at h (i := i) (j := 2) hc rfl rfl) ?_
  repeat (first|(refine aj h ?_;clear h;intro kb M h)|(refine aq h ?_;clear h;intro M h)|refine St.to h ?_|(apply Exists.intro;(repeat apply Exists.intro);refine And.intro rfl ?_)|refine au ?_|refine af ?_|refine ai ?_)
  have hco := hok c (List.mem_of_getElem? hc)
  obtain ⟨w1, w2, k1⟩ := hco
  refine Jt (c := c) h hA.cons.cons hn hl (fun e => ⟨(k1 e).1, (k1 e).2.1⟩) ⟨w1, w2⟩ ?_
  clear h
  intro M h
  repeat (first|(refine aj h ?_;clear h;intro kb M h)|(refine aq h ?_;clear h;intro M h)|refine St.to h ?_|(apply Exists.intro;(repeat apply Exists.intro);refine And.intro rfl ?_)|refine au ?_|refine af ?_|refine ai ?_)
  have hlen := DI cases cs i
  refine gf.2 ⟨fun hb => ?_, fun hb => ?_⟩
  ·have e := AJ (cs := cs) hc
   rw [if_pos hb] at e
   repeat (first|(refine aj h ?_;clear h;intro kb M h)|(refine aq h ?_;clear h;intro M h)|refine St.to h ?_|(apply Exists.intro;(repeat apply Exists.intro);refine And.intro rfl ?_)|refine au ?_|refine af ?_|refine ai ?_)
   refine h.bD xT [(i : Int)] rfl rfl (by simp; omega) ?_
   clear h
   intro A' c' M h
   repeat (first|(refine aj h ?_;clear h;intro kb M h)|(refine aq h ?_;clear h;intro M h)|refine St.to h ?_|(apply Exists.intro;(repeat apply Exists.intro);refine And.intro rfl ?_)|refine au ?_|refine af ?_|refine ai ?_)
   rw [aS (by omega)]
   rw [← e] at h
   refine ⟨cases.length - (i + 1), by omega, i + 1, A', c', ?_, rfl, by omega, h.bT⟩
   rw [e]
  ·have e := AJ (cs := cs) hc
   rw [if_neg (by simp [hb]), List.append_nil] at e
   rw [aS (by omega)]
   refine ⟨cases.length - (i + 1), by omega, i + 1, X, cx, by rw [e], rfl, by omega, ?_⟩
   rw [e]; exact h.sub bM
 ·obtain rfl : i = cases.length := by omega
  exact k _ _ _ h
theorem DK {g : Int} {A : Option Addr} {n ca : Nat} (h : Hp R L M) [o : e8 bz L bs cs L'] (hA : Src R L' A (kX.cells bs)) (hn : n = bs.length) (hb : bs.length ≤ 1000000000) (hl : bs.length = cs.length) (hs : ∀ c ∈ cs, c.Small 1000000000)
  (k : ∀ M', Hp R (aV bz bs (cs.map (·.drop g)) :: L') M' → K (.tuple #[]) M') :
  aa Tryz.prog 252 #[.int .i64 g, .slice A n ca] M K Kp := by
 subst hn
 replace h := h.mS bz
 refine xR ⟨fun d ws M => ∃ (i : Nat), ws = [.int .i64 (i : Int)] ∧ d = bs.length - i ∧ i ≤ bs.length ∧ Hp R (aV bz bs ((cs.take i).map (·.drop g) ++ cs.drop i) :: L') M, ⟨_, 0, rfl, rfl, by omega, h⟩, ?_⟩
 clear h
 rintro d _ ii M ⟨i, he, hd, hi, h⟩
 simp only [List.cons.injEq, Value.int.injEq, and_true, true_and] at he
 subst he
 refine aJ.2 ⟨fun hlt => ?_, fun hge => ?_⟩
 ·obtain ⟨c, hc⟩ := aO (l := cs) (i := i) (by omega)
  obtain ⟨b, vJ⟩ := aO (l := bs) (i := i) (by omega)
  obtain ⟨b0, o0, rfl⟩ := hA.cons.kD h (by omega) (by decide)
  have Rp : ((cs.take i).map (·.drop g) ++ cs.drop i)[i]? = some c := by
   rw [List.getElem?_append_right (by simp; omega)]; simp [List.length_take, Nat.min_eq_left (show i ≤ cs.length by omega), hc]
  repeat (first|(refine aj h ?_;clear h;intro kb M h)|(refine aq h ?_;clear h;intro M h)|refine St.to h ?_|(apply Exists.intro;(repeat apply Exists.intro);refine And.intro rfl ?_)|refine au ?_|refine af ?_|refine ai ?_)
  refine lK (hA.cons.at h (i := i) (j := 0) vJ rfl (by simp [kX])) ?_
  replace h := h.cQ bz vJ Rp
  refine FJ h (hs c (List.mem_of_getElem? hc)) ?_
  clear h
  intro M h
  repeat (first|(refine aj h ?_;clear h;intro kb M h)|(refine aq h ?_;clear h;intro M h)|refine St.to h ?_|(apply Exists.intro;(repeat apply Exists.intro);refine And.intro rfl ?_)|refine au ?_|refine af ?_|refine ai ?_)
  rw [aS (by omega)]
  refine ⟨bs.length - (i + 1), by omega, i + 1, rfl, rfl, by omega, ?_⟩
  have := (h.dw bz b vJ (by simp; omega)).bT (T := L')
  rw [List.set_append_right _ _ (by simp; omega)] at this
  rw [cV hc, List.map_append, List.append_assoc]
  have e : (cs.drop i).set (i - ((cs.take i).map (·.drop g)).length) (c.drop g) = [c.drop g] ++ cs.drop (i + 1) := by
   rw [show i - ((cs.take i).map (·.drop g)).length = 0 from by simp; omega]
   obtain ⟨hi', e'⟩ := List.getElem?_eq_some_iff.1 hc
   rw [List.drop_eq_getElem_cons hi']; rfl
  rw [e] at this
  exact this
 ·obtain rfl : i = bs.length := by omega
  rw [hl, List.take_length, List.drop_length, List.append_nil] at h
  exact k _ h
theorem FN {g : Int} {B A D : Option Addr} {m cc n ca r cr : Nat} {cases : List pS} {fa : List Int} (h : Hp R L M) [o : e8 bz L bs cs L'] (hB : Src R L' B (xS.cells cases)) (hA : Src R L' A (kX.cells bs)) (hD : Src R L' D (bI.cells fa))
  (hm : m = cases.length) (hn : n = bs.length) (hr : r = 8) (hr8 : fa.length = 8) (hb : cases.length ≤ 1000000) (hl : bs.length = cs.length) (hok : ∀ c ∈ cases, c.Ok cs.length) (hs : ∀ c ∈ cs, c.Small 1000000)
  (k : ∀ M', Hp R (aV bz bs (dH g fa cases cs cases.length) :: L') M' → K (.tuple #[]) M') :
  aa Tryz.prog 207 #[.int .i64 g, .slice B m cc, .slice D r cr, .slice A n ca] M K Kp := by
 subst hm
 subst hn
 subst hr
 replace h := h.mS bz
 refine zJ ⟨fun d ws M => ∃ (i : Nat), ws = [.int .i64 (i : Int)] ∧ d = cases.length - i ∧ i ≤ cases.length ∧ Hp R (aV bz bs (dH g fa cases cs i) :: L') M, ⟨_, 0, rfl, rfl, by omega, h⟩, ?_⟩
 clear h
 rintro d _ ii M ⟨i, he, hd, hi, h⟩
 simp only [List.cons.injEq, Value.int.injEq, and_true, true_and] at he
 subst he
 refine aJ.2 ⟨fun hlt => ?_, fun hge => ?_⟩
 ·obtain ⟨c, hc⟩ := aO (l := cases) (i := i) (by omega)
  obtain ⟨w1, w2, kk⟩ := hok c (List.mem_of_getElem? hc)
  obtain ⟨b, o, rfl⟩ := hB.cons.kD h (by omega) (by decide)
  by_cases Yq : c.way = 2
  ·have e : dH g fa cases cs (i + 1) = dH g fa cases cs i := by
    rw [dH, hc]; dsimp only; unfold jF; rw [if_neg (by omega), if_neg (by omega)]
   repeat (first|(refine aj h ?_;clear h;intro kb M h)|(refine aq h ?_;clear h;intro M h)|refine St.to h ?_|(apply Exists.intro;(repeat apply Exists.intro);refine And.intro rfl ?_)|refine au ?_|refine af ?_|refine ai ?_)
   simp only [Int.toNat_natCast]
   refine bn (hB.cons.at h (i := i) (j := 0) hc rfl rfl) ?_
   refine bn (hB.cons.at h (i := i) (j := 1) hc rfl rfl) ?_
   refine bn (hB.cons.at h (i := i) (j := 2) hc rfl rfl) ?_
   repeat (first|(refine aj h ?_;clear h;intro kb M h)|(refine aq h ?_;clear h;intro M h)|refine St.to h ?_|(apply Exists.intro;(repeat apply Exists.intro);refine And.intro rfl ?_)|refine au ?_|refine af ?_|refine ai ?_)
   refine bN.2 ⟨fun e => by omega, fun _ => ?_⟩
   refine bN.2 ⟨fun e => by omega, fun _ => ?_⟩
   rw [aS (by omega)]
   refine ⟨cases.length - (i + 1), by omega, i + 1, rfl, rfl, by omega, ?_⟩
   rw [e]
   exact h.mJ
  obtain ⟨k1, k2, k3, k4⟩ := kk Yq
  obtain ⟨b2, o2, rfl⟩ := hA.cons.kD h (by omega) (by decide)
  obtain ⟨b3, o3, rfl⟩ := hD.cons.kD h (by omega) (by decide)
  have hlen := j6 g fa cases cs i
  have Hx := mU (g := g) (fa := fa) hs hok i
  have e : dH g fa cases cs (i + 1) = jF g fa i c (dH g fa cases cs i) := by rw [dH, hc]
  generalize hw : dH g fa cases cs i = ws at h hlen Hx e
  obtain ⟨way, ch, bQ⟩ := c
  dsimp only at k1 k2 k3 k4
  obtain ⟨q, rfl⟩ := Int.eq_ofNat_of_zero_le k1
  obtain ⟨q2, rfl⟩ := Int.eq_ofNat_of_zero_le k3
  obtain ⟨b1, vJ⟩ := aO (l := bs) (i := q) (by omega)
  obtain ⟨x, hx⟩ := aO (l := ws) (i := q) (by omega)
  obtain ⟨v, hv⟩ := aO (l := fa) (i := q2) (by omega)
  have ZC : dk ws (q : Int) = x := by simp [dk, hx]
  have hvv : fa.getD q2 0 = v := by simp [hv]
  have hxs := Hx x (List.mem_of_getElem? hx)
  simp only [jF, ZC, Int.toNat_natCast, hvv] at e
  repeat (first|(refine aj h ?_;clear h;intro kb M h)|(refine aq h ?_;clear h;intro M h)|refine St.to h ?_|(apply Exists.intro;(repeat apply Exists.intro);refine And.intro rfl ?_)|refine au ?_|refine af ?_|refine ai ?_)
  simp only [Int.toNat_natCast]
  refine bn (hB.cons.at h (i := i) (j := 0) hc rfl rfl) ?_
  refine bn (hB.cons.at h (i := i) (j := 1) hc rfl rfl) ?_
  refine bn (hB.cons.at h (i := i) (j := 2) hc rfl rfl) ?_
  dsimp only
  repeat (first|(refine aj h ?_;clear h;intro kb M h)|(refine aq h ?_;clear h;intro M h)|refine St.to h ?_|(apply Exists.intro;(repeat apply Exists.intro);refine And.intro rfl ?_)|refine au ?_|refine af ?_|refine ai ?_)
  refine bN.2 ⟨fun hw => ?_, fun hw => ?_⟩
  ·rw [if_pos hw] at e
   repeat (first|(refine aj h ?_;clear h;intro kb M h)|(refine aq h ?_;clear h;intro M h)|refine St.to h ?_|(apply Exists.intro;(repeat apply Exists.intro);refine And.intro rfl ?_)|refine au ?_|refine af ?_|refine ai ?_)
   refine lK (hA.cons.cons.at h (i := q) (j := 0) vJ rfl (by simp [kX])) ?_
   have EW := vJ
   replace h := h.pick (.there .here)
   replace h := h.cQ bz vJ hx
   refine oD (w := ⟨g, i, 0⟩) h (hxs.mono (by omega)) ?_
   clear h
   intro M h
   repeat (first|(refine aj h ?_;clear h;intro kb M h)|(refine aq h ?_;clear h;intro M h)|refine St.to h ?_|(apply Exists.intro;(repeat apply Exists.intro);refine And.intro rfl ?_)|refine au ?_|refine af ?_|refine ai ?_)
   rw [aS (by omega)]
   refine ⟨cases.length - (i + 1), by omega, i + 1, rfl, rfl, by omega, ?_⟩
   rw [e]
   exact (h.dw bz b1 vJ (by omega)).bT
  rw [if_neg hw] at e
  refine bN.2 ⟨fun hw => ?_, fun hw => ?_⟩
  ·rw [if_pos hw] at e
   repeat (first|(refine aj h ?_;clear h;intro kb M h)|(refine aq h ?_;clear h;intro M h)|refine St.to h ?_|(apply Exists.intro;(repeat apply Exists.intro);refine And.intro rfl ?_)|refine au ?_|refine af ?_|refine ai ?_)
   refine lK (hA.cons.cons.at h (i := q) (j := 0) vJ rfl (by simp [kX])) ?_
   repeat (first|(refine aj h ?_;clear h;intro kb M h)|(refine aq h ?_;clear h;intro M h)|refine St.to h ?_|(apply Exists.intro;(repeat apply Exists.intro);refine And.intro rfl ?_)|refine au ?_|refine af ?_|refine ai ?_)
   refine bn (hD.cons.cons.at h (i := q2) (j := 0) hv rfl (by simp [bI])) ?_
   replace h := h.pick (.there .here)
   replace h := h.cQ bz vJ hx
   refine oC (w := ⟨g, i, v⟩) h (hxs.mono (by omega)) ?_
   clear h
   intro M h
   repeat (first|(refine aj h ?_;clear h;intro kb M h)|(refine aq h ?_;clear h;intro M h)|refine St.to h ?_|(apply Exists.intro;(repeat apply Exists.intro);refine And.intro rfl ?_)|refine au ?_|refine af ?_|refine ai ?_)
   rw [aS (by omega)]
   refine ⟨cases.length - (i + 1), by omega, i + 1, rfl, rfl, by omega, ?_⟩
   rw [e]
   exact (h.dw bz b1 vJ (by omega)).bT
  ·rw [if_neg hw] at e
   rw [aS (by omega)]
   refine ⟨cases.length - (i + 1), by omega, i + 1, rfl, rfl, by omega, ?_⟩
   rw [e]
   exact h.mJ
 ·obtain rfl : i = cases.length := by omega
  exact k _ h
end
end Go.Proofs
namespace Go.Proofs
open Go.AF
structure dB where
 op : Int
 a : Int
 b : Int
 c : Int
 deriving DecidableEq
def dB.zero : dB := ⟨0, 0, 0, 0⟩
def wD : gW dB := ⟨4, fun x => [.int .i64 x.op, .int .i64 x.a, .int .i64 x.b, .int .i64 x.c], fun _ => rfl, fun w v hv => by
 simp only [List.mem_cons, List.not_mem_nil, or_false] at hv; obtain rfl | rfl | rfl | rfl := hv <;> rfl⟩
structure fM where
 fn : Int
 pc : Int
 r : List Int
 qh : Int
 deriving DecidableEq
def fM.bQ (f : fM) (q : Int) : Int := f.r.getD q.toNat 0
def fM.set (f : fM) (q v : Int) : fM := { f with r := (List.range 8).map fun i => if i = q.toNat then v else f.r.getD i 0 }
def fM.next (f : fM) : fM := { f with pc := f.pc + 1 }
def fM.begin (fn v : Int) : fM := ⟨fn, 0, [v, 0, 0, 0, 0, 0, 0, 0], 0⟩
def WB (f : fM) : List Value := [.int .i64 f.fn, .int .i64 f.pc, .int .i64 (f.r.getD 0 0), .int .i64 (f.r.getD 1 0), .int .i64 (f.r.getD 2 0), .int .i64 (f.r.getD 3 0), .int .i64 (f.r.getD 4 0), .int .i64 (f.r.getD 5 0), .int .i64 (f.r.getD 6 0), .int .i64 (f.r.getD 7 0), .int .i64 f.qh]
def jG : gW fM := ⟨11, WB, fun _ => rfl, fun w v hv => by
 simp only [WB, List.mem_cons, List.not_mem_nil, or_false] at hv
 obtain rfl | rfl | rfl | rfl | rfl | rfl | rfl | rfl | rfl | rfl | rfl := hv <;> rfl⟩
theorem WC {q : Int} (h0 : 0 ≤ q) (h8 : q < 8) : q = 0 ∨ q = 1 ∨ q = 2 ∨ q = 3 ∨ q = 4 ∨ q = 5 ∨ q = 6 ∨ q = 7 := by omega
theorem S2 {f : fM} {q : Int} (h0 : 0 ≤ q) (h8 : q < 8) : (jG.f f)[2 + q.toNat]? = some (.int .i64 (f.bQ q)) := by
 obtain rfl | rfl | rfl | rfl | rfl | rfl | rfl | rfl := WC h0 h8 <;> rfl
theorem Pg {f : fM} {q v : Int} (h0 : 0 ≤ q) (h8 : q < 8) : (jG.f f).set (2 + q.toNat) (.int .i64 v) = jG.f (f.set q v) := by
 obtain rfl | rfl | rfl | rfl | rfl | rfl | rfl | rfl := WC h0 h8 <;> rfl
theorem S3 {f : fM} {v : Int} : (jG.f f).set 1 (.int .i64 v) = jG.f { f with pc := v } := rfl
def fM.pure (f : fM) (x : dB) : fM :=
 if x.op = 0 then f
 else if x.op = 1 then f.set x.a x.b
 else if x.op = 2 then f.set x.a (f.bQ x.b)
 else if x.op = 3 then f.set x.a (IntKind.wrap .i64 (f.bQ x.b + f.bQ x.c))
 else if x.op = 4 then f.set x.a (IntKind.wrap .i64 (f.bQ x.b - f.bQ x.c))
 else if x.op = 5 then f.set x.a (IntKind.wrap .i64 (f.bQ x.b * f.bQ x.c))
 else if x.op = 6 then f.set x.a (if f.bQ x.b < f.bQ x.c then 1 else 0)
 else if x.op = 7 then { f with pc := x.a }
 else if f.bQ x.a ≠ 0 then { f with pc := x.b } else f
def bx (q : Int) : Prop := 0 ≤ q ∧ q < 8
instance (q : Int) : Decidable (bx q) := by unfold bx; infer_instance
def dB.kZ (x : dB) : Prop :=
 (x.op ∈ [1, 8] → bx x.a) ∧ (x.op = 2 → bx x.a ∧ bx x.b) ∧ (x.op ∈ [3, 4, 5, 6] → bx x.a ∧ bx x.b ∧ bx x.c)
instance (x : dB) : Decidable x.kZ := by unfold dB.kZ; infer_instance
structure gT where
 st : Int
 fs : List fM
 wt : dB
 deriving DecidableEq
structure Lk where
 owner : Int
 waits : List Int
 deriving DecidableEq
structure bq where
 t : Int
 seq : Int
 id : Int
 deriving DecidableEq
def tu : gW bq := ⟨3, fun x => [.int .u64 x.t, .int .u64 x.seq, .int .i64 x.id], fun _ => rfl, fun w v hv => by
 simp only [List.mem_cons, List.not_mem_nil, or_false] at hv; obtain rfl | rfl | rfl := hv <;> rfl⟩
structure cj where
 funcs : List (List dB)
 nY : List Int
 aU : Int
 cases : List pS
structure Wd where
 gs : List gT
 clock : Int
 aC : List aP
 aU : List Lk
 hl : List bq
 lQ : Int
 out : List Int
 end_ : Int
 code : Int
 ready : List Int
 deriving DecidableEq
def ae (x : Wd) (g : Int) : gT := x.gs.getD g.toNat ⟨0, [], .zero⟩
def Wd.bh (x : Wd) (g : Int) (y : gT) : Wd := { x with gs := x.gs.set g.toNat y }
def gT.top (y : gT) : fM := y.fs.getD (y.fs.length - 1) ⟨0, 0, [], 0⟩
def gT.bP (y : gT) (f : fM) : gT := { y with fs := y.fs.set (y.fs.length - 1) f }
def Wd.bg (x : Wd) (g q v : Int) : Wd := x.bh g ((ae x g).bP ((ae x g).top.set q v))
def Wd.dV (x : Wd) (g : Int) : Wd := { x.bh g { ae x g with st := 1 } with ready := x.ready ++ [g] }
def Wd.block (x : Wd) (g : Int) (i : dB) : Wd := x.bh g { ae x g with st := 2, wt := i }
def Wd.leave (x : Wd) (g : Int) : Wd := { x with aC := x.aC.map fun c => c.drop g }
def Wd.fE (x : Wd) (g k : Int) : Wd := (x.bg g (ae x g).wt.c k).leave g
def oE (p : cj) (k : Int) : pS := p.cases.getD k.toNat ⟨0, 0, 0⟩
def Wd.received (p : cj) (x : Wd) (v : Wt) (some : Int) : Wd :=
 let i := (ae x v.g).wt
 (if i.op = 16 then ((x.bg v.g (oE p (i.a + v.cs)).bQ v.v).fE v.g v.cs)
  else (x.bg v.g i.b v.v).bg v.g i.c some).dV v.g
def Wd.sent (x : Wd) (v : Wt) : Wd := (if (ae x v.g).wt.op = 16 then x.fE v.g v.cs else x).dV v.g
inductive Out (α : Type) where
 | on (a : α)
 | dx (code : Int) (x : Wd)
 | cz (l : List PanicEntry) (x : Wd)
def Wd.bX (x : Wd) (k : Int) (c : aP) : Wd := { x with aC := x.aC.set k.toNat c }
def Wd.put (p : cj) (x : Wd) (k v : Int) : Out (Wd × Bool) :=
 let s := (dk x.aC k).send v
 if s.2.2.2 = 10 then .dx (-1) (x.bX k s.1)
 else .on ((if s.2.2.1 then (x.bX k s.1).received p s.2.1 1 else x.bX k s.1), s.2.2.2 == 0)
def Wd.get (x : Wd) (k : Int) : Wd × Int × Int × Bool :=
 let s := (dk x.aC k).recv
 let y := if s.2.2.2.2.1 then (x.bX k s.1).sent s.2.2.2.1 else x.bX k s.1
 if s.2.2.1 then (y, s.2.1, 1, true) else (y, 0, 0, s.2.2.2.2.2 == 0)
def aW (x : Wd) (g : Int) : Prop := 0 ≤ g ∧ g < x.gs.length ∧ 0 < (ae x g).fs.length ∧ (ae x g).fs.length ≤ 1000
instance (x : Wd) (g : Int) : Decidable (aW x g) := by unfold aW; infer_instance
def oF (p : cj) (x : Wd) (v : Wt) : Prop := aW x v.g ∧
 if (ae x v.g).wt.op = 16 then 0 ≤ (ae x v.g).wt.a + v.cs ∧ (ae x v.g).wt.a + v.cs < p.cases.length ∧ p.cases.length ≤ 1000 ∧ bx (oE p ((ae x v.g).wt.a + v.cs)).bQ ∧ bx (ae x v.g).wt.c
 else bx (ae x v.g).wt.b ∧ bx (ae x v.g).wt.c
instance (p : cj) (x : Wd) (v : Wt) : Decidable (oF p x v) := by unfold oF; infer_instance
def vU (x : Wd) (v : Wt) : Prop := aW x v.g ∧ ((ae x v.g).wt.op = 16 → bx (ae x v.g).wt.c)
instance (x : Wd) (v : Wt) : Decidable (vU x v) := by unfold vU; infer_instance
def Wd.Sm (x : Wd) : Prop := (∀ c ∈ x.aC, c.Small 1000000) ∧ x.aC.length ≤ 1000 ∧ x.gs.length ≤ 1000 ∧ x.ready.length ≤ 1000000 ∧ x.out.length ≤ 1000000 ∧ (∀ l ∈ x.aU, l.waits.length ≤ 1000000) ∧ x.aU.length ≤ 1000 ∧ x.hl.length ≤ 1000000
instance (x : Wd) : Decidable x.Sm := by unfold Wd.Sm; infer_instance
theorem gh {x : Wd} {g : Int} {y : gT} (h0 : 0 ≤ g) (hg : g < x.gs.length) : ae (x.bh g y) g = y := by
 have : g.toNat < x.gs.length := by omega
 simp [ae, Wd.bh, this]
end Go.Proofs
namespace Go.Proofs
open Go.AF
set_option maxRecDepth 100000
variable {M : Mem} {K : Value → Mem → Prop} {Kp : List PanicEntry → Mem → Prop}
theorem rE {B0 : Option Addr} {m0 c0 : Nat} (h :
aM ((m0 : Int) == 0)
 (K (.pointer none) M)
 (((0 : Int) ≤ (IntKind.wrap .i64 ((m0 : Int) - 1))) ∧
 (((IntKind.wrap .i64 ((m0 : Int) - 1)) : Int) < (m0 : Int)) ∧
 aF B0 fun k1 k2 =>
 K (.pointer (some ⟨k1, (k2 + ((Int.toNat (IntKind.wrap .i64 ((m0 : Int) - 1))) * 11)), none⟩)) M)) :
 aa Tryz.prog 189 #[.slice B0 m0 c0] M K Kp := vw [] Tryz.func189 h
theorem nI {b0 o0 : Nat} {x1 : Int} (h :
aM (decide ((x1 : Int) < 0))
 (K (.int .i64 0) M)
 (az (Mem.ld M ⟨b0, (o0 + 4), none⟩) fun A1 k2 k3 =>
 aM (decide ((x1 : Int) ≥ ((k2 : Nat) : Int)))
  (K (.int .i64 0) M)
  (az (Mem.ld M ⟨b0, (o0 + 4), none⟩) fun A4 k5 k6 =>
  ((0 : Int) ≤ x1) ∧
  ((x1 : Int) < ((k5 : Nat) : Int)) ∧
  aF A4 fun k7 k8 =>
  b8 (Mem.ld M ⟨k7, (k8 + (Int.toNat x1)), none⟩) fun A9 =>
  aF A9 fun fm eT =>
  aH (Mem.ld M ⟨fm, eT, none⟩) .i64 fun iQ =>
  K (.int .i64 iQ) M))) :
 aa Tryz.prog 119 ([.pointer (some ⟨b0, o0, none⟩), .int .i64 x1] : List Value).toArray M K Kp :=
 b6 (C := Cx) good [] Tryz.func119 (by kernel_rfl) (by kernel_rfl) h
theorem rF {b0 o0 : Nat} (h :
rS M b0 (o0 + 4) fun A1 k2 k3 =>
K (iV (k2 : Int)) M) :
 aa Tryz.prog 73 #[.pointer (some ⟨b0, o0, none⟩)] M K Kp := vw [] Tryz.func73 h
theorem rG {b0 o0 : Nat} (h :
rI M b0 (o0 + 11) fun n1 =>
rI M b0 (o0 + 12) fun n2 =>
K (.tuple #[(iV n1), (iV n2)]) M) :
 aa Tryz.prog 28 #[.pointer (some ⟨b0, o0, none⟩)] M K Kp := vw [(1, .bQ [0, 1, 3, 7, 0, 16, 48, 112, 15, 511] (sy [0, 1, 2, 4, 5, 6, 3, 8, 7, 9] .done))] Tryz.func28 h
theorem qi {b0 o0 : Nat} (h :
aH (Mem.ld M ⟨b0, (o0 + 11), none⟩) .i64 fun n1 =>
aM (n1 != 0)
 (K (.slice none 0 0) M)
 (aH (Mem.ld M ⟨b0, (o0 + 5), none⟩) .u64 fun n2 =>
 aI M ⟨b0, (o0 + 5), none⟩ (.int .u64 (IntKind.wrap .u64 (n2 + 1))) fun M3 =>
 aI M3 ⟨b0, (o0 + 13), none⟩ (.slice none 0 0) fun M4 =>
 aH (Mem.ld M4 ⟨b0, (o0 + 5), none⟩) .u64 fun n5 =>
 aa Tryz.prog 157 #[(.pointer (some ⟨b0, (o0 + 8), none⟩)), (.int .u64 n5)] M4 (fun v6 M7 =>
 az (some v6) fun A8 k9 fm =>
 ∃ Rq : Nat → List Value → Mem → Prop, (∃ gx : Nat, Rq gx [(.int .i64 0)] M7) ∧
 ∀ c7 : Nat, ∀ ZD : Nat → Value, ∀ jm : Int, ∀ fh : Mem, (Rq c7 [(.int .i64 jm)] fh) → aM (decide ((jm : Int) < ((k9 : Nat) : Int)))
  (((0 : Int) ≤ jm) ∧
  ((jm : Int) < ((k9 : Nat) : Int)) ∧
  aF A8 fun eK fZ =>
  aH (Mem.ld fh ⟨eK, (fZ + ((Int.toNat jm) * 3)), none⟩) .u64 fun wY =>
  aH (Mem.ld fh ⟨eK, ((fZ + ((Int.toNat jm) * 3)) + 1), none⟩) .u64 fun iD =>
  aH (Mem.ld fh ⟨eK, ((fZ + ((Int.toNat jm) * 3)) + 2), none⟩) .i64 fun mO =>
  aX fh (.cells #[(.int .u64 0), (.int .u64 0), (.int .i64 0)] 203 (0, 0)) fun gU j5 =>
  aI j5 ⟨gU, 0, none⟩ (.int .u64 wY) fun jn =>
  aI jn ⟨gU, (0 + 1), none⟩ (.int .u64 iD) fun Hv =>
  aI Hv ⟨gU, (0 + 2), none⟩ (.int .i64 mO) fun uu =>
  aH (Mem.ld uu ⟨gU, (0 + 2), none⟩) .i64 fun mV =>
  aa Tryz.prog 158 #[(.pointer (some ⟨b0, o0, none⟩)), (.int .i64 mV)] uu (fun SZ mP =>
  (SZ = (.tuple #[])) ∧
  ∃ mQ : Nat, (mQ < c7) ∧
  Rq mQ [(.int .i64 (IntKind.wrap .i64 (jm + 1)))] mP) Kp)
  (az (Mem.ld fh ⟨b0, (o0 + 13), none⟩) fun Ph ur qR =>
  K (.slice Ph ur qR) fh)) Kp)) :
 aa Tryz.prog 120 ([.pointer (some ⟨b0, o0, none⟩)] : List Value).toArray M K Kp :=
 b6 (C := Cx) good [(5, .bQ [0, 1, 3, 0, 8, 24, 56, 127, 255, 0] (.step 0 (.step 1 (.step 2 (.step 3 (.step 4 (.step 5 (.step 9 (.step 6 (.step 7 (.step 8 .done))))))))))), (2000000, .loop [(29, .c (.int .i64))])] Tryz.func120 (by kernel_rfl) (by kernel_rfl) h
theorem xU {x0 : Int} {x1 : Int} (h :
aX M (cl [(iV x0), (iV 0), (iV x1), (iV 0), (iV 0), (iV 0), (iV 0), (iV 0), (iV 0), (iV 0), (iV 0)] 275) fun k1 M2 =>
K (.slice (some ⟨k1, 0, none⟩) 1 1) M2) :
 aa Tryz.prog 112 #[.int .i64 x0, .int .i64 x1] M K Kp := vw [] Tryz.func112 h
theorem B4  (h :
aX M (cl [(iV (-1)), (.slice none 0 0)] 307) fun k1 M2 =>
K (.pointer (some ⟨k1, 0, none⟩)) M2) :
 aa Tryz.prog 114 #[] M K Kp := vw [] Tryz.func114 h
theorem tv {b0 o0 : Nat} {x1 : Int} (h :
∃ I1 : Nat → List Value → Mem → Prop, (∃ k2 : Nat, I1 k2 [(.slice none 0 0)] M) ∧
∀ k3 : Nat, ∀ Rr : Nat → Value, ∀ A5 : Option Addr, ∀ k6 : Nat, ∀ k7 : Nat, ∀ M8 : Mem, (I1 k3 [(.slice A5 k6 k7)] M8) → az (Mem.ld M8 ⟨b0, o0, none⟩) fun A9 fm eT =>
aM (decide ((((fm : Nat) : Int) : Int) > 0))
 (az (Mem.ld M8 ⟨b0, o0, none⟩) fun zp c7 jE =>
 ((0 : Int) ≤ 0) ∧
 ((0 : Int) < ((c7 : Nat) : Int)) ∧
 aF zp fun gX gA =>
 aH (Mem.ld M8 ⟨gX, (gA + 0), none⟩) .u64 fun lA =>
 aM (decide ((lA : Int) ≤ x1))
  (aa Tryz.prog 117 #[(.pointer (some ⟨b0, o0, none⟩)), (.int .i64 0)] M8 (fun FA jN =>
  ∃ iD : Int, ∃ mO : Int, ∃ qP : Int, (FA = (.agg #[(.int .u64 iD), (.int .u64 mO), (.int .i64 qP)])) ∧
  aX jN (.cells #[(.int .u64 iD), (.int .u64 mO), (.int .i64 qP)] 203 (0, 0)) fun jo jn =>
  aN Tryz.prog (Go.Builtin.append_ #[46, 46] 46 #[(.slice A5 k6 k7), (.slice (some ⟨jo, 0, none⟩) 1 1)]) jn (fun Pj uu =>
  az (some Pj) fun S4 qT gY =>
  ∃ mQ : Nat, (mQ < k3) ∧
  I1 mQ [(.slice S4 qT gY)] uu) Kp) Kp)
  (K (.slice A5 k6 k7) M8))
 (K (.slice A5 k6 k7) M8)) :
 aa Tryz.prog 157 ([.pointer (some ⟨b0, o0, none⟩), .int .u64 x1] : List Value).toArray M K Kp :=
 b6 (C := Cx) good [(2000000, .loop [(5, .c .sl)])] Tryz.func157 (by kernel_rfl) (by kernel_rfl) h
theorem qj {b0 o0 : Nat} {x1 : Int} (h :
rS M b0 (o0 + 4) fun A1 k2 k3 =>
((0 : Int) ≤ x1) ∧
((x1 : Int) < k2) ∧
aF A1 fun k4 k5 =>
rP M k4 (k5 + (Int.toNat x1)) fun A6 =>
aF A6 fun k7 k8 =>
sT M k7 k8 (iV 1) fun M9 =>
rS M9 b0 (o0 + 13) fun EZ eT gx =>
aX M9 (cl [(iV x1)] 3) fun c7 mh =>
aA 36 EZ eT gx (some ⟨c7, 0, none⟩) 1 1 mh (fun DH fh =>
az (some DH) fun Oo fZ iz =>
sT fh b0 (o0 + 13) (.slice Oo fZ iz) fun rA =>
K (.tuple #[]) rA) Kp) :
 aa Tryz.prog 158 #[.pointer (some ⟨b0, o0, none⟩), .int .i64 x1] M K Kp := vw [] Tryz.func158 h
theorem qk {b0 o0 : Nat} {cL : Int} {cN : Int} {cO : Int} {fq : Int} (h :
aX M (cl [(iV cL), (iV cN), (iV cO), (iV fq)] 27) fun k1 M2 =>
rI M2 k1 0 fun n3 =>
aa Tryz.prog 203 #[] M2 (fun v4 M5 =>
eI M5 k1 0 n3 ∧
aN Tryz.prog (Go.Instr.lookup 361 v4 (iV n3) true) M5 (fun v6 M7 =>
∃ v8 : Value, ∃ t9 : Bool, (v6 = (.tuple #[v8, (.bool t9)])) ∧
eI M7 k1 0 n3 ∧
aM t9
 (rI M7 b0 (o0 + 1) fun iS =>
 sT M7 b0 (o0 + 1) (iV (IntKind.wrap .i64 (iS + 1))) fun jO =>
 iB jO k1 0 fun iQ kY pR jm =>
 g6 Cx v8 [(.pointer (some ⟨b0, o0, none⟩)), (.agg #[(iV iQ), (iV kY), (iV pR), (iV jm)])] jO (fun Mc mo =>
 (Mc = (.tuple #[])) ∧
 K (.bool t9) mo) Kp)
 (K (.bool t9) M7)) Kp) Kp) :
 aa Tryz.prog 190 #[.pointer (some ⟨b0, o0, none⟩), .agg #[.int .i64 cL, .int .i64 cN, .int .i64 cO, .int .i64 fq]] M K Kp := vw [(1, .bQ [0, 0, 2, 7, 15, 31, 31, 63, 255] (sy [1] (.eN 2 (sy [0, 3, 4, 5, 6, 7, 8] .done))))] Tryz.func190 h
theorem nJ {b0 o0 : Nat} {x1 : Int} {b2 o2 : Nat} {dW : Int} {dX : Int} {dY : Int} {dZ : Int} (h :
aX M (cl [(iV dW), (iV dX), (iV dY), (iV dZ)] 27) fun k1 M2 =>
iB M2 k1 0 fun n3 n4 n5 n6 =>
aa Tryz.prog 204 #[(.pointer (some ⟨b0, o0, none⟩)), (.agg #[(iV n3), (iV n4), (iV n5), (iV n6)])] M2 (fun v7 M8 =>
az (some v7) fun A9 fm eT =>
rS M8 b0 (o0 + 6) fun zp c7 jE =>
aa Tryz.prog 205 #[(.slice A9 fm eT), (.slice zp c7 jE)] M8 (fun DH fh =>
az (some DH) fun Oo fZ iz =>
aM ((fZ : Int) == 0)
 (rI fh b2 (o2 + 1) fun iD =>
 sT fh b2 (o2 + 1) (iV (IntKind.wrap .i64 (iD + 1))) fun wB =>
 aa Tryz.prog 206 #[(.slice A9 fm eT)] wB (fun Js j5 =>
 ∃ CY : Int, ∃ t25 : Bool, (Js = (.tuple #[(iV CY), (.bool t25)])) ∧
 aM t25
 (rI j5 k1 3 fun mw =>
 (0 ≤ mw) ∧
 (mw < 8) ∧
 sT j5 b2 ((o2 + 2) + (Int.toNat mw)) (iV CY) fun wZ =>
 K (.tuple #[]) wZ)
 (((0 : Int) ≤ 8) ∧
 ((8 : Int) ≤ 8) ∧
 ((0 : Int) ≤ 8) ∧
 ((8 : Int) ≤ 8) ∧
 ((0 : Int) ≤ 0) ∧
 ((0 : Int) ≤ 8) ∧
 rS j5 b0 (o0 + 6) fun SY gY mQ =>
 aa Tryz.prog 207 #[(iV x1), (.slice A9 fm eT), (.slice (lC (some ⟨b2, (o2 + 2), none⟩) 0 8 1) 8 8), (.slice SY gY mQ)] j5 (fun SR qQ =>
 (SR = (.tuple #[])) ∧
 iB qQ k1 0 fun O8 Pk KD zM =>
 aa Tryz.prog 208 #[(.pointer (some ⟨b0, o0, none⟩)), (iV x1), (.agg #[(iV O8), (iV Pk), (iV KD), (iV zM)])] qQ (fun v37 mj =>
 (v37 = (.tuple #[])) ∧
 K (.tuple #[]) mj) Kp) Kp)) Kp)
 (dD (Mem.ld fh ⟨b0, (o0 + 14), none⟩) fun v39 =>
 g6 Cx v39 [(iV 3), (iV (fZ : Int))] fh (fun Md AK =>
 aH (some Md) .i64 fun Hy =>
 (0 ≤ Hy) ∧
 (Hy < fZ) ∧
 aF Oo fun AH Pc =>
 rI AK AH (Pc + (Int.toNat Hy)) fun FO =>
 rI AK b2 (o2 + 1) fun FP =>
 sT AK b2 (o2 + 1) (iV (IntKind.wrap .i64 (FP + 1))) fun wE =>
 (0 ≤ FO) ∧
 (FO < fm) ∧
 aF A9 fun Yr Hz =>
 oz wE Yr (Hz + ((Int.toNat FO) * 3)) fun S5 Me ZE =>
 aX wE pN fun pQ Pb =>
 Lw Pb pQ (iV S5) (iV Me) (iV ZE) fun LQ =>
 rI LQ pQ 0 fun Hs =>
 aM (Hs == 1)
 (rI LQ pQ 1 fun vQ =>
 rI LQ pQ 2 fun SQ =>
 (0 ≤ SQ) ∧
 (SQ < 8) ∧
 rI LQ b2 ((o2 + 2) + (Int.toNat SQ)) fun LU =>
 aa Tryz.prog 209 #[(.pointer (some ⟨b0, o0, none⟩)), (iV vQ), (iV LU)] LQ (fun S6 BT =>
 cK (some S6) fun t64 =>
 rI BT k1 3 fun BU =>
 (0 ≤ BU) ∧
 (BU < 8) ∧
 sT BT b2 ((o2 + 2) + (Int.toNat BU)) (iV FO) fun Vq =>
 K (.tuple #[]) Vq) Kp)
 (rI LQ pQ 1 fun ZF =>
 rI LQ pQ 2 fun Pm =>
 aa Tryz.prog 210 #[(.pointer (some ⟨b0, o0, none⟩)), (iV ZF)] LQ (fun ZG HA =>
 ∃ KE WD : Int, ∃ t73 : Bool, (ZG = (.tuple #[(iV KE), (iV WD), (.bool t73)])) ∧
 eI HA pQ 2 Pm ∧
 (0 ≤ Pm) ∧
 (Pm < 8) ∧
 sT HA b2 ((o2 + 2) + (Int.toNat Pm)) (iV KE) fun DL =>
 eI DL pQ 2 Pm ∧
 rI DL k1 3 fun FD =>
 (0 ≤ FD) ∧
 (FD < 8) ∧
 sT DL b2 ((o2 + 2) + (Int.toNat FD)) (iV FO) fun ZH =>
 K (.tuple #[]) ZH) Kp)) Kp)) Kp) Kp) :
 aa Tryz.prog 191 #[.pointer (some ⟨b0, o0, none⟩), .int .i64 x1, .pointer (some ⟨b2, o2, none⟩), .agg #[.int .i64 dW, .int .i64 dX, .int .i64 dY, .int .i64 dZ]] M K Kp := vw [(7, .bQ [0, 0, 2, 0, 1, 17, 63, 127] (sy [0, 1, 3, 4, 5, 2, 6, 7] .done)), (8, .bQ [0, 0, 0, 4, 12, 28, 0, 64, 192, 448, 1023] (sy [0, 1, 2, 3, 4, 5, 6, 7, 8, 9, 10] .done)), (14, .bQ [0, 0, 2, 0, 0, 16, 8, 72, 248, 504, 1023] (sy [0, 1, 3, 4, 6, 7, 2, 5, 8, 9, 10] .done)), (15, .bQ [0, 0, 2, 0, 0, 16, 56, 120, 248, 248, 248, 1, 2049, 6655, 14847] (sy [0, 1, 3, 4, 11, 12, 5] (.eN 2 (sy [6, 7, 8, 9, 10, 13, 14] .done)))), (16, .bQ [0, 0, 2, 0, 1, 17, 63, 127] (sy [0, 1, 3, 4, 5, 2, 6, 7] .done))] Tryz.func191 h
theorem ql {b0 o0 : Nat} {x1 : Int} {b2 o2 : Nat} {dW : Int} {dX : Int} {dY : Int} {dZ : Int} (h :
aX M (cl [(iV dW), (iV dX), (iV dY), (iV dZ)] 27) fun k1 M2 =>
dD (Mem.ld M2 ⟨b0, (o0 + 14), none⟩) fun v3 =>
rI M2 k1 2 fun n4 =>
g6 Cx v3 [(iV 4), (iV n4)] M2 (fun v5 M6 =>
aH (some v5) .i64 fun n7 =>
rI M6 b2 (o2 + 1) fun n8 =>
sT M6 b2 (o2 + 1) (iV (IntKind.wrap .i64 (n8 + 1))) fun M9 =>
rI M9 k1 1 fun iS =>
(0 ≤ iS) ∧
(iS < 8) ∧
sT M9 b2 ((o2 + 2) + (Int.toNat iS)) (iV n7) fun jO =>
K (.tuple #[]) jO) Kp) :
 aa Tryz.prog 192 #[.pointer (some ⟨b0, o0, none⟩), .int .i64 x1, .pointer (some ⟨b2, o2, none⟩), .agg #[.int .i64 dW, .int .i64 dX, .int .i64 dY, .int .i64 dZ]] M K Kp := vw [(1, .bQ [0, 1, 3, 7, 0, 16, 63, 127] (sy [0, 1, 2, 4, 3, 5, 6, 7] .done)), (3, .bQ [0, 0, 2, 0, 1, 17, 63, 127] (sy [0, 1, 3, 4, 5, 2, 6, 7] .done))] Tryz.func192 h
theorem xV  (h :
aX M (.map #[] 0) fun k1 M2 =>
bl Tryz.prog (Go.Instr.mapUpdate 345 (.map (some k1)) (iV 9) (.func (.func 211) #[] #[])) M2 (fun M3 =>
bl Tryz.prog (Go.Instr.mapUpdate 345 (.map (some k1)) (iV 10) (.func (.func 212) #[] #[])) M3 (fun M4 =>
bl Tryz.prog (Go.Instr.mapUpdate 345 (.map (some k1)) (iV 11) (.func (.func 213) #[] #[])) M4 (fun M5 =>
bl Tryz.prog (Go.Instr.mapUpdate 345 (.map (some k1)) (iV 12) (.func (.func 214) #[] #[])) M5 (fun M6 =>
bl Tryz.prog (Go.Instr.mapUpdate 345 (.map (some k1)) (iV 13) (.func (.func 215) #[] #[])) M6 (fun M7 =>
bl Tryz.prog (Go.Instr.mapUpdate 345 (.map (some k1)) (iV 14) (.func (.func 216) #[] #[])) M7 (fun M8 =>
bl Tryz.prog (Go.Instr.mapUpdate 345 (.map (some k1)) (iV 15) (.func (.func 217) #[] #[])) M8 (fun M9 =>
bl Tryz.prog (Go.Instr.mapUpdate 345 (.map (some k1)) (iV 17) (.func (.func 218) #[] #[])) M9 (fun gF =>
bl Tryz.prog (Go.Instr.mapUpdate 345 (.map (some k1)) (iV 18) (.func (.func 219) #[] #[])) gF (fun jO =>
bl Tryz.prog (Go.Instr.mapUpdate 345 (.map (some k1)) (iV 19) (.func (.func 220) #[] #[])) jO (fun s9 =>
bl Tryz.prog (Go.Instr.mapUpdate 345 (.map (some k1)) (iV 20) (.func (.func 221) #[] #[])) s9 (fun kj =>
bl Tryz.prog (Go.Instr.mapUpdate 345 (.map (some k1)) (iV 22) (.func (.func 222) #[] #[])) kj (fun mh =>
K (.map (some k1)) mh) Kp) Kp) Kp) Kp) Kp) Kp) Kp) Kp) Kp) Kp) Kp) Kp) :
 aa Tryz.prog 193 #[] M K Kp := vw [] Tryz.func193 h
theorem qm {b0 o0 : Nat} {x1 : Int} (h :
aX M (.cells #[(.int .u64 0), (.int .u64 0), (.int .i64 0)] 203 (0, 0)) fun k1 M2 =>
az (Mem.ld M2 ⟨b0, o0, none⟩) fun A3 k4 k5 =>
((0 : Int) ≤ x1) ∧
((x1 : Int) < ((k4 : Nat) : Int)) ∧
aF A3 fun k6 k7 =>
aH (Mem.ld M2 ⟨k6, (k7 + ((Int.toNat x1) * 3)), none⟩) .u64 fun n8 =>
aH (Mem.ld M2 ⟨k6, ((k7 + ((Int.toNat x1) * 3)) + 1), none⟩) .u64 fun n9 =>
aH (Mem.ld M2 ⟨k6, ((k7 + ((Int.toNat x1) * 3)) + 2), none⟩) .i64 fun iS =>
aX M2 (.cells #[(.int .u64 0), (.int .u64 0), (.int .i64 0)] 203 (0, 0)) fun eT s9 =>
aI s9 ⟨eT, 0, none⟩ (.int .u64 n8) fun kj =>
aI kj ⟨eT, (0 + 1), none⟩ (.int .u64 n9) fun mh =>
aI mh ⟨eT, (0 + 2), none⟩ (.int .i64 iS) fun qU =>
az (Mem.ld qU ⟨b0, o0, none⟩) fun Vr eK fZ =>
aa Tryz.prog 154 #[(.pointer (some ⟨b0, o0, none⟩)), (.int .i64 x1), (.int .i64 (IntKind.wrap .i64 (((eK : Nat) : Int) - 1)))] qU (fun Pn rA =>
(Pn = (.tuple #[])) ∧
az (Mem.ld rA ⟨b0, o0, none⟩) fun BY gU jo =>
((0 : Int) ≤ ((jo : Nat) : Int)) ∧
((((jo : Nat) : Int) : Int) ≤ ((jo : Nat) : Int)) ∧
((0 : Int) ≤ (IntKind.wrap .i64 (((eK : Nat) : Int) - 1))) ∧
(((IntKind.wrap .i64 (((eK : Nat) : Int) - 1)) : Int) ≤ ((jo : Nat) : Int)) ∧
((0 : Int) ≤ 0) ∧
((0 : Int) ≤ (IntKind.wrap .i64 (((eK : Nat) : Int) - 1))) ∧
aI rA ⟨b0, o0, none⟩ (.slice (lC BY 0 (Int.toNat ((jo : Nat) : Int)) 3) ((Int.toNat (IntKind.wrap .i64 (((eK : Nat) : Int) - 1))) - 0) ((Int.toNat ((jo : Nat) : Int)) - 0)) fun jn =>
aM (decide ((x1 : Int) < (IntKind.wrap .i64 (((eK : Nat) : Int) - 1))))
 (aa Tryz.prog 155 #[(.pointer (some ⟨b0, o0, none⟩)), (.int .i64 x1)] jn (fun Pj uu =>
 (Pj = (.tuple #[])) ∧
 aa Tryz.prog 156 #[(.pointer (some ⟨b0, o0, none⟩)), (.int .i64 x1)] uu (fun Pf uR =>
 (Pf = (.tuple #[])) ∧
 aH (Mem.ld uR ⟨eT, 0, none⟩) .u64 fun DG =>
 aH (Mem.ld uR ⟨eT, (0 + 1), none⟩) .u64 fun DM =>
 aH (Mem.ld uR ⟨eT, (0 + 2), none⟩) .i64 fun td =>
 aI uR ⟨k1, 0, none⟩ (.int .u64 DG) fun qQ =>
 aI qQ ⟨k1, (0 + 1), none⟩ (.int .u64 DM) fun zq =>
 aI zq ⟨k1, (0 + 2), none⟩ (.int .i64 td) fun qS =>
 aH (Mem.ld qS ⟨k1, 0, none⟩) .u64 fun KD =>
 aH (Mem.ld qS ⟨k1, (0 + 1), none⟩) .u64 fun zM =>
 aH (Mem.ld qS ⟨k1, (0 + 2), none⟩) .i64 fun O9 =>
 K (.agg #[(.int .u64 KD), (.int .u64 zM), (.int .i64 O9)]) qS) Kp) Kp)
 (aH (Mem.ld jn ⟨eT, 0, none⟩) .u64 fun Jm =>
 aH (Mem.ld jn ⟨eT, (0 + 1), none⟩) .u64 fun LM =>
 aH (Mem.ld jn ⟨eT, (0 + 2), none⟩) .i64 fun Po =>
 aI jn ⟨k1, 0, none⟩ (.int .u64 Jm) fun AK =>
 aI AK ⟨k1, (0 + 1), none⟩ (.int .u64 LM) fun Pp =>
 aI Pp ⟨k1, (0 + 2), none⟩ (.int .i64 Po) fun uv =>
 aH (Mem.ld uv ⟨k1, 0, none⟩) .u64 fun B5 =>
 aH (Mem.ld uv ⟨k1, (0 + 1), none⟩) .u64 fun FO =>
 aH (Mem.ld uv ⟨k1, (0 + 2), none⟩) .i64 fun FP =>
 K (.agg #[(.int .u64 B5), (.int .u64 FO), (.int .i64 FP)]) uv)) Kp) :
 aa Tryz.prog 117 ([.pointer (some ⟨b0, o0, none⟩), .int .i64 x1] : List Value).toArray M K Kp :=
 b6 (C := Cx) good [] Tryz.func117 (by kernel_rfl) (by kernel_rfl) h
theorem xX  (h :
aX M (.map #[] 0) fun k1 M2 =>
bl Tryz.prog (Go.Instr.mapUpdate 361 (.map (some k1)) (iV 0) (.func (.func 225) #[] #[])) M2 (fun M3 =>
bl Tryz.prog (Go.Instr.mapUpdate 361 (.map (some k1)) (iV 1) (.func (.func 226) #[] #[])) M3 (fun M4 =>
bl Tryz.prog (Go.Instr.mapUpdate 361 (.map (some k1)) (iV 2) (.func (.func 227) #[] #[])) M4 (fun M5 =>
bl Tryz.prog (Go.Instr.mapUpdate 361 (.map (some k1)) (iV 3) (.func (.func 228) #[] #[])) M5 (fun M6 =>
bl Tryz.prog (Go.Instr.mapUpdate 361 (.map (some k1)) (iV 4) (.func (.func 229) #[] #[])) M6 (fun M7 =>
bl Tryz.prog (Go.Instr.mapUpdate 361 (.map (some k1)) (iV 5) (.func (.func 230) #[] #[])) M7 (fun M8 =>
bl Tryz.prog (Go.Instr.mapUpdate 361 (.map (some k1)) (iV 6) (.func (.func 231) #[] #[])) M8 (fun M9 =>
bl Tryz.prog (Go.Instr.mapUpdate 361 (.map (some k1)) (iV 7) (.func (.func 232) #[] #[])) M9 (fun gF =>
bl Tryz.prog (Go.Instr.mapUpdate 361 (.map (some k1)) (iV 8) (.func (.func 233) #[] #[])) gF (fun jO =>
K (.map (some k1)) jO) Kp) Kp) Kp) Kp) Kp) Kp) Kp) Kp) Kp) :
 aa Tryz.prog 203 #[] M K Kp := vw [] Tryz.func203 h
theorem oG {b0 o0 : Nat} {cL : Int} {cN : Int} {cO : Int} {fq : Int} (h :
aX M (cl [(iV cL), (iV cN), (iV cO), (iV fq)] 27) fun k1 M2 =>
rS M2 b0 (o0 + 3) fun A3 k4 k5 =>
rI M2 k1 1 fun n6 =>
rI M2 k1 1 fun n7 =>
rI M2 k1 2 fun n8 =>
((0 : Int) ≤ k5) ∧
((k5 : Int) ≤ k5) ∧
((0 : Int) ≤ (IntKind.wrap .i64 (n7 + n8))) ∧
(((IntKind.wrap .i64 (n7 + n8)) : Int) ≤ (k5 : Int)) ∧
(0 ≤ n6) ∧
((n6 : Int) ≤ (IntKind.wrap .i64 (n7 + n8))) ∧
K (.slice (lC A3 (Int.toNat n6) (Int.toNat (k5 : Int)) 3) ((Int.toNat (IntKind.wrap .i64 (n7 + n8))) - (Int.toNat n6)) ((Int.toNat (k5 : Int)) - (Int.toNat n6))) M2) :
 aa Tryz.prog 204 #[.pointer (some ⟨b0, o0, none⟩), .agg #[.int .i64 cL, .int .i64 cN, .int .i64 cO, .int .i64 fq]] M K Kp := vw [(1, .bQ [0, 1, 3, 7, 15, 0, 32, 0, 128, 0, 512, 1920, 4095, 8191] (sy [0, 1, 2, 3, 5, 7, 9, 4, 6, 8, 10, 11, 12, 13] .done))] Tryz.func204 h
theorem oH {b0 o0 : Nat} {x1 : Int} {WE : Int} {WG : Int} {WH : Int} {WI : Int} (h :
aX M (cl [(iV WE), (iV WG), (iV WH), (iV WI)] 27) fun k1 M2 =>
rS M2 b0 (o0 + 4) fun A3 k4 k5 =>
((0 : Int) ≤ x1) ∧
((x1 : Int) < k4) ∧
aF A3 fun k6 k7 =>
rP M2 k6 (k7 + (Int.toNat x1)) fun A8 =>
rS M2 b0 (o0 + 4) fun A9 fm eT =>
((0 : Int) ≤ x1) ∧
((x1 : Int) < fm) ∧
aF A9 fun gx c7 =>
rP M2 gx (c7 + (Int.toNat x1)) fun mq =>
aF A8 fun gX gA =>
iB M2 k1 0 fun lA kf wY iD =>
sT M2 gX gA (iV 2) fun wB =>
((Mem.iH wB ⟨k1, 0, none⟩ 0 4) = some [(iV lA), (iV kf), (iV wY), (iV iD)]) ∧
aF mq fun gU jo =>
sT wB gU (jo + 2) (iV lA) fun jn =>
sT jn gU ((jo + 2) + 1) (iV kf) fun Hv =>
sT Hv gU ((jo + 2) + 2) (iV wY) fun uu =>
sT uu gU ((jo + 2) + 3) (iV iD) fun wZ =>
((Mem.iH wZ ⟨k1, 0, none⟩ 0 4) = some [(iV lA), (iV kf), (iV wY), (iV iD)]) ∧
K (.tuple #[]) wZ) :
 aa Tryz.prog 208 #[.pointer (some ⟨b0, o0, none⟩), .int .i64 x1, .agg #[.int .i64 WE, .int .i64 WG, .int .i64 WH, .int .i64 WI]] M K Kp := vw [(1, .bQ [0, 1, 3, 7, 0, 31, 63, 0, 128, 384, 896, 0, 3968, 8064, 0, 16383, 49151, 114687, 262143, 524287, 1048575] (sy [0, 1, 2, 4, 7, 8, 9, 11, 3, 5, 6, 10, 12, 13, 15, 16] (.eN 14 (sy [17, 18, 19, 20] .done))))] Tryz.func208 h
theorem rH {b0 o0 : Nat} {x1 : Int} {x2 : Int} (h :
rS M b0 (o0 + 6) fun A1 k2 k3 =>
((0 : Int) ≤ x1) ∧
((x1 : Int) < k2) ∧
aF A1 fun k4 k5 =>
rP M k4 (k5 + (Int.toNat x1)) fun A6 =>
aa Tryz.prog 237 #[(.pointer A6), (iV x2)] M (fun v7 M8 =>
∃ n9 iS gG : Int, ∃ t12 : Bool, ∃ kY : Int, (v7 = (.tuple #[(.agg #[(iV n9), (iV iS), (iV gG)]), (.bool t12), (iV kY)])) ∧
aX M8 jM fun jE qU =>
Lw qU jE (iV n9) (iV iS) (iV gG) fun qg =>
aM (kY == 10)
 (Kp [{ v := (.iface 340 (iV (-1))), recovered := false }] qg)
 (aM t12
 (rI qg jE 0 fun wY =>
 rI qg jE 1 fun iD =>
 rI qg jE 2 fun mO =>
 aa Tryz.prog 238 #[(.pointer (some ⟨b0, o0, none⟩)), (.agg #[(iV wY), (iV iD), (iV mO)]), (iV 1)] qg (fun Js j5 =>
 (Js = (.tuple #[])) ∧
 K (.bool (kY == 0)) j5) Kp)
 (K (.bool (kY == 0)) qg))) Kp) :
 aa Tryz.prog 209 #[.pointer (some ⟨b0, o0, none⟩), .int .i64 x1, .int .i64 x2] M K Kp := vw [] Tryz.func209 h
theorem rJ {b0 o0 : Nat} {x1 : Int} (h :
rS M b0 (o0 + 6) fun A1 k2 k3 =>
((0 : Int) ≤ x1) ∧
((x1 : Int) < k2) ∧
aF A1 fun k4 k5 =>
rP M k4 (k5 + (Int.toNat x1)) fun A6 =>
aa Tryz.prog 239 #[(.pointer A6)] M (fun v7 M8 =>
∃ n9 : Int, ∃ t10 : Bool, ∃ gG iQ kY : Int, ∃ t14 : Bool, ∃ jm : Int, (v7 = (.tuple #[(.agg #[(iV n9), (.bool t10), (iV gG), (iV iQ), (iV kY), (.bool t14)]), (iV jm)])) ∧
aX M8 mK fun gA mo =>
Ym mo gA (iV n9) (.bool t10) (iV gG) (iV iQ) (iV kY) (.bool t14) fun j5 =>
rB j5 gA 5 fun t24 =>
aM t24
 (rI j5 gA 2 fun mT =>
 rI j5 gA (2 + 1) fun mw =>
 rI j5 gA (2 + 2) fun mV =>
 aa Tryz.prog 240 #[(.pointer (some ⟨b0, o0, none⟩)), (.agg #[(iV mT), (iV mw), (iV mV)])] j5 (fun SZ mP =>
 (SZ = (.tuple #[])) ∧
 rB mP gA 1 fun t30 =>
 aM t30
 (rI mP gA 0 fun td =>
 K (.tuple #[(iV td), (iV 1), (.bool true)]) mP)
 (K (.tuple #[(iV 0), (iV 0), (.bool (jm == 0))]) mP)) Kp)
 (rB j5 gA 1 fun t32 =>
 aM t32
 (rI j5 gA 0 fun O8 =>
 K (.tuple #[(iV O8), (iV 1), (.bool true)]) j5)
 (K (.tuple #[(iV 0), (iV 0), (.bool (jm == 0))]) j5))) Kp) :
 aa Tryz.prog 210 #[.pointer (some ⟨b0, o0, none⟩), .int .i64 x1] M K Kp := vw [] Tryz.func210 h
theorem qn {b0 o0 : Nat} {x1 : Int} {b2 o2 : Nat} {dW : Int} {dX : Int} {dY : Int} {dZ : Int} (h :
aX M (cl [(iV dW), (iV dX), (iV dY), (iV dZ)] 27) fun k1 M2 =>
rS M2 b0 (o0 + 4) fun A3 k4 k5 =>
((0 : Int) ≤ x1) ∧
((x1 : Int) < k4) ∧
aF A3 fun k6 k7 =>
rP M2 k6 (k7 + (Int.toNat x1)) fun A8 =>
aF A8 fun k9 fm =>
rS M2 k9 (fm + 1) fun Ov gx c7 =>
rI M2 k1 1 fun pR =>
rI M2 k1 2 fun jm =>
(0 ≤ jm) ∧
(jm < 8) ∧
rI M2 b2 ((o2 + 2) + (Int.toNat jm)) fun lN =>
rI M2 k1 3 fun lA =>
aa Tryz.prog 241 #[(.slice Ov gx c7), (iV pR), (iV lN), (iV lA)] M2 (fun FA jN =>
∃ Pq : Option Addr, ∃ eZ gU : Nat, ∃ t23 : Bool, (FA = (.tuple #[(.slice Pq eZ gU), (.bool t23)])) ∧
aM (!t23)
 (Kp [{ v := (.iface 340 (iV (-4))), recovered := false }] jN)
 (rS jN b0 (o0 + 4) fun Pe oB uS =>
 ((0 : Int) ≤ x1) ∧
 ((x1 : Int) < oB) ∧
 aF Pe fun DE qT =>
 rP jN DE (qT + (Int.toNat x1)) fun Rl =>
 aF Rl fun mQ uq =>
 sT jN mQ (uq + 1) (.slice Pq eZ gU) fun qQ =>
 K (.tuple #[]) qQ)) Kp) :
 aa Tryz.prog 211 #[.pointer (some ⟨b0, o0, none⟩), .int .i64 x1, .pointer (some ⟨b2, o2, none⟩), .agg #[.int .i64 dW, .int .i64 dX, .int .i64 dY, .int .i64 dZ]] M K Kp := vw [(1, .bQ [0, 1, 3, 7, 0, 31, 63, 127, 255, 511, 0, 1024, 0, 0, 8192, 4096, 36864, 126976, 258048, 0, 524288, 2097151, 4194303, 8388607, 8388607, 16777215, 67108863] (sy [0, 1, 2, 4, 10, 12, 13, 15, 16, 19, 3, 5, 6, 7, 8, 9, 11, 14, 17, 18, 20, 21, 22, 23, 24, 25, 26] .done))] Tryz.func211 h
theorem qo {b0 o0 : Nat} {x1 : Int} {b2 o2 : Nat} {dW : Int} {dX : Int} {dY : Int} {dZ : Int} (h :
aX M (cl [(iV dW), (iV dX), (iV dY), (iV dZ)] 27) fun k1 M2 =>
rS M2 b0 (o0 + 4) fun A3 k4 k5 =>
((0 : Int) ≤ x1) ∧
((x1 : Int) < k4) ∧
aF A3 fun k6 k7 =>
rP M2 k6 (k7 + (Int.toNat x1)) fun A8 =>
aF A8 fun k9 fm =>
rS M2 k9 (fm + 1) fun Ov gx c7 =>
rI M2 k1 1 fun pR =>
(0 ≤ pR) ∧
(pR < 8) ∧
rI M2 b2 ((o2 + 2) + (Int.toNat pR)) fun jm =>
aa Tryz.prog 242 #[(.slice Ov gx c7), (iV jm)] M2 (fun Mc mo =>
∃ Ju : Option Addr, ∃ iz kH : Nat, ∃ t21 : Bool, (Mc = (.tuple #[(.slice Ju iz kH), (.bool t21)])) ∧
aM t21
 (rS mo b0 (o0 + 4) fun WJ jo sE =>
 ((0 : Int) ≤ x1) ∧
 ((x1 : Int) < jo) ∧
 aF WJ fun oB uS =>
 rP mo oB (uS + (Int.toNat x1)) fun S4 =>
 aF S4 fun qT gY =>
 sT mo qT (gY + 1) (.slice Ju iz kH) fun xM =>
 K (.tuple #[]) xM)
 (rS mo b0 (o0 + 4) fun Ph ur qR =>
 ((0 : Int) ≤ x1) ∧
 ((x1 : Int) < ur) ∧
 aF Ph fun tg BV =>
 rP mo tg (BV + (Int.toNat x1)) fun Rs =>
 aF Rs fun jQ iE =>
 sT mo jQ iE (iV 4) fun Rt =>
 aM (x1 == 0)
 (sT Rt b0 (o0 + 11) (iV 1) fun S7 =>
 K (.tuple #[]) S7)
 (K (.tuple #[]) Rt))) Kp) :
 aa Tryz.prog 212 #[.pointer (some ⟨b0, o0, none⟩), .int .i64 x1, .pointer (some ⟨b2, o2, none⟩), .agg #[.int .i64 dW, .int .i64 dX, .int .i64 dY, .int .i64 dZ]] M K Kp := vw [(1, .bQ [0, 1, 3, 7, 0, 31, 63, 127, 255, 511, 0, 0, 2048, 1024, 9216, 31744, 64512, 131071, 262143, 524287, 524287, 1048575, 4194303] (sy [0, 1, 2, 4, 10, 11, 13, 14, 3, 5, 6, 7, 8, 9, 12, 15, 16, 17, 18, 19, 20, 21, 22] .done))] Tryz.func212 h
theorem oI {b0 o0 : Nat} {x1 : Int} {b2 o2 : Nat} {dW : Int} {dX : Int} {dY : Int} {dZ : Int} (h :
aX M (cl [(iV dW), (iV dX), (iV dY), (iV dZ)] 27) fun k1 M2 =>
rS M2 b0 (o0 + 4) fun A3 k4 k5 =>
aM (decide ((k4 : Int) ≥ 100))
 (Kp [{ v := (.iface 340 (iV (-5))), recovered := false }] M2)
 (rS M2 b0 (o0 + 4) fun A6 k7 k8 =>
 ∃ J9 : List Value → Mem → Prop, (rI M2 k1 1 fun iS =>
 rI M2 k1 2 fun gG =>
 (0 ≤ gG) ∧
 (gG < 8) ∧
 rI M2 b2 ((o2 + 2) + (Int.toNat gG)) fun iQ =>
 (rS M2 b0 (o0 + 4) fun EY jE gX =>
 aa Tryz.prog 112 #[(iV iS), (iV iQ)] M2 (fun Mc mo =>
 az (some Mc) fun Ju iz kH =>
 aX mo (cl [(iV 0), (.slice Ju iz kH), (iV 0), (iV 0), (iV 0), (iV 0)] 229) fun eZ rC =>
 aX rC (cl [(.pointer (some ⟨eZ, 0, none⟩))] 224) fun jo jn =>
 aA 155 EY jE gX (some ⟨jo, 0, none⟩) 1 1 jn (fun Pj uu =>
 az (some Pj) fun S4 qT gY =>
 sT uu b0 (o0 + 4) (.slice S4 qT gY) fun xM =>
 J9 [] xM) Kp) Kp) ∧
 (aa Tryz.prog 112 #[(iV iS), (iV iQ)] M2 (fun SR qQ =>
 az (some SR) fun LR tg BV =>
 rS qQ b0 (o0 + 4) fun Rs jQ iE =>
 aX qQ (cl [(iV 0), (.slice LR tg BV), (iV 0), (iV 0), (iV 0), (iV 0)] 229) fun zN S7 =>
 aX S7 (cl [(.pointer (some ⟨zN, 0, none⟩))] 224) fun Jn Pp =>
 aA 155 Rs jQ iE (some ⟨Jn, 0, none⟩) 1 1 Pp (fun v43 B6 =>
 az (some v43) fun A45 LO Wp =>
 sT B6 b0 (o0 + 4) (.slice A45 LO Wp) fun LP =>
 J9 [] LP) Kp) Kp) ∧
 True) ∧
 ∀ ZI : Nat → Value, ∀ wX : Mem, (J9 [] wX) → aa Tryz.prog 158 #[(.pointer (some ⟨b0, o0, none⟩)), (iV (k7 : Int))] wX (fun ZJ S8 =>
 (ZJ = (.tuple #[])) ∧
 rI S8 k1 3 fun WK =>
 (0 ≤ WK) ∧
 (WK < 8) ∧
 sT S8 b2 ((o2 + 2) + (Int.toNat WK)) (iV (k7 : Int)) fun Pb =>
 K (.tuple #[]) Pb) Kp)) :
 aa Tryz.prog 213 #[.pointer (some ⟨b0, o0, none⟩), .int .i64 x1, .pointer (some ⟨b2, o2, none⟩), .agg #[.int .i64 dW, .int .i64 dX, .int .i64 dY, .int .i64 dZ]] M K Kp := vw [(4, .La [0, 0, 2, 6, 14, 0, 32, 0, 0, 256, 128, 1152, 3968, 8064, 16352, 32736, 65504, 131040, 262142, 524287, 1048575, 2097151] (sy [0, 1, 2, 3, 5, 7, 8, 10, 11, 6, 9, 12, 13] (.fork 4 (sy [14, 15, 16, 17, 18, 19, 20, 21] .done) (.fork 14 (sy [15, 4, 16, 17, 18, 19, 20, 21] .done) .dead))) []), (6, .bQ [0, 0, 2, 0, 1, 17, 63, 127] (sy [0, 1, 3, 4, 5, 2, 6, 7] .done))] Tryz.func213 h
theorem oJ {b0 o0 : Nat} {x1 : Int} {b2 o2 : Nat} {dW : Int} {dX : Int} {dY : Int} {dZ : Int} (h :
aX M (cl [(iV dW), (iV dX), (iV dY), (iV dZ)] 27) fun k1 M2 =>
K (.tuple #[]) M2) :
 aa Tryz.prog 214 #[.pointer (some ⟨b0, o0, none⟩), .int .i64 x1, .pointer (some ⟨b2, o2, none⟩), .agg #[.int .i64 dW, .int .i64 dX, .int .i64 dY, .int .i64 dZ]] M K Kp := vw [] Tryz.func214 h
theorem qp {b0 o0 : Nat} {x1 : Int} {b2 o2 : Nat} {dW : Int} {dX : Int} {dY : Int} {dZ : Int} (h :
aX M (cl [(iV dW), (iV dX), (iV dY), (iV dZ)] 27) fun k1 M2 =>
rI M2 k1 1 fun n3 =>
rI M2 k1 2 fun n4 =>
(0 ≤ n4) ∧
(n4 < 8) ∧
rI M2 b2 ((o2 + 2) + (Int.toNat n4)) fun n5 =>
aa Tryz.prog 209 #[(.pointer (some ⟨b0, o0, none⟩)), (iV n3), (iV n5)] M2 (fun v6 M7 =>
cK (some v6) fun t8 =>
aM (!t8)
 (rS M7 b0 (o0 + 6) fun A9 fm eT =>
 rI M7 k1 1 fun iQ =>
 (0 ≤ iQ) ∧
 (iQ < fm) ∧
 aF A9 fun c7 jE =>
 rP M7 c7 (jE + (Int.toNat iQ)) fun vP =>
 rI M7 k1 2 fun lN =>
 (0 ≤ lN) ∧
 (lN < 8) ∧
 rI M7 b2 ((o2 + 2) + (Int.toNat lN)) fun lA =>
 aa Tryz.prog 236 #[(.pointer vP), (.agg #[(iV x1), (iV 0), (iV lA)])] M7 (fun FA jN =>
 (FA = (.tuple #[])) ∧
 iB jN k1 0 fun iD mO qP BW =>
 aa Tryz.prog 208 #[(.pointer (some ⟨b0, o0, none⟩)), (iV x1), (.agg #[(iV iD), (iV mO), (iV qP), (iV BW)])] jN (fun WL Hv =>
 (WL = (.tuple #[])) ∧
 K (.tuple #[]) Hv) Kp) Kp)
 (K (.tuple #[]) M7)) Kp) :
 aa Tryz.prog 215 #[.pointer (some ⟨b0, o0, none⟩), .int .i64 x1, .pointer (some ⟨b2, o2, none⟩), .agg #[.int .i64 dW, .int .i64 dX, .int .i64 dY, .int .i64 dZ]] M K Kp := vw [(1, .bQ [0, 0, 2, 0, 0, 16, 8, 72, 248, 504, 1023, 2047] (sy [0, 1, 3, 4, 6, 7, 2, 5, 8, 9, 10, 11] .done)), (2, .bQ [0, 1, 3, 7, 0, 16, 63, 127, 0, 0, 0, 1024, 512, 4608, 15872, 32256, 65280, 131071] (sy [0, 1, 2, 4, 8, 9, 10, 12, 13, 3, 5, 6, 7, 11, 14, 15, 16, 17] .done))] Tryz.func215 h
theorem qq {b0 o0 : Nat} {x1 : Int} {b2 o2 : Nat} {dW : Int} {dX : Int} {dY : Int} {dZ : Int} (h :
aX M (cl [(iV dW), (iV dX), (iV dY), (iV dZ)] 27) fun k1 M2 =>
rI M2 k1 1 fun n3 =>
aa Tryz.prog 210 #[(.pointer (some ⟨b0, o0, none⟩)), (iV n3)] M2 (fun v4 M5 =>
∃ n6 n7 : Int, ∃ t8 : Bool, (v4 = (.tuple #[(iV n6), (iV n7), (.bool t8)])) ∧
aM (!t8)
 (rS M5 b0 (o0 + 6) fun A9 fm eT =>
 rI M5 k1 1 fun iQ =>
 (0 ≤ iQ) ∧
 (iQ < fm) ∧
 aF A9 fun c7 jE =>
 rP M5 c7 (jE + (Int.toNat iQ)) fun vP =>
 aa Tryz.prog 235 #[(.pointer vP), (.agg #[(iV x1), (iV 0), (iV 0)])] M5 (fun Mc mo =>
 (Mc = (.tuple #[])) ∧
 iB mo k1 0 fun kf wY iD mO =>
 aa Tryz.prog 208 #[(.pointer (some ⟨b0, o0, none⟩)), (iV x1), (.agg #[(iV kf), (iV wY), (iV iD), (iV mO)])] mo (fun Js j5 =>
 (Js = (.tuple #[])) ∧
 K (.tuple #[]) j5) Kp) Kp)
 (rI M5 k1 2 fun CY =>
 (0 ≤ CY) ∧
 (CY < 8) ∧
 rI M5 k1 3 fun mT =>
 sT M5 b2 ((o2 + 2) + (Int.toNat CY)) (iV n6) fun uu =>
 eI uu k1 3 mT ∧
 (0 ≤ mT) ∧
 (mT < 8) ∧
 sT uu b2 ((o2 + 2) + (Int.toNat mT)) (iV n7) fun wZ =>
 eI wZ k1 3 mT ∧
 K (.tuple #[]) wZ)) Kp) :
 aa Tryz.prog 216 #[.pointer (some ⟨b0, o0, none⟩), .int .i64 x1, .pointer (some ⟨b2, o2, none⟩), .agg #[.int .i64 dW, .int .i64 dX, .int .i64 dY, .int .i64 dZ]] M K Kp := vw [(3, .bQ [0, 1, 3, 7, 0, 16, 63, 127, 0, 256, 1023] (sy [0, 1, 2, 4, 8, 9, 3, 5, 6, 7, 10] .done)), (5, .bQ [0, 0, 2, 0, 0, 16, 0, 0, 1, 257, 839, 1863, 8, 4104, 16383, 32767] (sy [0, 1, 3, 4, 6, 7, 8, 9, 12, 13, 2, 10] (.eN 5 (sy [11, 14, 15] .done))))] Tryz.func216 h
theorem qt {b0 o0 : Nat} {x1 : Int} {b2 o2 : Nat} {dW : Int} {dX : Int} {dY : Int} {dZ : Int} (h :
aX M (cl [(iV dW), (iV dX), (iV dY), (iV dZ)] 27) fun k1 M2 =>
rS M2 b0 (o0 + 6) fun A3 k4 k5 =>
rI M2 k1 1 fun n6 =>
(0 ≤ n6) ∧
(n6 < k4) ∧
aF A3 fun k7 k8 =>
rP M2 k7 (k8 + (Int.toNat n6)) fun A9 =>
aa Tryz.prog 243 #[(.pointer A9)] M2 (fun v10 jO =>
∃ zp : Option Addr, ∃ c7 jE : Nat, ∃ vP : Option Addr, ∃ gA eK : Nat, ∃ kf : Int, (v10 = (.tuple #[(.slice zp c7 jE), (.slice vP gA eK), (iV kf)])) ∧
aM (kf != 0)
 (Kp [{ v := (.iface 340 (iV (-2))), recovered := false }] jO)
 (aM (decide ((gA : Int) > 0))
 (Kp [{ v := (.iface 340 (iV (-1))), recovered := false }] jO)
 (∃ Ys : IT, (∃ kH, Ys kH [(iV 0)] jO) ∧
 ∀ (eZ : Nat) (_ : Nat → Value) (BW : Int) (jn : Mem), (Ys eZ [(iV BW)] jn) → aM (decide (BW < c7))
 ((0 ≤ BW) ∧
 (BW < c7) ∧
 aF zp fun oB uS =>
 oz jn oB (uS + ((Int.toNat BW) * 3)) fun mV vR DG =>
 aX jn jM fun mQ S9 =>
 Lw S9 mQ (iV mV) (iV vR) (iV DG) fun qS =>
 rS qS b0 (o0 + 4) fun ZK LY jQ =>
 rI qS mQ 0 fun Jm =>
 (0 ≤ Jm) ∧
 (Jm < LY) ∧
 aF ZK fun zN Jq =>
 rP qS zN (Jq + (Int.toNat Jm)) fun WM =>
 aF WM fun LN AH =>
 rI qS LN AH fun B5 =>
 aM (B5 == 2)
 (sT qS mQ 2 (iV 0) fun uw =>
 oz uw mQ 0 fun FP xN Pr =>
 aa Tryz.prog 238 #[(.pointer (some ⟨b0, o0, none⟩)), (.agg #[(iV FP), (iV xN), (iV Pr)]), (iV 0)] uw (fun Jp wX =>
 (Jp = (.tuple #[])) ∧
 ∃ B7 : Nat, (B7 < eZ) ∧
 Ys B7 [(iV (IntKind.wrap .i64 (BW + 1)))] wX) Kp)
 (∃ tf : Nat, (tf < eZ) ∧
 Ys tf [(iV (IntKind.wrap .i64 (BW + 1)))] qS))
 (K (.tuple #[]) jn)))) Kp) :
 aa Tryz.prog 217 #[.pointer (some ⟨b0, o0, none⟩), .int .i64 x1, .pointer (some ⟨b2, o2, none⟩), .agg #[.int .i64 dW, .int .i64 dX, .int .i64 dY, .int .i64 dZ]] M K Kp := vw [(1, .bQ [0, 1, 3, 7, 0, 16, 63, 127, 255, 511, 1023, 1023, 1023, 2047, 12287, 32767] (sy [0, 1, 2, 4, 3, 5, 6, 7, 8, 9, 10, 11, 12, 13, 14, 15] .done)), (2000001, .loop [(37, .c (.int .i64))]), (9, .bQ [0, 1, 3, 7, 0, 16, 63, 127, 255, 511, 1023, 2047] (sy [0, 1, 2, 4, 3, 5, 6, 7, 8, 9, 10, 11] .done))] Tryz.func217 h
theorem oK {b0 o0 : Nat} {x1 : Int} {b2 o2 : Nat} {dW : Int} {dX : Int} {dY : Int} {dZ : Int} (h :
aX M (cl [(iV dW), (iV dX), (iV dY), (iV dZ)] 27) fun k1 M2 =>
rI M2 k1 1 fun n3 =>
(0 ≤ n3) ∧
(n3 < 8) ∧
rI M2 b2 ((o2 + 2) + (Int.toNat n3)) fun n4 =>
aM (decide (((if (1048576 : Int) < n4 then 1048576 else n4) : Int) > 0))
 (rU M2 b0 (o0 + 5) fun n5 =>
 aa Tryz.prog 244 #[(.pointer (some ⟨b0, (o0 + 8), none⟩)), (.int .u64 (IntKind.wrap .u64 (n5 + (IntKind.wrap .u64 (if (1048576 : Int) < n4 then 1048576 else n4))))), (iV x1)] M2 (fun v6 M7 =>
 aH (some v6) .u64 fun n8 =>
 rS M7 b0 (o0 + 4) fun A9 fm eT =>
 ((0 : Int) ≤ x1) ∧
 ((x1 : Int) < fm) ∧
 aF A9 fun gx c7 =>
 rP M7 gx (c7 + (Int.toNat x1)) fun mq =>
 aF mq fun gX gA =>
 sT M7 gX gA (iV 3) fun mo =>
 K (.tuple #[]) mo) Kp)
 (K (.tuple #[]) M2)) :
 aa Tryz.prog 218 #[.pointer (some ⟨b0, o0, none⟩), .int .i64 x1, .pointer (some ⟨b2, o2, none⟩), .agg #[.int .i64 dW, .int .i64 dX, .int .i64 dY, .int .i64 dZ]] M K Kp := vw [(1, .bQ [0, 0, 2, 1, 9, 31, 63, 127, 255] (sy [0, 1, 3, 4, 2, 5, 6, 7, 8] .done)), (3, .bQ [0, 1, 3, 0, 8, 24, 56, 0, 128, 504, 0, 2047] (sy [0, 1, 2, 3, 4, 5, 7, 8, 10, 6, 9, 11] .done))] Tryz.func218 h
theorem qu {b0 o0 : Nat} {x1 : Int} {b2 o2 : Nat} {dW : Int} {dX : Int} {dY : Int} {dZ : Int} (h :
aX M (cl [(iV dW), (iV dX), (iV dY), (iV dZ)] 27) fun k1 M2 =>
rS M2 b0 (o0 + 7) fun A3 k4 k5 =>
rI M2 k1 1 fun n6 =>
(0 ≤ n6) ∧
(n6 < k4) ∧
aF A3 fun k7 k8 =>
rP M2 k7 (k8 + (Int.toNat n6)) fun A9 =>
aa Tryz.prog 245 #[(.pointer A9), (iV x1)] M2 (fun v10 jO =>
cK (some v10) fun t12 =>
aM (!t12)
 (rI jO k1 0 fun kY =>
 rI jO k1 1 fun pR =>
 rI jO k1 2 fun jm =>
 rI jO k1 3 fun lN =>
 aa Tryz.prog 208 #[(.pointer (some ⟨b0, o0, none⟩)), (iV x1), (.agg #[(iV kY), (iV pR), (iV jm), (iV lN)])] jO (fun Ta qg =>
 (Ta = (.tuple #[])) ∧
 K (.tuple #[]) qg) Kp)
 (K (.tuple #[]) jO)) Kp) :
 aa Tryz.prog 219 #[.pointer (some ⟨b0, o0, none⟩), .int .i64 x1, .pointer (some ⟨b2, o2, none⟩), .agg #[.int .i64 dW, .int .i64 dX, .int .i64 dY, .int .i64 dZ]] M K Kp := vw [(1, .bQ [0, 1, 3, 7, 0, 16, 63, 127, 0, 511, 1023] (sy [0, 1, 2, 4, 8, 3, 5, 6, 7, 9, 10] .done))] Tryz.func219 h
theorem nK {b0 o0 : Nat} {x1 : Int} {b2 o2 : Nat} {dW : Int} {dX : Int} {dY : Int} {dZ : Int} (h :
aX M (cl [(iV dW), (iV dX), (iV dY), (iV dZ)] 27) fun k1 M2 =>
rS M2 b0 (o0 + 7) fun A3 k4 k5 =>
rI M2 k1 1 fun n6 =>
(0 ≤ n6) ∧
(n6 < k4) ∧
aF A3 fun k7 k8 =>
rP M2 k7 (k8 + (Int.toNat n6)) fun A9 =>
aa Tryz.prog 246 #[(.pointer A9), (iV x1)] M2 (fun v10 jO =>
∃ iQ kY : Int, (v10 = (.tuple #[(iV iQ), (iV kY)])) ∧
aM (kY != 0)
 (Kp [{ v := (.iface 340 (iV (-3))), recovered := false }] jO)
 (aM (iQ != (-1))
 (aa Tryz.prog 158 #[(.pointer (some ⟨b0, o0, none⟩)), (iV iQ)] jO (fun WN qU =>
 (WN = (.tuple #[])) ∧
 K (.tuple #[]) qU) Kp)
 (K (.tuple #[]) jO))) Kp) :
 aa Tryz.prog 220 #[.pointer (some ⟨b0, o0, none⟩), .int .i64 x1, .pointer (some ⟨b2, o2, none⟩), .agg #[.int .i64 dW, .int .i64 dX, .int .i64 dY, .int .i64 dZ]] M K Kp := vw [(1, .bQ [0, 1, 3, 7, 0, 16, 63, 127, 0, 511, 1023, 2047, 2047, 4095, 16383] (sy [0, 1, 2, 4, 8, 3, 5, 6, 7, 9, 10, 11, 12, 13, 14] .done))] Tryz.func220 h
theorem qv {b0 o0 : Nat} {x1 : Int} {b2 o2 : Nat} {dW : Int} {dX : Int} {dY : Int} {dZ : Int} (h :
aX M (cl [(iV dW), (iV dX), (iV dY), (iV dZ)] 27) fun k1 M2 =>
rS M2 b0 (o0 + 10) fun A3 k4 k5 =>
aM (decide ((k4 : Int) ≥ 1000))
 (Kp [{ v := (.iface 340 (iV (-6))), recovered := false }] M2)
 (rS M2 b0 (o0 + 10) fun A6 k7 k8 =>
 rI M2 k1 1 fun n9 =>
 (0 ≤ n9) ∧
 (n9 < 8) ∧
 rI M2 b2 ((o2 + 2) + (Int.toNat n9)) fun iS =>
 aX M2 (cl [(iV iS)] 2) fun eT s9 =>
 aA 53 A6 k7 k8 (some ⟨eT, 0, none⟩) 1 1 s9 (fun Hj mh =>
 az (some Hj) fun vP gA eK =>
 sT mh b0 (o0 + 10) (.slice vP gA eK) fun qg =>
 K (.tuple #[]) qg) Kp)) :
 aa Tryz.prog 221 #[.pointer (some ⟨b0, o0, none⟩), .int .i64 x1, .pointer (some ⟨b2, o2, none⟩), .agg #[.int .i64 dW, .int .i64 dX, .int .i64 dY, .int .i64 dZ]] M K Kp := vw [(3, .bQ [0, 0, 2, 6, 14, 0, 0, 64, 32, 288, 992, 2016, 4064, 8190, 16383, 32767, 65535] (sy [0, 1, 2, 3, 5, 6, 8, 9, 4, 7, 10, 11, 12, 13, 14, 15, 16] .done))] Tryz.func221 h
theorem qw {b0 o0 : Nat} {x1 : Int} {b2 o2 : Nat} {dW : Int} {dX : Int} {dY : Int} {dZ : Int} (h :
aX M (cl [(iV dW), (iV dX), (iV dY), (iV dZ)] 27) fun k1 M2 =>
rI M2 k1 1 fun n3 =>
Kp [{ v := (.iface 340 (iV n3)), recovered := false }] M2) :
 aa Tryz.prog 222 #[.pointer (some ⟨b0, o0, none⟩), .int .i64 x1, .pointer (some ⟨b2, o2, none⟩), .agg #[.int .i64 dW, .int .i64 dX, .int .i64 dY, .int .i64 dZ]] M K Kp := vw [] Tryz.func222 h
theorem tw {b0 o0 : Nat} {x1 : Int} {x2 : Int} (h :
az (Mem.ld M ⟨b0, o0, none⟩) fun A1 k2 k3 =>
az (Mem.ld M ⟨b0, o0, none⟩) fun A4 k5 k6 =>
az (Mem.ld M ⟨b0, o0, none⟩) fun A7 k8 k9 =>
((0 : Int) ≤ x2) ∧
((x2 : Int) < ((k8 : Nat) : Int)) ∧
aF A7 fun fm eT =>
aH (Mem.ld M ⟨fm, (eT + ((Int.toNat x2) * 3)), none⟩) .u64 fun iQ =>
aH (Mem.ld M ⟨fm, ((eT + ((Int.toNat x2) * 3)) + 1), none⟩) .u64 fun kY =>
aH (Mem.ld M ⟨fm, ((eT + ((Int.toNat x2) * 3)) + 2), none⟩) .i64 fun pR =>
az (Mem.ld M ⟨b0, o0, none⟩) fun vP gA eK =>
((0 : Int) ≤ x1) ∧
((x1 : Int) < ((gA : Nat) : Int)) ∧
aF vP fun fZ iz =>
aH (Mem.ld M ⟨fZ, (iz + ((Int.toNat x1) * 3)), none⟩) .u64 fun iD =>
aH (Mem.ld M ⟨fZ, ((iz + ((Int.toNat x1) * 3)) + 1), none⟩) .u64 fun mO =>
aH (Mem.ld M ⟨fZ, ((iz + ((Int.toNat x1) * 3)) + 2), none⟩) .i64 fun qP =>
((0 : Int) ≤ x1) ∧
((x1 : Int) < ((k2 : Nat) : Int)) ∧
aF A1 fun jo sE =>
aI M ⟨jo, (sE + ((Int.toNat x1) * 3)), none⟩ (.int .u64 iQ) fun Hv =>
aI Hv ⟨jo, ((sE + ((Int.toNat x1) * 3)) + 1), none⟩ (.int .u64 kY) fun uu =>
aI uu ⟨jo, ((sE + ((Int.toNat x1) * 3)) + 2), none⟩ (.int .i64 pR) fun wZ =>
((0 : Int) ≤ x2) ∧
((x2 : Int) < ((k5 : Nat) : Int)) ∧
aF A4 fun qT gY =>
aI wZ ⟨qT, (gY + ((Int.toNat x2) * 3)), none⟩ (.int .u64 iD) fun xM =>
aI xM ⟨qT, ((gY + ((Int.toNat x2) * 3)) + 1), none⟩ (.int .u64 mO) fun S9 =>
aI S9 ⟨qT, ((gY + ((Int.toNat x2) * 3)) + 2), none⟩ (.int .i64 qP) fun qQ =>
K (.tuple #[]) qQ) :
 aa Tryz.prog 154 ([.pointer (some ⟨b0, o0, none⟩), .int .i64 x1, .int .i64 x2] : List Value).toArray M K Kp :=
 b6 (C := Cx) good [(0, .bQ [0, 1, 3, 7, 0, 0, 32, 96, 224, 0, 0, 1024, 3072, 7168, 0, 31744, 64512, 0, 131072, 393216, 917504, 0, 4063232, 8257536, 16776703, 33553919, 67108863, 134217727] (.step 0 (.step 1 (.step 2 (.step 4 (.step 5 (.step 6 (.step 7 (.step 9 (.step 10 (.step 11 (.step 12 (.step 14 (.step 17 (.step 18 (.step 19 (.step 21 (.step 3 (.step 8 (.step 13 (.step 15 (.step 16 (.step 20 (.step 22 (.step 23 (.step 24 (.step 25 (.step 26 (.step 27 .done)))))))))))))))))))))))))))))] Tryz.func154 (by kernel_rfl) (by kernel_rfl) h
theorem tx {b0 o0 : Nat} {x1 : Int} (h :
aa Tryz.prog 186 #[(.pointer (some ⟨b0, o0, none⟩)), (iV x1)] M (fun v1 M2 =>
aH (some v1) .i64 fun n3 =>
∃ I4 : IT, (∃ k5, I4 k5 [(iV x1), (iV n3)] M2) ∧
∀ (k6 : Nat) (_ : Nat → Value) (n8 : Int) (n9 : Int) (gF : Mem), (I4 k6 [(iV n8), (iV n9)] gF) → aM (n9 != n8)
 (aa Tryz.prog 154 #[(.pointer (some ⟨b0, o0, none⟩)), (iV n8), (iV n9)] gF (fun v11 s9 =>
 (v11 = (.tuple #[])) ∧
 aa Tryz.prog 186 #[(.pointer (some ⟨b0, o0, none⟩)), (iV n9)] s9 (fun Hj mh =>
 aH (some Hj) .i64 fun jm =>
 ∃ gA : Nat, (gA < k6) ∧
 I4 gA [(iV n9), (iV jm)] mh) Kp) Kp)
 (K (.tuple #[]) gF)) Kp) :
 aa Tryz.prog 155 #[.pointer (some ⟨b0, o0, none⟩), .int .i64 x1] M K Kp := vw [(2000000, .loop [(1, .c (.int .i64)), (4, .c (.int .i64))])] Tryz.func155 h
theorem wF {b0 o0 : Nat} {x1 : Int} (h :
∃ I1 : Nat → List Value → Mem → Prop, (∃ k2 : Nat, I1 k2 [(.int .i64 x1)] M) ∧
∀ k3 : Nat, ∀ Rr : Nat → Value, ∀ n5 : Int, ∀ M6 : Mem, (I1 k3 [(.int .i64 n5)] M6) → aM (decide ((n5 : Int) > 0))
 (((4 : Int) ≠ 0) ∧
 az (Mem.ld M6 ⟨b0, o0, none⟩) fun A7 k8 k9 =>
 ((0 : Int) ≤ n5) ∧
 ((n5 : Int) < ((k8 : Nat) : Int)) ∧
 aF A7 fun fm eT =>
 aH (Mem.ld M6 ⟨fm, (eT + ((Int.toNat n5) * 3)), none⟩) .u64 fun iQ =>
 aH (Mem.ld M6 ⟨fm, ((eT + ((Int.toNat n5) * 3)) + 1), none⟩) .u64 fun kY =>
 aH (Mem.ld M6 ⟨fm, ((eT + ((Int.toNat n5) * 3)) + 2), none⟩) .i64 fun pR =>
 az (Mem.ld M6 ⟨b0, o0, none⟩) fun vP gA eK =>
 ((0 : Int) ≤ (IntKind.wrap .i64 (Int.tdiv (IntKind.wrap .i64 (n5 - 1)) 4))) ∧
 (((IntKind.wrap .i64 (Int.tdiv (IntKind.wrap .i64 (n5 - 1)) 4)) : Int) < ((gA : Nat) : Int)) ∧
 aF vP fun fZ iz =>
 aH (Mem.ld M6 ⟨fZ, (iz + ((Int.toNat (IntKind.wrap .i64 (Int.tdiv (IntKind.wrap .i64 (n5 - 1)) 4))) * 3)), none⟩) .u64 fun iD =>
 aH (Mem.ld M6 ⟨fZ, ((iz + ((Int.toNat (IntKind.wrap .i64 (Int.tdiv (IntKind.wrap .i64 (n5 - 1)) 4))) * 3)) + 1), none⟩) .u64 fun mO =>
 aH (Mem.ld M6 ⟨fZ, ((iz + ((Int.toNat (IntKind.wrap .i64 (Int.tdiv (IntKind.wrap .i64 (n5 - 1)) 4))) * 3)) + 2), none⟩) .i64 fun qP =>
 aa Tryz.prog 187 #[(.agg #[(.int .u64 iQ), (.int .u64 kY), (.int .i64 pR)]), (.agg #[(.int .u64 iD), (.int .u64 mO), (.int .i64 qP)])] M6 (fun Wy jn =>
 cK (some Wy) fun t25 =>
 aM t25
  (((4 : Int) ≠ 0) ∧
  aa Tryz.prog 154 #[(.pointer (some ⟨b0, o0, none⟩)), (.int .i64 n5), (.int .i64 (IntKind.wrap .i64 (Int.tdiv (IntKind.wrap .i64 (n5 - 1)) 4)))] jn (fun Ww wZ =>
  (Ww = (.tuple #[])) ∧
  ((4 : Int) ≠ 0) ∧
  ∃ qT : Nat, (qT < k3) ∧
  I1 qT [(.int .i64 (IntKind.wrap .i64 (Int.tdiv (IntKind.wrap .i64 (n5 - 1)) 4)))] wZ) Kp)
  (K (.tuple #[]) jn)) Kp)
 (K (.tuple #[]) M6)) :
 aa Tryz.prog 156 ([.pointer (some ⟨b0, o0, none⟩), .int .i64 x1] : List Value).toArray M K Kp :=
 b6 (C := Cx) good [(2000000, .loop [(1, .c (.int .i64))]), (0, .bQ [0, 1, 3, 7, 15, 31, 63, 7, 255, 511, 7, 1031, 3079, 7175, 7, 16391, 49159, 130055, 261127, 524287, 1048575] (.step 0 (.step 1 (.step 2 (.step 3 (.step 4 (.step 5 (.step 7 (.step 10 (.step 11 (.step 12 (.step 14 (.step 15 (.step 16 (.step 6 (.step 8 (.step 9 (.step 13 (.step 17 (.step 18 (.step 19 (.step 20 .done))))))))))))))))))))))] Tryz.func156 (by kernel_rfl) (by kernel_rfl) h
theorem rK {b0 o0 : Nat} {cL : Int} {cN : Int} {cO : Int} {fq : Int} (h :
aX M (cl [(iV cL), (iV cN), (iV cO), (iV fq)] 27) fun k1 M2 =>
K (.tuple #[]) M2) :
 aa Tryz.prog 225 #[.pointer (some ⟨b0, o0, none⟩), .agg #[.int .i64 cL, .int .i64 cN, .int .i64 cO, .int .i64 fq]] M K Kp := vw [] Tryz.func225 h
theorem lR {b0 o0 : Nat} {cL : Int} {cN : Int} {cO : Int} {fq : Int} (h :
aX M (cl [(iV cL), (iV cN), (iV cO), (iV fq)] 27) fun k1 M2 =>
rI M2 k1 1 fun n3 =>
rI M2 k1 2 fun n4 =>
(0 ≤ n3) ∧
(n3 < 8) ∧
sT M2 b0 ((o0 + 2) + (Int.toNat n3)) (iV n4) fun M5 =>
K (.tuple #[]) M5) :
 aa Tryz.prog 226 #[.pointer (some ⟨b0, o0, none⟩), .agg #[.int .i64 cL, .int .i64 cN, .int .i64 cO, .int .i64 fq]] M K Kp := vw [(1, .bQ [0, 0, 2, 0, 8, 1, 33, 127, 255] (sy [0, 1, 3, 5, 6, 2, 4, 7, 8] .done))] Tryz.func226 h
theorem qx {b0 o0 : Nat} {cL : Int} {cN : Int} {cO : Int} {fq : Int} (h :
aX M (cl [(iV cL), (iV cN), (iV cO), (iV fq)] 27) fun k1 M2 =>
rI M2 k1 1 fun n3 =>
rI M2 k1 2 fun n4 =>
(0 ≤ n4) ∧
(n4 < 8) ∧
rI M2 b0 ((o0 + 2) + (Int.toNat n4)) fun n5 =>
(0 ≤ n3) ∧
(n3 < 8) ∧
sT M2 b0 ((o0 + 2) + (Int.toNat n3)) (iV n5) fun M6 =>
K (.tuple #[]) M6) :
 aa Tryz.prog 227 #[.pointer (some ⟨b0, o0, none⟩), .agg #[.int .i64 cL, .int .i64 cN, .int .i64 cO, .int .i64 fq]] M K Kp := vw [(1, .bQ [0, 0, 2, 0, 0, 16, 8, 72, 248, 504, 1, 1025, 4095, 8191] (sy [0, 1, 3, 4, 6, 7, 10, 11, 2, 5, 8, 9, 12, 13] .done))] Tryz.func227 h
theorem rL {b0 o0 : Nat} {cL : Int} {cN : Int} {cO : Int} {fq : Int} (h :
aX M (cl [(iV cL), (iV cN), (iV cO), (iV fq)] 27) fun k1 M2 =>
rI M2 k1 1 fun n3 =>
rI M2 k1 2 fun n4 =>
(0 ≤ n4) ∧
(n4 < 8) ∧
rI M2 b0 ((o0 + 2) + (Int.toNat n4)) fun n5 =>
rI M2 k1 3 fun n6 =>
(0 ≤ n6) ∧
(n6 < 8) ∧
rI M2 b0 ((o0 + 2) + (Int.toNat n6)) fun n7 =>
(0 ≤ n3) ∧
(n3 < 8) ∧
sT M2 b0 ((o0 + 2) + (Int.toNat n3)) (iV (IntKind.wrap .i64 (n5 + n7))) fun M8 =>
K (.tuple #[]) M8) :
 aa Tryz.prog 228 #[.pointer (some ⟨b0, o0, none⟩), .agg #[.int .i64 cL, .int .i64 cN, .int .i64 cO, .int .i64 fq]] M K Kp := vw [(1, .bQ [0, 0, 2, 0, 0, 16, 8, 72, 248, 504, 0, 0, 2048, 1024, 9216, 31744, 64512, 131064, 1, 262145, 1048575, 2097151] (sy [0, 1, 3, 4, 6, 7, 10, 11, 13, 14, 18, 19, 2, 5, 8, 9, 12, 15, 16, 17, 20, 21] .done))] Tryz.func228 h
theorem rM {b0 o0 : Nat} {cL : Int} {cN : Int} {cO : Int} {fq : Int} (h :
aX M (cl [(iV cL), (iV cN), (iV cO), (iV fq)] 27) fun k1 M2 =>
rI M2 k1 1 fun n3 =>
rI M2 k1 2 fun n4 =>
(0 ≤ n4) ∧
(n4 < 8) ∧
rI M2 b0 ((o0 + 2) + (Int.toNat n4)) fun n5 =>
rI M2 k1 3 fun n6 =>
(0 ≤ n6) ∧
(n6 < 8) ∧
rI M2 b0 ((o0 + 2) + (Int.toNat n6)) fun n7 =>
(0 ≤ n3) ∧
(n3 < 8) ∧
sT M2 b0 ((o0 + 2) + (Int.toNat n3)) (iV (IntKind.wrap .i64 (n5 - n7))) fun M8 =>
K (.tuple #[]) M8) :
 aa Tryz.prog 229 #[.pointer (some ⟨b0, o0, none⟩), .agg #[.int .i64 cL, .int .i64 cN, .int .i64 cO, .int .i64 fq]] M K Kp := vw [(1, .bQ [0, 0, 2, 0, 0, 16, 8, 72, 248, 504, 0, 0, 2048, 1024, 9216, 31744, 64512, 131064, 1, 262145, 1048575, 2097151] (sy [0, 1, 3, 4, 6, 7, 10, 11, 13, 14, 18, 19, 2, 5, 8, 9, 12, 15, 16, 17, 20, 21] .done))] Tryz.func229 h
theorem rN {b0 o0 : Nat} {cL : Int} {cN : Int} {cO : Int} {fq : Int} (h :
aX M (cl [(iV cL), (iV cN), (iV cO), (iV fq)] 27) fun k1 M2 =>
rI M2 k1 1 fun n3 =>
rI M2 k1 2 fun n4 =>
(0 ≤ n4) ∧
(n4 < 8) ∧
rI M2 b0 ((o0 + 2) + (Int.toNat n4)) fun n5 =>
rI M2 k1 3 fun n6 =>
(0 ≤ n6) ∧
(n6 < 8) ∧
rI M2 b0 ((o0 + 2) + (Int.toNat n6)) fun n7 =>
(0 ≤ n3) ∧
(n3 < 8) ∧
sT M2 b0 ((o0 + 2) + (Int.toNat n3)) (iV (IntKind.wrap .i64 (n5 * n7))) fun M8 =>
K (.tuple #[]) M8) :
 aa Tryz.prog 230 #[.pointer (some ⟨b0, o0, none⟩), .agg #[.int .i64 cL, .int .i64 cN, .int .i64 cO, .int .i64 fq]] M K Kp := vw [(1, .bQ [0, 0, 2, 0, 0, 16, 8, 72, 248, 504, 0, 0, 2048, 1024, 9216, 31744, 64512, 131064, 1, 262145, 1048575, 2097151] (sy [0, 1, 3, 4, 6, 7, 10, 11, 13, 14, 18, 19, 2, 5, 8, 9, 12, 15, 16, 17, 20, 21] .done))] Tryz.func230 h
theorem qy {b0 o0 : Nat} {cL : Int} {cN : Int} {cO : Int} {fq : Int} (h :
aX M (cl [(iV cL), (iV cN), (iV cO), (iV fq)] 27) fun k1 M2 =>
rI M2 k1 2 fun n3 =>
(0 ≤ n3) ∧
(n3 < 8) ∧
rI M2 b0 ((o0 + 2) + (Int.toNat n3)) fun n4 =>
rI M2 k1 3 fun n5 =>
(0 ≤ n5) ∧
(n5 < 8) ∧
rI M2 b0 ((o0 + 2) + (Int.toNat n5)) fun n6 =>
rI M2 k1 1 fun n7 =>
(0 ≤ n7) ∧
(n7 < 8) ∧
sT M2 b0 ((o0 + 2) + (Int.toNat n7)) (iV 0) fun M8 =>
aM (decide (n4 < n6))
 (rI M8 k1 1 fun n9 =>
 (0 ≤ n9) ∧
 (n9 < 8) ∧
 sT M8 b0 ((o0 + 2) + (Int.toNat n9)) (iV 1) fun gF =>
 K (.tuple #[]) gF)
 (K (.tuple #[]) M8)) :
 aa Tryz.prog 231 #[.pointer (some ⟨b0, o0, none⟩), .agg #[.int .i64 cL, .int .i64 cN, .int .i64 cO, .int .i64 fq]] M K Kp := vw [(1, .bQ [0, 0, 2, 1, 9, 31, 63, 0, 0, 256, 128, 1152, 3968, 8064, 16383, 32767] (sy [0, 1, 3, 4, 7, 8, 10, 11, 2, 5, 6, 9, 12, 13, 14, 15] .done)), (2, .bQ [0, 0, 2, 1, 9, 31, 63] (sy [0, 1, 3, 4, 2, 5, 6] .done)), (4, .bQ [0, 0, 2, 1, 9, 31, 63] (sy [0, 1, 3, 4, 2, 5, 6] .done))] Tryz.func231 h
theorem qz {b0 o0 : Nat} {cL : Int} {cN : Int} {cO : Int} {fq : Int} (h :
aX M (cl [(iV cL), (iV cN), (iV cO), (iV fq)] 27) fun k1 M2 =>
rI M2 k1 1 fun n3 =>
sT M2 b0 (o0 + 1) (iV n3) fun M4 =>
K (.tuple #[]) M4) :
 aa Tryz.prog 232 #[.pointer (some ⟨b0, o0, none⟩), .agg #[.int .i64 cL, .int .i64 cN, .int .i64 cO, .int .i64 fq]] M K Kp := vw [] Tryz.func232 h
theorem nL {b0 o0 : Nat} {cL : Int} {cN : Int} {cO : Int} {fq : Int} (h :
aX M (cl [(iV cL), (iV cN), (iV cO), (iV fq)] 27) fun k1 M2 =>
rI M2 k1 1 fun n3 =>
(0 ≤ n3) ∧
(n3 < 8) ∧
rI M2 b0 ((o0 + 2) + (Int.toNat n3)) fun n4 =>
aM (n4 != 0)
 (rI M2 k1 2 fun n5 =>
 sT M2 b0 (o0 + 1) (iV n5) fun M6 =>
 K (.tuple #[]) M6)
 (K (.tuple #[]) M2)) :
 aa Tryz.prog 233 #[.pointer (some ⟨b0, o0, none⟩), .agg #[.int .i64 cL, .int .i64 cN, .int .i64 cO, .int .i64 fq]] M K Kp := vw [(1, .bQ [0, 0, 2, 1, 9, 31, 63, 127] (sy [0, 1, 3, 4, 2, 5, 6, 7] .done))] Tryz.func233 h
theorem lS {b0 o0 : Nat} {cL : Int} {cN : Int} {cO : Int} {x2 : Int} (h :
aX M (cl [(iV cL), (iV cN), (iV cO)] 280) fun k1 M2 =>
rS M2 b0 (o0 + 4) fun A3 k4 k5 =>
rI M2 k1 0 fun n6 =>
(0 ≤ n6) ∧
(n6 < k4) ∧
aF A3 fun k7 k8 =>
rP M2 k7 (k8 + (Int.toNat n6)) fun A9 =>
aF A9 fun fm eT =>
rS M2 fm (eT + 1) fun zp c7 jE =>
rS M2 b0 (o0 + 4) fun vP gA eK =>
rI M2 k1 0 fun kf =>
(0 ≤ kf) ∧
(kf < gA) ∧
aF vP fun iz kH =>
rP M2 iz (kH + (Int.toNat kf)) fun BY =>
aF BY fun gU jo =>
iB M2 gU (jo + 2) fun CY mT mw mV =>
(True) ∧
aa Tryz.prog 189 #[(.slice zp c7 jE)] M2 (fun SZ mP =>
b8 (some SZ) fun Wz =>
((Mem.iH mP ⟨gU, (jo + 2), none⟩ 0 4) = some [(iV CY), (iV mT), (iV mw), (iV mV)]) ∧
((Mem.ld mP ⟨iz, (kH + (Int.toNat kf)), none⟩) = (some (.pointer BY))) ∧
eI mP k1 0 kf ∧
((Mem.ld mP ⟨b0, (o0 + 4), none⟩) = (some (.slice vP gA eK))) ∧
aF Wz fun uq ur =>
aX mP uP fun qR qS =>
Lx qS qR (iV CY) (iV mT) (iV mw) (iV mV) fun mj =>
((Mem.iH mj ⟨gU, (jo + 2), none⟩ 0 4) = some [(iV CY), (iV mT), (iV mw), (iV mV)]) ∧
((Mem.ld mj ⟨iz, (kH + (Int.toNat kf)), none⟩) = (some (.pointer BY))) ∧
eI mj k1 0 kf ∧
((Mem.ld mj ⟨b0, (o0 + 4), none⟩) = (some (.slice vP gA eK))) ∧
rI mj qR 0 fun LM =>
aM (LM == 16)
 (rS mj b0 (o0 + 3) fun Yo Jn LN =>
 rI mj qR 1 fun DD =>
 rI mj k1 1 fun B5 =>
 ((0 : Int) ≤ (IntKind.wrap .i64 (DD + B5))) ∧
 (((IntKind.wrap .i64 (DD + B5)) : Int) < (Jn : Int)) ∧
 aF Yo fun Jo LO =>
 rI mj Jo ((LO + ((Int.toNat (IntKind.wrap .i64 (DD + B5))) * 3)) + 2) fun xN =>
 rI mj k1 2 fun Pr =>
 (0 ≤ xN) ∧
 (xN < 8) ∧
 sT mj uq ((ur + 2) + (Int.toNat xN)) (iV Pr) fun xO =>
 rII xO k1 0 fun S5 Me =>
 aa Tryz.prog 251 #[(.pointer (some ⟨b0, o0, none⟩)), (iV S5), (iV Me)] xO (fun ZL Jv =>
 (ZL = (.tuple #[])) ∧
 rI Jv k1 0 fun Tb =>
 aa Tryz.prog 158 #[(.pointer (some ⟨b0, o0, none⟩)), (iV Tb)] Jv (fun Ws SS =>
 (Ws = (.tuple #[])) ∧
 K (.tuple #[]) SS) Kp) Kp)
 (rI mj qR 2 fun KF =>
 rI mj k1 2 fun Hs =>
 (0 ≤ KF) ∧
 (KF < 8) ∧
 rI mj qR 3 fun vQ =>
 sT mj uq ((ur + 2) + (Int.toNat KF)) (iV Hs) fun nD =>
 eI nD qR 3 vQ ∧
 (0 ≤ vQ) ∧
 (vQ < 8) ∧
 sT nD uq ((ur + 2) + (Int.toNat vQ)) (iV x2) fun FB =>
 eI FB qR 3 vQ ∧
 rI FB k1 0 fun Yt =>
 aa Tryz.prog 158 #[(.pointer (some ⟨b0, o0, none⟩)), (iV Yt)] FB (fun ZM Vs =>
 (ZM = (.tuple #[])) ∧
 K (.tuple #[]) Vs) Kp)) Kp) :
 aa Tryz.prog 238 #[.pointer (some ⟨b0, o0, none⟩), .agg #[.int .i64 cL, .int .i64 cN, .int .i64 cO], .int .i64 x2] M K Kp := vw [(1, .bQ [0, 1, 3, 7, 0, 16, 63, 127, 255, 511, 1023, 0, 2048, 6144, 14336, 0, 32768, 129024, 260096, 522240, 1046528, 2095104, 4192256, 8386560, 16775168, 0, 41943039, 134217727] (sy [0, 1, 2, 4, 11, 12, 13, 15, 14, 16, 17, 18, 19, 20, 21] (.eN 3 (.eN 5 (sy [6] (.eN 7 (sy [8, 9] (.eN 10 (.late 22 (sy [23, 24, 25, 26, 27] .done)))))))))), (3, .bQ [0, 0, 2, 6, 14, 30, 0, 64, 0, 256, 960, 2046, 4094, 8190, 0, 16384, 1, 131071, 262143] (sy [0, 1, 2, 3, 4, 6, 8, 14, 16, 5, 7, 9, 10, 11, 12, 13, 15, 17, 18] .done)), (5, .bQ [0, 0, 2, 0, 0, 16, 0, 64, 0, 1, 711, 1735, 8, 8191, 16383] (sy [0, 1, 3, 4, 6, 8, 9, 12, 2, 7, 10] (.eN 5 (sy [11, 13, 14] .done))))] Tryz.func238 h
theorem qA {b0 o0 : Nat} {cL : Int} {cN : Int} {cO : Int} (h :
aX M (cl [(iV cL), (iV cN), (iV cO)] 280) fun k1 M2 =>
rS M2 b0 (o0 + 4) fun A3 k4 k5 =>
rI M2 k1 0 fun n6 =>
(0 ≤ n6) ∧
(n6 < k4) ∧
aF A3 fun k7 k8 =>
rP M2 k7 (k8 + (Int.toNat n6)) fun A9 =>
aF A9 fun fm eT =>
rI M2 fm (eT + 2) fun iQ =>
aM (iQ == 16)
 (rI M2 k1 0 fun kY =>
 rI M2 k1 1 fun pR =>
 aa Tryz.prog 251 #[(.pointer (some ⟨b0, o0, none⟩)), (iV kY), (iV pR)] M2 (fun DH fh =>
 (DH = (.tuple #[])) ∧
 rI fh k1 0 fun lA =>
 aa Tryz.prog 158 #[(.pointer (some ⟨b0, o0, none⟩)), (iV lA)] fh (fun FA jN =>
 (FA = (.tuple #[])) ∧
 K (.tuple #[]) jN) Kp) Kp)
 (rI M2 k1 0 fun iD =>
 aa Tryz.prog 158 #[(.pointer (some ⟨b0, o0, none⟩)), (iV iD)] M2 (fun ZN rC =>
 (ZN = (.tuple #[])) ∧
 K (.tuple #[]) rC) Kp)) :
 aa Tryz.prog 240 #[.pointer (some ⟨b0, o0, none⟩), .agg #[.int .i64 cL, .int .i64 cN, .int .i64 cO]] M K Kp := vw [(1, .bQ [0, 1, 3, 7, 0, 16, 63, 127, 255, 511, 1023, 2047, 4095] (sy [0, 1, 2, 4, 3, 5, 6, 7, 8, 9, 10, 11, 12] .done))] Tryz.func240 h
theorem qB {B0 : Option Addr} {m0 c0 : Nat} {x1 : Int} {x2 : Int} {x3 : Int} (h :
aM (decide ((m0 : Int) ≥ 16))
 (K (.tuple #[(.slice B0 m0 c0), (.bool false)]) M)
 (((0 : Int) ≤ m0) ∧
 ((m0 : Int) ≤ c0) ∧
 ((0 : Int) ≤ m0) ∧
 ((m0 : Int) ≤ m0) ∧
 ((0 : Int) ≤ 0) ∧
 ((0 : Int) ≤ m0) ∧
 aX M (cl [(iV x1), (iV 0), (iV x2), (iV 0), (iV 0), (iV 0), (iV 0), (iV 0), (iV 0), (iV 0), (iV x3)] 275) fun k1 M2 =>
 aN Tryz.prog (Go.Builtin.append_ #[226, 226] 226 #[(.slice (lC B0 0 (Int.toNat (m0 : Int)) 11) ((Int.toNat (m0 : Int)) - 0) ((Int.toNat (m0 : Int)) - 0)), (.slice (some ⟨k1, 0, none⟩) 1 1)]) M2 (fun v3 M4 =>
 az (some v3) fun A5 k6 k7 =>
 K (.tuple #[(.slice A5 k6 k7), (.bool true)]) M4) Kp)) :
 aa Tryz.prog 241 #[.slice B0 m0 c0, .int .i64 x1, .int .i64 x2, .int .i64 x3] M K Kp := vw [] Tryz.func241 h
theorem nN {B0 : Option Addr} {m0 c0 : Nat} {x1 : Int} (h :
aM (decide ((m0 : Int) < 2))
 (K (.tuple #[(.slice none 0 0), (.bool false)]) M)
 (aX M (cl [] 275) fun k1 M2 =>
 ((0 : Int) ≤ c0) ∧
 ((c0 : Int) ≤ c0) ∧
 ((0 : Int) ≤ (IntKind.wrap .i64 ((m0 : Int) - 1))) ∧
 (((IntKind.wrap .i64 ((m0 : Int) - 1)) : Int) ≤ (c0 : Int)) ∧
 ((0 : Int) ≤ 0) ∧
 ((0 : Int) ≤ (IntKind.wrap .i64 ((m0 : Int) - 1))) ∧
 aN Tryz.prog (Go.Builtin.append_ #[226, 226] 226 #[(.slice (some ⟨k1, 0, none⟩) 0 0), (.slice (lC B0 0 (Int.toNat (c0 : Int)) 11) ((Int.toNat (IntKind.wrap .i64 ((m0 : Int) - 1))) - 0) ((Int.toNat (c0 : Int)) - 0))]) M2 (fun v3 M4 =>
 az (some v3) fun A5 k6 k7 =>
 aa Tryz.prog 189 #[(.slice A5 k6 k7)] M4 (fun v8 M9 =>
 b8 (some v8) fun EZ =>
 aF EZ fun eT gx =>
 aa Tryz.prog 189 #[(.slice B0 m0 c0)] M9 (fun Hj mh =>
 b8 (some Hj) fun vP =>
 aF vP fun gA eK =>
 rI mh gA (eK + 10) fun kf =>
 (0 ≤ kf) ∧
 (kf < 8) ∧
 sT mh eT ((gx + 2) + (Int.toNat kf)) (iV x1) fun jN =>
 K (.tuple #[(.slice A5 k6 k7), (.bool true)]) jN) Kp) Kp) Kp)) :
 aa Tryz.prog 242 #[.slice B0 m0 c0, .int .i64 x1] M K Kp := vw [(4, .bQ [0, 1, 0, 7, 15, 31, 63, 0, 3, 259, 1023, 2047] (sy [0, 2, 7, 1, 8, 9, 3, 4, 5, 6, 10, 11] .done))] Tryz.func242 h
theorem tB {b0 o0 : Nat} {x1 : Int} {x2 : Int} (h :
az (Mem.ld M ⟨b0, o0, none⟩) fun A1 k2 k3 =>
aH (Mem.ld M ⟨b0, (o0 + 1), none⟩) .u64 fun n4 =>
aX M (.cells #[(.int .u64 x1), (.int .u64 n4), (.int .i64 x2)] 203 (0, 0)) fun k5 M6 =>
aN Tryz.prog (Go.Builtin.append_ #[46, 46] 46 #[(.slice A1 k2 k3), (.slice (some ⟨k5, 0, none⟩) 1 1)]) M6 (fun v7 M8 =>
az (some v7) fun A9 fm eT =>
aI M8 ⟨b0, o0, none⟩ (.slice A9 fm eT) fun s9 =>
aH (Mem.ld s9 ⟨b0, (o0 + 1), none⟩) .u64 fun kY =>
aI s9 ⟨b0, (o0 + 1), none⟩ (.int .u64 (IntKind.wrap .u64 (kY + 1))) fun mh =>
az (Mem.ld mh ⟨b0, o0, none⟩) fun vP gA eK =>
aa Tryz.prog 156 #[(.pointer (some ⟨b0, o0, none⟩)), (.int .i64 (IntKind.wrap .i64 (((gA : Nat) : Int) - 1)))] mh (fun FA jN =>
(FA = (.tuple #[])) ∧
aH (Mem.ld jN ⟨b0, (o0 + 1), none⟩) .u64 fun iD =>
K (.int .u64 (IntKind.wrap .u64 (iD - 1))) jN) Kp) Kp) :
 aa Tryz.prog 244 ([.pointer (some ⟨b0, o0, none⟩), .int .u64 x1, .int .i64 x2] : List Value).toArray M K Kp :=
 b6 (C := Cx) good [(1, .bQ [0, 0, 2, 6, 14, 0, 0, 64, 192, 448, 0, 2016, 4064, 8190, 16383, 32767, 65535] (.step 0 (.step 1 (.step 2 (.step 3 (.step 5 (.step 6 (.step 7 (.step 8 (.step 10 (.step 4 (.step 9 (.step 11 (.step 12 (.step 13 (.step 14 (.step 15 (.step 16 .done))))))))))))))))))] Tryz.func244 (by kernel_rfl) (by kernel_rfl) h
theorem rO {b0 o0 : Nat} {x1 : Int} (h :
rI M b0 o0 fun n1 =>
aM (n1 != (-1))
 (rS M b0 (o0 + 1) fun A2 k3 k4 =>
 aX M (cl [(iV x1)] 3) fun k5 M6 =>
 aA 36 A2 k3 k4 (some ⟨k5, 0, none⟩) 1 1 M6 (fun v7 M8 =>
 az (some v7) fun A9 fm eT =>
 sT M8 b0 (o0 + 1) (.slice A9 fm eT) fun s9 =>
 K (.bool false) s9) Kp)
 (sT M b0 o0 (iV x1) fun kj =>
 K (.bool true) kj)) :
 aa Tryz.prog 245 #[.pointer (some ⟨b0, o0, none⟩), .int .i64 x1] M K Kp := vw [] Tryz.func245 h
theorem rQ {b0 o0 : Nat} {x1 : Int} (h :
rI M b0 o0 fun n1 =>
aM (n1 == (-1))
 (K (.tuple #[(iV (-1)), (iV 5)]) M)
 (rI M b0 o0 fun n2 =>
 aM (n2 != x1)
 (K (.tuple #[(iV (-1)), (iV 5)]) M)
 (sT M b0 o0 (iV (-1)) fun M3 =>
 rS M3 b0 (o0 + 1) fun A4 k5 k6 =>
 aM (decide ((k5 : Int) > 0))
 (rS M3 b0 (o0 + 1) fun A7 k8 k9 =>
 ((0 : Int) ≤ 0) ∧
 ((0 : Int) < k8) ∧
 aF A7 fun fm eT =>
 rI M3 fm (eT + 0) fun iQ =>
 sT M3 b0 o0 (iV iQ) fun kj =>
 aX kj (cl [] 3) fun jE qU =>
 rS qU b0 (o0 + 1) fun Vr eK fZ =>
 ((0 : Int) ≤ fZ) ∧
 ((fZ : Int) ≤ fZ) ∧
 ((0 : Int) ≤ eK) ∧
 ((eK : Int) ≤ fZ) ∧
 ((0 : Int) ≤ 1) ∧
 ((1 : Int) ≤ eK) ∧
 aN Tryz.prog (Go.Builtin.append_ #[36, 36] 36 #[(.slice (some ⟨jE, 0, none⟩) 0 0), (.slice (lC Vr 1 (Int.toNat (fZ : Int)) 1) ((Int.toNat (eK : Int)) - 1) ((Int.toNat (fZ : Int)) - 1))]) qU (fun Pn rA =>
 az (some Pn) fun BY gU jo =>
 sT rA b0 (o0 + 1) (.slice BY gU jo) fun jn =>
 rI jn b0 o0 fun mT =>
 K (.tuple #[(iV mT), (iV 0)]) jn) Kp)
 (rI M3 b0 o0 fun mw =>
 K (.tuple #[(iV mw), (iV 0)]) M3)))) :
 aa Tryz.prog 246 #[.pointer (some ⟨b0, o0, none⟩), .int .i64 x1] M K Kp := vw [] Tryz.func246 h
theorem rR {b0 o0 : Nat} {x1 : Int} (h :
∃ I1 : Nat → List Value → Mem → Prop, (∃ k2 : Nat, I1 k2 [(.int .i64 x1), (.int .i64 (IntKind.wrap .i64 ((IntKind.wrap .i64 (4 * x1)) + 1)))] M) ∧
∀ k3 : Nat, ∀ Rr : Nat → Value, ∀ n5 : Int, ∀ n6 : Int, ∀ M7 : Mem, (I1 k3 [(.int .i64 n5), (.int .i64 n6)] M7) → aM (decide ((n6 : Int) ≤ (IntKind.wrap .i64 ((IntKind.wrap .i64 (4 * x1)) + 4))))
 (az (Mem.ld M7 ⟨b0, o0, none⟩) fun A8 k9 fm =>
 aM (decide ((n6 : Int) < ((k9 : Nat) : Int)))
  (az (Mem.ld M7 ⟨b0, o0, none⟩) fun Ov gx c7 =>
  ((0 : Int) ≤ n6) ∧
  ((n6 : Int) < ((gx : Nat) : Int)) ∧
  aF Ov fun jE gX =>
  aH (Mem.ld M7 ⟨jE, (gX + ((Int.toNat n6) * 3)), none⟩) .u64 fun lN =>
  aH (Mem.ld M7 ⟨jE, ((gX + ((Int.toNat n6) * 3)) + 1), none⟩) .u64 fun lA =>
  aH (Mem.ld M7 ⟨jE, ((gX + ((Int.toNat n6) * 3)) + 2), none⟩) .i64 fun kf =>
  az (Mem.ld M7 ⟨b0, o0, none⟩) fun E0 kH eZ =>
  ((0 : Int) ≤ n5) ∧
  ((n5 : Int) < ((kH : Nat) : Int)) ∧
  aF E0 fun gU jo =>
  aH (Mem.ld M7 ⟨gU, (jo + ((Int.toNat n5) * 3)), none⟩) .u64 fun CY =>
  aH (Mem.ld M7 ⟨gU, ((jo + ((Int.toNat n5) * 3)) + 1), none⟩) .u64 fun mT =>
  aH (Mem.ld M7 ⟨gU, ((jo + ((Int.toNat n5) * 3)) + 2), none⟩) .i64 fun mw =>
  aa Tryz.prog 187 #[(.agg #[(.int .u64 lN), (.int .u64 lA), (.int .i64 kf)]), (.agg #[(.int .u64 CY), (.int .u64 mT), (.int .i64 mw)])] M7 (fun Pf uR =>
  cK (some Pf) fun t29 =>
  aM t29
   (∃ mQ : Nat, (mQ < k3) ∧
   I1 mQ [(.int .i64 n6), (.int .i64 (IntKind.wrap .i64 (n6 + 1)))] uR)
   (∃ uq : Nat, (uq < k3) ∧
   I1 uq [(.int .i64 n5), (.int .i64 (IntKind.wrap .i64 (n6 + 1)))] uR)) Kp)
  (K (.int .i64 n5) M7))
 (K (.int .i64 n5) M7)) :
 aa Tryz.prog 186 ([.pointer (some ⟨b0, o0, none⟩), .int .i64 x1] : List Value).toArray M K Kp :=
 b6 (C := Cx) good [(2000000, .loop [(5, .c (.int .i64)), (6, .c (.int .i64))]), (5, .bQ [0, 1, 3, 7, 0, 31, 63, 0, 128, 384, 896, 0, 3968, 8064, 16383] (.step 0 (.step 1 (.step 2 (.step 4 (.step 7 (.step 8 (.step 9 (.step 11 (.step 3 (.step 5 (.step 6 (.step 10 (.step 12 (.step 13 (.step 14 .done))))))))))))))))] Tryz.func186 (by kernel_rfl) (by kernel_rfl) h
theorem xY {lO : Int} {tq : Int} {lP : Int} {cL : Int} {cN : Int} {cO : Int} (h :
aX M (cl [(.int .u64 lO), (.int .u64 tq), (iV lP)] 203) fun k1 M2 =>
aX M2 (cl [(.int .u64 cL), (.int .u64 cN), (iV cO)] 203) fun k3 M4 =>
rU M4 k1 0 fun n5 =>
rU M4 k3 0 fun n6 =>
aM (decide (n5 < n6))
 (K (.bool true) M4)
 (rU M4 k1 0 fun n7 =>
 rU M4 k3 0 fun n8 =>
 aM (n7 == n8)
 (rU M4 k1 1 fun n9 =>
 rU M4 k3 1 fun iS =>
 K (.bool (decide (n9 < iS))) M4)
 (K (.bool false) M4))) :
 aa Tryz.prog 187 #[.agg #[.int .u64 lO, .int .u64 tq, .int .i64 lP], .agg #[.int .u64 cL, .int .u64 cN, .int .i64 cO]] M K Kp := vw [] Tryz.func187 h
theorem nO {b0 o0 : Nat} {x1 : Int} {x2 : Int} (h :
rS M b0 (o0 + 4) fun A1 k2 k3 =>
((0 : Int) ≤ x1) ∧
((x1 : Int) < k2) ∧
aF A1 fun k4 k5 =>
rP M k4 (k5 + (Int.toNat x1)) fun A6 =>
aF A6 fun k7 k8 =>
iB M k7 (k8 + 2) fun n9 iS gG iQ =>
aX M uP fun c7 mh =>
Lx mh c7 (iV n9) (iV iS) (iV gG) (iV iQ) fun qg =>
rS qg b0 (o0 + 4) fun E0 kH eZ =>
((0 : Int) ≤ x1) ∧
((x1 : Int) < kH) ∧
aF E0 fun gU jo =>
rP qg gU (jo + (Int.toNat x1)) fun Pe =>
aF Pe fun oB uS =>
rS qg oB (uS + 1) fun S4 qT gY =>
rI qg c7 3 fun DM =>
aa Tryz.prog 189 #[(.slice S4 qT gY)] qg (fun SR qQ =>
b8 (some SR) fun LR =>
eI qQ c7 3 DM ∧
aF LR fun tg BV =>
(0 ≤ DM) ∧
(DM < 8) ∧
sT qQ tg ((BV + 2) + (Int.toNat DM)) (iV x2) fun AG =>
eI AG c7 3 DM ∧
rS AG b0 (o0 + 6) fun Ps iE zN =>
aa Tryz.prog 252 #[(iV x1), (.slice Ps iE zN)] AG (fun Md AK =>
(Md = (.tuple #[])) ∧
K (.tuple #[]) AK) Kp) Kp) :
 aa Tryz.prog 251 #[.pointer (some ⟨b0, o0, none⟩), .int .i64 x1, .int .i64 x2] M K Kp := vw [(1, .bQ [0, 1, 3, 7, 0, 31, 63, 127, 255, 511, 1023, 0, 2048, 0, 2047, 18431, 65535, 131071] (sy [0, 1, 2, 4, 11, 13, 3, 5, 6, 7, 8, 9] (.eN 12 (sy [10, 14, 15, 16, 17] .done))))] Tryz.func251 h
end Go.Proofs
namespace Go.Proofs
open Go.AF
set_option maxRecDepth 100000
theorem B8 {DN : Option Addr} {DO DP : Nat} {DQ : Option Addr} {DR DS : Nat} {lP : Int} {DT : Option Addr} {DU DV : Nat} {M : Mem} {K : Value → Mem → Prop} {Kp : List PanicEntry → Mem → Prop} (h :
aX M (cl [(.slice DN DO DP), (.slice DQ DR DS), (iV lP), (.slice DT DU DV)] 39) fun k1 M2 =>
Ly M2 k1 0 fun A3 k4 k5 A6 k7 k8 n9 EZ eT gx =>
aa Tryz.prog 112 #[(iV 0), (iV 0)] M2 (fun Hj mh =>
az (some Hj) fun vP gA eK =>
((Mem.iH mh ⟨k1, 0, none⟩ 0 4) = some [(.slice A3 k4 k5), (.slice A6 k7 k8), (iV n9), (.slice EZ eT gx)]) ∧
aX mh (cl [(iV 1), (.slice vP gA eK), (iV 0), (iV 0), (iV 0), (iV 0)] 229) fun fZ jN =>
aX jN (cl [(.pointer (some ⟨fZ, 0, none⟩))] 224) fun kH wB =>
aX wB (cl [(.slice A3 k4 k5), (.slice A6 k7 k8), (iV n9), (.slice EZ eT gx), (.slice (some ⟨kH, 0, none⟩) 1 1), (.int .u64 0), (.slice none 0 0), (.slice none 0 0), (.slice none 0 0), (.int .u64 0), (.slice none 0 0), (iV 0), (iV 0), (.slice none 0 0), .nilFunc] 161) fun gU j5 =>
rS j5 k1 1 fun Pe oB uS =>
∃ Tc : IT, (∃ qT, Tc qT [(iV 0)] j5) ∧
∀ (gY : Nat) (_ : Nat → Value) (td : Int) (qQ : Mem), (Tc gY [(iV td)] qQ) → aM (decide (td < oB))
 ((0 ≤ td) ∧
 (td < oB) ∧
 aF Pe fun qR tg =>
 rI qQ qR (tg + (Int.toNat td)) fun KD =>
 ∃ ZO : List Value → Mem → Prop, ((rS qQ gU 6 fun Ps iE zN =>
 aa Tryz.prog 113 #[(iV KD)] qQ (fun Md AK =>
 b8 (some Md) fun Zz =>
 aX AK (cl [(.pointer Zz)] 230) fun AH B6 =>
 aA 156 Ps iE zN (some ⟨AH, 0, none⟩) 1 1 B6 (fun v45 Td =>
 az (some v45) fun A47 Yr Hz =>
 sT Td gU 6 (.slice A47 Yr Hz) fun wX =>
 ZO [] wX) Kp) Kp) ∧
 (aa Tryz.prog 113 #[(iV KD)] qQ (fun ZJ S8 =>
 b8 (some ZJ) fun A53 =>
 rS S8 gU 6 fun ZP HB Pt =>
 aX S8 (cl [(.pointer A53)] 230) fun xZ Jw =>
 aA 156 ZP HB Pt (some ⟨xZ, 0, none⟩) 1 1 Jw (fun v59 nD =>
 az (some v59) fun Te Tf Ru =>
 sT nD gU 6 (.slice Te Tf Ru) fun Vs =>
 ZO [] Vs) Kp) Kp) ∧
 True) ∧
 ∀ ZQ : Nat → Value, ∀ Vq : Mem, (ZO [] Vq) → ∃ ux : Nat, (ux < gY) ∧
 Tc ux [(iV (IntKind.wrap .i64 (td + 1)))] Vq)
 (rI qQ k1 2 fun Pm =>
 ∃ Tg : IT, (∃ Jx, Tg Jx [(iV 0)] qQ) ∧
 ∀ (Jy : Nat) (_ : Nat → Value) (Wu : Int) (DL : Mem), (Tg Jy [(iV Wu)] DL) → aM (decide (Wu < Pm))
 (∃ ZR : List Value → Mem → Prop, ((rS DL gU 7 fun A76 k77 WO =>
 aa Tryz.prog 114 #[] DL (fun ZS uW =>
 b8 (some ZS) fun Pu =>
 aX uW (cl [(.pointer Pu)] 232) fun Ow B9 =>
 aA 157 A76 k77 WO (some ⟨Ow, 0, none⟩) 1 1 B9 (fun v84 M85 =>
 az (some v84) fun A86 k87 Mf =>
 sT M85 gU 7 (.slice A86 k87 Mf) fun FQ =>
 ZR [] FQ) Kp) Kp) ∧
 (aa Tryz.prog 114 #[] DL (fun Mg nE =>
 b8 (some Mg) fun WQ =>
 rS nE gU 7 fun A93 Th ZT =>
 aX nE (cl [(.pointer WQ)] 232) fun ZU Pv =>
 aA 157 A93 Th ZT (some ⟨ZU, 0, none⟩) 1 1 Pv (fun v98 ZV =>
 az (some v98) fun ZW ZX Pw =>
 sT ZV gU 7 (.slice ZW ZX Pw) fun Ti =>
 ZR [] Ti) Kp) Kp) ∧
 True) ∧
 ∀ Yu : Nat → Value, ∀ Px : Mem, (ZR [] Px) → ∃ wG : Nat, (wG < Jy) ∧
 Tg wG [(iV (IntKind.wrap .i64 (Wu + 1)))] Px)
 (K (.pointer (some ⟨gU, 0, none⟩)) DL))) Kp) :
 aa Tryz.prog 56 #[.agg #[.slice DN DO DP, .slice DQ DR DS, .int .i64 lP, .slice DT DU DV]] M K Kp := vw [(1, .bQ [0, 0, 2, 6, 14, 31, 63, 127] (.eN 0 (sy [1, 2, 3, 4, 5, 6, 7] .done))), (2000000, .loop [(16, .c (.int .i64))]), (5, .La [0, 0, 2, 6, 14, 0, 32, 96, 254, 511, 1023, 2047] (sy [0, 1, 2, 3, 5] (.fork 4 (sy [6, 7, 8, 9, 10, 11] .done) (.fork 6 (sy [4, 7, 8, 9, 10, 11] .done) .dead))) []), (2000002, .loop [(34, .c (.int .i64))]), (9, .La [0, 0, 2, 6, 14, 0, 32, 126, 255, 511, 1023] (sy [0, 1, 2, 3] (.fork 4 (sy [5, 6, 7, 8, 9, 10] .done) (.fork 5 (sy [4, 6, 7, 8, 9, 10] .done) .dead))) [])] Tryz.func56 h
theorem jy {b0 o0 : Nat} {x1 : Int} {u2 : Value} {M : Mem} {K : Value → Mem → Prop} {Kp : List PanicEntry → Mem → Prop} (h :
aX M (.cells #[(.bool false), (.slice none 0 0)] 250 (0, 0)) fun k1 M2 =>
aM (decide ((x1 : Int) < 0))
 (aI M2 ⟨k1, 0, none⟩ (.bool false) fun M3 =>
 aI M3 ⟨k1, (0 + 1), none⟩ (.slice none 0 0) fun M4 =>
 cK (Mem.ld M4 ⟨k1, 0, none⟩) fun t5 =>
 az (Mem.ld M4 ⟨k1, (0 + 1), none⟩) fun A6 k7 k8 =>
 K (.agg #[(.bool t5), (.slice A6 k7 k8)]) M4)
 (az (Mem.ld M2 ⟨b0, (o0 + 4), none⟩) fun A9 fm eT =>
 aM (decide ((x1 : Int) ≥ ((fm : Nat) : Int)))
  (aI M2 ⟨k1, 0, none⟩ (.bool false) fun s9 =>
  aI s9 ⟨k1, (0 + 1), none⟩ (.slice none 0 0) fun kj =>
  cK (Mem.ld kj ⟨k1, 0, none⟩) fun t14 =>
  az (Mem.ld kj ⟨k1, (0 + 1), none⟩) fun vP gA eK =>
  K (.agg #[(.bool t14), (.slice vP gA eK)]) kj)
  (aH (Mem.ld M2 ⟨b0, (o0 + 11), none⟩) .i64 fun kf =>
  aM (kf != 0)
   (aI M2 ⟨k1, 0, none⟩ (.bool false) fun jN =>
   aI jN ⟨k1, (0 + 1), none⟩ (.slice none 0 0) fun rA =>
   cK (Mem.ld rA ⟨k1, 0, none⟩) fun t21 =>
   az (Mem.ld rA ⟨k1, (0 + 1), none⟩) fun WJ jo sE =>
   K (.agg #[(.bool t21), (.slice WJ jo sE)]) rA)
   (az (Mem.ld M2 ⟨b0, (o0 + 4), none⟩) fun Wq uS DE =>
   ((0 : Int) ≤ x1) ∧
   ((x1 : Int) < ((uS : Nat) : Int)) ∧
   aF Wq fun qT gY =>
   b8 (Mem.ld M2 ⟨qT, (gY + (Int.toNat x1)), none⟩) fun Wz =>
   aF Wz fun uq ur =>
   aH (Mem.ld M2 ⟨uq, ur, none⟩) .i64 fun O8 =>
   aM (O8 != 1)
    (aI M2 ⟨k1, 0, none⟩ (.bool false) fun qS =>
    aI qS ⟨k1, (0 + 1), none⟩ (.slice none 0 0) fun wH =>
    cK (Mem.ld wH ⟨k1, 0, none⟩) fun t36 =>
    az (Mem.ld wH ⟨k1, (0 + 1), none⟩) fun Ps iE zN =>
    K (.agg #[(.bool t36), (.slice Ps iE zN)]) wH)
    (aI M2 ⟨b0, (o0 + 13), none⟩ (.slice none 0 0) fun S7 =>
    Ad u2 <|
    aI S7 ⟨b0, (o0 + 14), none⟩ u2 fun AK =>
    aa Tryz.prog 159 #[(.pointer (some ⟨b0, o0, none⟩)), (.int .i64 x1)] AK (fun v42 uv =>
    cK (some v42) fun t44 =>
    aM (!t44)
     (aH (Mem.ld uv ⟨b0, (o0 + 11), none⟩) .i64 fun FO =>
     aM (FO == 0)
      (az (Mem.ld uv ⟨b0, (o0 + 4), none⟩) fun A46 Wp Yr =>
      ((0 : Int) ≤ x1) ∧
      ((x1 : Int) < ((Wp : Nat) : Int)) ∧
      aF A46 fun Hz LS =>
      b8 (Mem.ld uv ⟨Hz, (LS + (Int.toNat x1)), none⟩) fun Pa =>
      aF Pa fun tf pQ =>
      aH (Mem.ld uv ⟨tf, pQ, none⟩) .i64 fun Tb =>
      az (Mem.ld uv ⟨b0, (o0 + 13), none⟩) fun A55 Pt xZ =>
      aI uv ⟨k1, 0, none⟩ (.bool (Tb == 1)) fun Jw =>
      aI Jw ⟨k1, (0 + 1), none⟩ (.slice A55 Pt xZ) fun AM =>
      cK (Mem.ld AM ⟨k1, 0, none⟩) fun t60 =>
      az (Mem.ld AM ⟨k1, (0 + 1), none⟩) fun Te Tf Ru =>
      K (.agg #[(.bool t60), (.slice Te Tf Ru)]) AM)
      (az (Mem.ld uv ⟨b0, (o0 + 13), none⟩) fun A64 ZY Mh =>
      aI uv ⟨k1, 0, none⟩ (.bool false) fun Yv =>
      aI Yv ⟨k1, (0 + 1), none⟩ (.slice A64 ZY Mh) fun Tj =>
      cK (Mem.ld Tj ⟨k1, 0, none⟩) fun t69 =>
      az (Mem.ld Tj ⟨k1, (0 + 1), none⟩) fun Py Jy ZZ =>
      K (.agg #[(.bool t69), (.slice Py Jy ZZ)]) Tj))
     (az (Mem.ld uv ⟨b0, (o0 + 13), none⟩) fun WT FR Tk =>
     aI uv ⟨k1, 0, none⟩ (.bool false) fun ZH =>
     aI ZH ⟨k1, (0 + 1), none⟩ (.slice WT FR Tk) fun zO =>
     cK (Mem.ld zO ⟨k1, 0, none⟩) fun t78 =>
     az (Mem.ld zO ⟨k1, (0 + 1), none⟩) fun Tl Pz Tm =>
     K (.agg #[(.bool t78), (.slice Tl Pz Tm)]) zO)) Kp))))) :
 aa Tryz.prog 121 ([.pointer (some ⟨b0, o0, none⟩), .int .i64 x1, u2] : List Value).toArray M K Kp :=
 b6 (C := Cx) good [(5, .bQ [0, 1, 3, 7, 15, 31, 63, 127, 255, 511, 1023, 2047, 4095, 8191, 1023, 32767, 65535, 131071, 262143, 524287, 1048575, 2097151, 0, 4194304, 12582912, 29360128, 67108863, 134217727] (.step 0 (.step 1 (.step 2 (.step 3 (.step 4 (.step 5 (.step 22 (.step 23 (.step 24 (.step 6 (.step 7 (.step 8 (.step 9 (.step 10 (.step 11 (.step 12 (.step 14 (.step 13 (.step 15 (.step 16 (.step 17 (.step 18 (.step 19 (.step 20 (.step 21 (.step 25 (.step 26 (.step 27 .done)))))))))))))))))))))))))))))] Tryz.func121 (by kernel_rfl) (by kernel_rfl) h
theorem oL {b0 o0 : Nat} {M : Mem} {K : Value → Mem → Prop} {Kp : List PanicEntry → Mem → Prop} (h :
aH (Mem.ld M ⟨b0, (o0 + 11), none⟩) .i64 fun n1 =>
aM (n1 != 0)
 (K (.bool false) M)
 (az (Mem.ld M ⟨b0, (o0 + 4), none⟩) fun A2 k3 k4 =>
 ∃ I5 : Nat → List Value → Mem → Prop, (∃ k6 : Nat, I5 k6 [(.int .i64 0)] M) ∧
 ∀ k7 : Nat, ∀ junk8 : Nat → Value, ∀ n9 : Int, ∀ gF : Mem, (I5 k7 [(.int .i64 n9)] gF) → aM (decide ((n9 : Int) < ((k3 : Nat) : Int)))
  (((0 : Int) ≤ n9) ∧
  ((n9 : Int) < ((k3 : Nat) : Int)) ∧
  aF A2 fun eT gx =>
  b8 (Mem.ld gF ⟨eT, (gx + (Int.toNat n9)), none⟩) fun EY =>
  aF EY fun jE gX =>
  aH (Mem.ld gF ⟨jE, gX, none⟩) .i64 fun lN =>
  aM (lN == 1)
   (K (.bool false) gF)
   (aF EY fun eK fZ =>
   aH (Mem.ld gF ⟨eK, fZ, none⟩) .i64 fun wY =>
   aM (wY == 3)
    (K (.bool false) gF)
    (∃ kH : Nat, (kH < k7) ∧
    I5 kH [(.int .i64 (IntKind.wrap .i64 (n9 + 1)))] gF)))
  (K (.bool true) gF))) :
 aa Tryz.prog 65 ([.pointer (some ⟨b0, o0, none⟩)] : List Value).toArray M K Kp :=
 b6 (C := Cx) good [(2000000, .loop [(15, .c (.int .i64))])] Tryz.func65 (by kernel_rfl) (by kernel_rfl) h
variable {M : Mem} {K : Value → Mem → Prop} {Kp : List PanicEntry → Mem → Prop}
theorem uX {B0 : Option Addr} {m0 c0 : Nat} (h :
aX M (cl [] 32) fun k1 M2 =>
aA 31 (some ⟨k1, 0, none⟩) 0 0 B0 m0 c0 M2 (fun v3 M4 =>
az (some v3) fun A5 k6 k7 =>
aX M4 (cl [(.slice A5 k6 k7), (iV 0)] 147) fun k8 M9 =>
aX M9 (.cells #[(.func (.func 59) #[(.pointer (some ⟨k8, 0, none⟩))] #[]), (.func (.func 60) #[(.pointer (some ⟨k8, 0, none⟩))] #[]), (.slice none 0 0), .nilFunc] 152 (0, 0)) fun fm jO =>
K (.pointer (some ⟨fm, 0, none⟩)) jO) Kp) :
 aa Tryz.prog 16 #[.slice B0 m0 c0] M K Kp := vw [] Tryz.func16 h
theorem mW {b0 o0 : Nat} (h :
aX M (cl [] 95) fun k1 M2 =>
rS M2 b0 (o0 + 2) fun A3 k4 k5 =>
aA 149 (some ⟨k1, 0, none⟩) 0 0 A3 k4 k5 M2 (fun v6 M7 =>
az (some v6) fun A8 k9 fm =>
K (.slice A8 k9 fm) M7) Kp) :
 aa Tryz.prog 76 #[.pointer (some ⟨b0, o0, none⟩)] M K Kp := vw [] Tryz.func76 h
theorem nQ {b0 o0 : Nat} {x1 : Int} {x2 : Int} (h :
aH (Mem.ld M ⟨b0, (o0 + 1), none⟩) .i64 fun n1 =>
az (Mem.ld M ⟨b0, o0, none⟩) fun A2 k3 k4 =>
aM (decide ((n1 : Int) ≥ ((k3 : Nat) : Int)))
 (Kp [{ v := (.iface 240 (.agg #[])), recovered := false }] M)
 (aH (Mem.ld M ⟨b0, (o0 + 1), none⟩) .i64 fun n5 =>
 aI M ⟨b0, (o0 + 1), none⟩ (.int .i64 (IntKind.wrap .i64 (n5 + 1))) fun M6 =>
 az (Mem.ld M6 ⟨b0, o0, none⟩) fun A7 k8 k9 =>
 aH (Mem.ld M6 ⟨b0, (o0 + 1), none⟩) .i64 fun iS =>
 ((0 : Int) ≤ (IntKind.wrap .i64 (iS - 1))) ∧
 (((IntKind.wrap .i64 (iS - 1)) : Int) < ((k8 : Nat) : Int)) ∧
 aF A7 fun eT gx =>
 aH (Mem.ld M6 ⟨eT, (gx + (Int.toNat (IntKind.wrap .i64 (iS - 1)))), none⟩) .u64 fun kY =>
 (((IntKind.wrap .u64 x2) : Int) ≠ 0) ∧
 K (.int .u64 (Int.tmod kY (IntKind.wrap .u64 x2))) M6)) :
 aa Tryz.prog 59 ([.pointer (some ⟨b0, o0, none⟩), .int .i64 x1, .int .i64 x2] : List Value).toArray M K Kp :=
 b6 (C := Cx) good [(1, .bQ [0, 1, 3, 7, 0, 16, 48, 112, 240, 511] (.step 0 (.step 1 (.step 2 (.step 4 (.step 5 (.step 6 (.step 3 (.step 7 (.step 8 (.step 9 .done))))))))))), (4, .bQ [0, 1, 3, 7, 0, 16, 48, 112, 240, 511, 1023, 0, 2048, 8191, 16383] (.step 0 (.step 1 (.step 2 (.step 4 (.step 5 (.step 6 (.step 11 (.step 12 (.step 3 (.step 7 (.step 8 (.step 9 (.step 10 (.step 13 (.step 14 .done))))))))))))))))] Tryz.func59 (by kernel_rfl) (by kernel_rfl) h
theorem wI {u0 : Value} (h :
aX M xK fun k1 M2 =>
aX M2 Rh fun k3 M4 =>
aX M4 xK fun k5 M6 =>
sT M6 k3 0 (iV 0) fun M7 =>
sT5 M7 k5 (iV 0) (iV 0) (iV 0) (iV 0) (.int .u64 0) fun s9 =>
aa Tryz.prog 116 #[u0, (.pointer (some ⟨k3, 0, none⟩)), (.pointer (some ⟨k5, 0, none⟩))] s9 (fun Hj mh =>
(Hj = (.tuple #[])) ∧
rI mh k3 0 fun jm =>
Lz mh k5 0 fun lN lA kf wY iD =>
sT5 mh k1 (iV lN) (iV lA) (iV kf) (iV wY) (.int .u64 iD) fun Hv =>
Lz Hv k1 0 fun mw mV vR DG DM =>
K (.tuple #[(iV jm), (.agg #[(iV mw), (iV mV), (iV vR), (iV DG), (.int .u64 DM)])]) Hv) Kp) :
 aa Tryz.prog 61 #[u0] M K Kp := vw [(3, .bQ [0, 0, 1, 7] (sy [0, 2, 1, 3] .done))] Tryz.func61 h
theorem qC {b0 o0 : Nat} {x1 : Int} {x2 : Int} (h :
aH (Mem.ld M ⟨b0, (o0 + 1), none⟩) .i64 fun n1 =>
az (Mem.ld M ⟨b0, o0, none⟩) fun A2 k3 k4 =>
aM (decide ((n1 : Int) ≥ ((k3 : Nat) : Int)))
 (Kp [{ v := (.iface 240 (.agg #[])), recovered := false }] M)
 (az (Mem.ld M ⟨b0, o0, none⟩) fun A5 k6 k7 =>
 aH (Mem.ld M ⟨b0, (o0 + 1), none⟩) .i64 fun n8 =>
 ((0 : Int) ≤ n8) ∧
 ((n8 : Int) < ((k6 : Nat) : Int)) ∧
 aF A5 fun k9 fm =>
 aH (Mem.ld M ⟨k9, (fm + ((Int.toNat n8) * 2)), none⟩) .i64 fun gG =>
 aH (Mem.ld M ⟨k9, ((fm + ((Int.toNat n8) * 2)) + 1), none⟩) .u64 fun iQ =>
 aX M (.cells #[(.int .i64 0), (.int .u64 0)] 95 (0, 0)) fun c7 mh =>
 aI mh ⟨c7, 0, none⟩ (.int .i64 gG) fun qU =>
 aI qU ⟨c7, (0 + 1), none⟩ (.int .u64 iQ) fun fh =>
 aH (Mem.ld fh ⟨c7, 0, none⟩) .i64 fun lA =>
 aM (lA != x1)
  (aH (Mem.ld fh ⟨b0, (o0 + 1), none⟩) .i64 fun kf =>
  aH (Mem.ld fh ⟨c7, 0, none⟩) .i64 fun wY =>
  aH (Mem.ld fh ⟨c7, (0 + 1), none⟩) .u64 fun iD =>
  Kp [{ v := (.iface 97 (.agg #[(.int .i64 kf), (.int .i64 x1), (.int .i64 x2), (.int .i64 wY), (.int .u64 iD)])), recovered := false }] fh)
  (aH (Mem.ld fh ⟨c7, (0 + 1), none⟩) .u64 fun mO =>
  aM (decide ((mO : Int) ≥ (IntKind.wrap .u64 x2)))
   (aH (Mem.ld fh ⟨b0, (o0 + 1), none⟩) .i64 fun qP =>
   aH (Mem.ld fh ⟨c7, 0, none⟩) .i64 fun BW =>
   aH (Mem.ld fh ⟨c7, (0 + 1), none⟩) .u64 fun CY =>
   Kp [{ v := (.iface 97 (.agg #[(.int .i64 qP), (.int .i64 x1), (.int .i64 x2), (.int .i64 BW), (.int .u64 CY)])), recovered := false }] fh)
   (aH (Mem.ld fh ⟨b0, (o0 + 1), none⟩) .i64 fun mT =>
   aI fh ⟨b0, (o0 + 1), none⟩ (.int .i64 (IntKind.wrap .i64 (mT + 1))) fun uu =>
   aH (Mem.ld uu ⟨c7, (0 + 1), none⟩) .u64 fun mV =>
   K (.int .u64 mV) uu)))) :
 aa Tryz.prog 198 ([.pointer (some ⟨b0, o0, none⟩), .int .i64 x1, .int .i64 x2] : List Value).toArray M K Kp :=
 b6 (C := Cx) good [(1, .bQ [0, 1, 3, 7, 0, 16, 48, 112, 240, 511] (.step 0 (.step 1 (.step 2 (.step 4 (.step 5 (.step 6 (.step 3 (.step 7 (.step 8 (.step 9 .done))))))))))), (3, .bQ [0, 1, 3, 7, 0, 16, 48, 112, 255, 511, 0, 2047] (.step 0 (.step 1 (.step 2 (.step 4 (.step 5 (.step 6 (.step 3 (.step 7 (.step 8 (.step 9 (.step 10 (.step 11 .done))))))))))))), (5, .bQ [0, 1, 3, 7, 0, 0, 0, 127, 255, 511] (.step 0 (.step 1 (.step 2 (.step 4 (.step 5 (.step 3 (.step 6 (.step 7 (.step 8 (.step 9 .done)))))))))))] Tryz.func198 (by kernel_rfl) (by kernel_rfl) h
theorem nR {b0 o0 : Nat} {x1 : Int} {x2 : Int} (h :
dD (Mem.ld M ⟨b0, o0, none⟩) fun v1 =>
g6 Cx v1 [(iV x1), (iV (if (1 : Int) > x2 then 1 else x2))] M (fun v2 M3 =>
aH (some v2) .u64 fun n4 =>
aX M3 Hl fun k5 M6 =>
Zq M6 k5 (iV x1) (.int .u64 n4) fun M8 =>
rS M8 b0 (o0 + 2) fun A9 fm eT =>
Zr M8 k5 0 fun iQ kY =>
aX M8 (cl [(iV iQ), (.int .u64 kY)] 95) fun jE qU =>
aA 149 A9 fm eT (some ⟨jE, 0, none⟩) 1 1 qU (fun Mc mo =>
az (some Mc) fun Ju iz kH =>
sT mo b0 (o0 + 2) (.slice Ju iz kH) fun wB =>
dD (Mem.ld wB ⟨b0, (o0 + 3), none⟩) fun Js =>
G4 Js fun t23 =>
aM (!t23)
 (dD (Mem.ld wB ⟨b0, (o0 + 3), none⟩) fun WL =>
 Zr wB k5 0 fun mT mw =>
 g6 Cx WL [(.agg #[(iV mT), (.int .u64 mw)])] wB (fun Pf uR =>
 (Pf = (.tuple #[])) ∧
 rU uR k5 1 fun DG =>
 K (iV (IntKind.wrap .i64 DG)) uR) Kp)
 (rU wB k5 1 fun DM =>
 K (iV (IntKind.wrap .i64 DM)) wB)) Kp) Kp) :
 aa Tryz.prog 107 #[.pointer (some ⟨b0, o0, none⟩), .int .i64 x1, .int .i64 x2] M K Kp := vw [(2, .bQ [0, 0, 2, 6, 14, 0, 32, 126, 255, 511, 1023] (sy [0, 1, 2, 3, 4, 5, 6, 7, 8, 9, 10] .done)), (4, .bQ [0, 1, 3, 7, 0, 31] (sy [0, 1, 2, 3, 4, 5] .done))] Tryz.func107 h
end Go.Proofs
namespace Go.Proofs
open Go.AF
set_option maxRecDepth 100000
variable {M : Mem} {K : Value → Mem → Prop} {Kp : List PanicEntry → Mem → Prop}
theorem Ca {x0 : Int} (h :
aa Tryz.prog 115 #[(iV x0)] M (fun v1 M2 =>
b8 (some v1) fun A3 =>
aX M2 (cl [(iV (-1)), (.pointer A3)] 237) fun k4 M5 =>
K (.pointer (some ⟨k4, 0, none⟩)) M5) Kp) :
 aa Tryz.prog 57 #[.int .i64 x0] M K Kp := vw [] Tryz.func57 h
theorem qD {b0 o0 : Nat} {B1 : Option Addr} {m1 c1 : Nat} (h :
az (Mem.ld M ⟨b0, o0, none⟩) fun A1 k2 k3 =>
aN Tryz.prog (Go.Builtin.append_ #[36, 36] 36 #[(.slice A1 k2 k3), (.slice B1 m1 c1)]) M (fun v4 M5 =>
az (some v4) fun A6 k7 k8 =>
aI M5 ⟨b0, o0, none⟩ (.slice A6 k7 k8) fun M9 =>
K (.tuple #[]) M9) Kp) :
 aa Tryz.prog 58 ([.pointer (some ⟨b0, o0, none⟩), .slice B1 m1 c1] : List Value).toArray M K Kp :=
 b6 (C := Cx) good [] Tryz.func58 (by kernel_rfl) (by kernel_rfl) h
theorem qE {b0 o0 : Nat} (h :
rI M b0 o0 fun n1 =>
K (iV n1) M) :
 aa Tryz.prog 148 #[.pointer (some ⟨b0, o0, none⟩)] M K Kp := vw [] Tryz.func148 h
theorem DW {x0 : Int} (h :
aN Tryz.prog (Go.Instr.makeSlice 36 (iV (if (1024 : Int) < (if (1 : Int) > x0 then 1 else x0) then 1024 else (if (1 : Int) > x0 then 1 else x0))) (iV (if (1024 : Int) < (if (1 : Int) > x0 then 1 else x0) then 1024 else (if (1 : Int) > x0 then 1 else x0)))) M (fun v1 M2 =>
az (some v1) fun A3 k4 k5 =>
aX M2 (cl [(.slice A3 k4 k5), (iV 0), (iV 0)] 309) fun k6 M7 =>
K (.pointer (some ⟨k6, 0, none⟩)) M7) Kp) :
 aa Tryz.prog 115 #[.int .i64 x0] M K Kp := vw [] Tryz.func115 h
theorem rT {b0 o0 : Nat} (h :
rI M b0 o0 fun n1 =>
aM (n1 != (-1))
 (sT M b0 o0 (iV (-1)) fun M2 =>
 K (.tuple #[(iV n1), (.bool true)]) M2)
 (rP M b0 (o0 + 1) fun A3 =>
 aa Tryz.prog 177 #[(.pointer A3)] M (fun v4 M5 =>
 ∃ n6 : Int, ∃ t7 : Bool, (v4 = (.tuple #[(iV n6), (.bool t7)])) ∧
 aM (!t7)
 (K (.tuple #[(iV (-1)), (.bool false)]) M5)
 (K (.tuple #[(iV n6), (.bool true)]) M5)) Kp)) :
 aa Tryz.prog 149 #[.pointer (some ⟨b0, o0, none⟩)] M K Kp := vw [] Tryz.func149 h
theorem jb {b0 o0 : Nat} {b1 o1 : Nat} (h :
Go.AF.ptrEq M (some ⟨b0, o0, none⟩) (some ⟨b1, o1, none⟩) fun t1 =>
aM t1
 (K (.tuple #[(iV (-1)), (.bool false)]) M)
 (rP M b1 (o1 + 1) fun A2 =>
 aa Tryz.prog 181 #[(.pointer A2)] M (fun v3 M4 =>
 aH (some v3) .i64 fun n5 =>
 aM (n5 == 0)
 (rI M4 b1 o1 fun n6 =>
 sT M4 b1 o1 (iV (-1)) fun M7 =>
 K (.tuple #[(iV n6), (.bool (n6 != (-1)))]) M7)
 (((2 : Int) ≠ 0) ∧
 rP M4 b0 (o0 + 1) fun A8 =>
 rP M4 b1 (o1 + 1) fun A9 =>
 rP M4 b0 (o0 + 1) fun EZ =>
 aa Tryz.prog 183 #[(.pointer A8)] M4 (fun v11 s9 =>
 aH (some v11) .i64 fun kY =>
 ((Mem.ld s9 ⟨b0, (o0 + 1), none⟩) = (some (.pointer EZ))) ∧
 ((Mem.ld s9 ⟨b1, (o1 + 1), none⟩) = (some (.pointer A9))) ∧
 aa Tryz.prog 181 #[(.pointer EZ)] s9 (fun WN qU =>
 aH (some WN) .i64 fun lN =>
 ((Mem.ld qU ⟨b0, (o0 + 1), none⟩) = (some (.pointer EZ))) ∧
 ((Mem.ld qU ⟨b1, (o1 + 1), none⟩) = (some (.pointer A9))) ∧
 aa Tryz.prog 182 #[(.pointer A9), (iV (if ((IntKind.wrap .i64 ((IntKind.wrap .i64 (kY - lN)) + 1)) : Int) < (IntKind.wrap .i64 (n5 - (IntKind.wrap .i64 (Int.tdiv n5 2)))) then (IntKind.wrap .i64 ((IntKind.wrap .i64 (kY - lN)) + 1)) else (IntKind.wrap .i64 (n5 - (IntKind.wrap .i64 (Int.tdiv n5 2))))))] qU (fun Ta qg =>
 az (some Ta) fun E0 kH eZ =>
 ((Mem.ld qg ⟨b0, (o0 + 1), none⟩) = (some (.pointer EZ))) ∧
 ((Mem.ld qg ⟨b1, (o1 + 1), none⟩) = (some (.pointer A9))) ∧
 ((0 : Int) ≤ eZ) ∧
 ((eZ : Int) ≤ eZ) ∧
 ((0 : Int) ≤ kH) ∧
 ((kH : Int) ≤ eZ) ∧
 ((0 : Int) ≤ 1) ∧
 ((1 : Int) ≤ kH) ∧
 ∃ Z0 : IT, (∃ jo, Z0 jo [(iV 0)] qg) ∧
 ∀ (sE : Nat) (_ : Nat → Value) (mw : Int) (wZ : Mem), (Z0 sE [(iV mw)] wZ) → aM (decide ((mw : Int) < ((((Int.toNat (kH : Int)) - 1) : Nat) : Int)))
 ((0 ≤ mw) ∧
 ((mw : Int) < ((((Int.toNat (kH : Int)) - 1) : Nat) : Int)) ∧
 aF (lC E0 1 (Int.toNat (eZ : Int)) 1) fun qT gY =>
 rI wZ qT (gY + (Int.toNat mw)) fun DM =>
 rP wZ b0 (o0 + 1) fun Ph =>
 aa Tryz.prog 184 #[(.pointer Ph), (iV DM)] wZ (fun Tn zq =>
 cK (some Tn) fun t34 =>
 ∃ BV : Nat, (BV < sE) ∧
 Z0 BV [(iV (IntKind.wrap .i64 (mw + 1)))] zq) Kp)
 (((0 : Int) ≤ 0) ∧
 ((0 : Int) < kH) ∧
 aF E0 fun LY jQ =>
 rI wZ LY (jQ + 0) fun Jm =>
 K (.tuple #[(iV Jm), (.bool true)]) wZ)) Kp) Kp) Kp)) Kp)) :
 aa Tryz.prog 151 #[.pointer (some ⟨b0, o0, none⟩), .pointer (some ⟨b1, o1, none⟩)] M K Kp := vw [(8, .bQ [0, 1, 3, 7, 0, 0, 32, 112, 0, 256, 768, 1792, 3840, 0, 8192, 24576, 57344, 130816, 261888, 524032, 1048560, 2097151, 4194303] (sy [0, 1, 2, 4, 5, 6, 7, 8, 9, 10, 13, 14, 15, 11] (.eN 3 (.eN 16 (sy [12, 17, 18, 19, 20, 21, 22] .done))))), (2000000, .loop [(56, .c (.int .i64))])] Tryz.func151 h
theorem oM {b0 o0 : Nat} {x1 : Int} {b2 o2 : Nat} (h :
rI M b0 o0 fun n1 =>
sT M b0 o0 (iV x1) fun M2 =>
aM (n1 == (-1))
 (K (iV 0) M2)
 (aa Tryz.prog 185 #[(.pointer (some ⟨b0, o0, none⟩)), (iV n1), (.pointer (some ⟨b2, o2, none⟩))] M2 (fun v3 M4 =>
 aH (some v3) .i64 fun n5 =>
 K (iV n5) M4) Kp)) :
 aa Tryz.prog 152 #[.pointer (some ⟨b0, o0, none⟩), .int .i64 x1, .pointer (some ⟨b2, o2, none⟩)] M K Kp := vw [] Tryz.func152 h
theorem uY {b0 o0 : Nat} (h :
rI M b0 (o0 + 2) fun n1 =>
aM (n1 == 0)
 (K (.tuple #[(iV 0), (.bool false)]) M)
 (rS M b0 o0 fun A2 k3 k4 =>
 rI M b0 (o0 + 1) fun n5 =>
 (0 ≤ n5) ∧
 (n5 < k3) ∧
 aF A2 fun k6 k7 =>
 rI M k6 (k7 + (Int.toNat n5)) fun n8 =>
 rI M b0 (o0 + 1) fun n9 =>
 rS M b0 o0 fun EZ eT gx =>
 ((eT : Int) ≠ 0) ∧
 sT M b0 (o0 + 1) (iV (Int.tmod (IntKind.wrap .i64 (n9 + 1)) (eT : Int))) fun kj =>
 rI kj b0 (o0 + 2) fun pR =>
 sT kj b0 (o0 + 2) (iV (IntKind.wrap .i64 (pR - 1))) fun qU =>
 K (.tuple #[(iV n8), (.bool true)]) qU)) :
 aa Tryz.prog 177 #[.pointer (some ⟨b0, o0, none⟩)] M K Kp := vw [(3, .bQ [0, 1, 3, 7, 0, 16, 48, 112, 255, 511, 1023] (sy [0, 1, 2, 4, 5, 6, 3, 7, 8, 9, 10] .done)), (4, .bQ [0, 0, 2, 6, 14, 30, 0, 64, 192, 448, 960, 2046, 4095, 8191, 16383] (sy [0, 1, 2, 3, 6, 7, 8, 4, 5, 9, 10, 11, 12, 13, 14] .done))] Tryz.func177 h
theorem qF {b0 o0 : Nat} {b1 o1 : Nat} (h :
rI M b0 o0 fun n1 =>
aM (n1 == (-1))
 (K (iV 0) M)
 (sT M b0 o0 (iV (-1)) fun M2 =>
 aa Tryz.prog 185 #[(.pointer (some ⟨b0, o0, none⟩)), (iV n1), (.pointer (some ⟨b1, o1, none⟩))] M2 (fun v3 M4 =>
 aH (some v3) .i64 fun n5 =>
 K (iV n5) M4) Kp)) :
 aa Tryz.prog 178 #[.pointer (some ⟨b0, o0, none⟩), .pointer (some ⟨b1, o1, none⟩)] M K Kp := vw [] Tryz.func178 h
theorem oN {b0 o0 : Nat} {x1 : Int} (h :
az (Mem.ld M ⟨b0, o0, none⟩) fun A1 k2 k3 =>
aX M (.cells #[] 3 (0, 0)) fun k4 M5 =>
az (Mem.ld M5 ⟨b0, o0, none⟩) fun A6 k7 k8 =>
((0 : Int) ≤ ((k8 : Nat) : Int)) ∧
((((k8 : Nat) : Int) : Int) ≤ ((k8 : Nat) : Int)) ∧
((0 : Int) ≤ (if (((k2 : Nat) : Int) : Int) < (if (0 : Int) > x1 then 0 else x1) then ((k2 : Nat) : Int) else (if (0 : Int) > x1 then 0 else x1))) ∧
(((if (((k2 : Nat) : Int) : Int) < (if (0 : Int) > x1 then 0 else x1) then ((k2 : Nat) : Int) else (if (0 : Int) > x1 then 0 else x1)) : Int) ≤ ((k8 : Nat) : Int)) ∧
((0 : Int) ≤ 0) ∧
((0 : Int) ≤ (if (((k2 : Nat) : Int) : Int) < (if (0 : Int) > x1 then 0 else x1) then ((k2 : Nat) : Int) else (if (0 : Int) > x1 then 0 else x1))) ∧
aN Tryz.prog (Go.Builtin.append_ #[36, 36] 36 #[(.slice (some ⟨k4, 0, none⟩) 0 0), (.slice (lC A6 0 (Int.toNat ((k8 : Nat) : Int)) 1) ((Int.toNat (if (((k2 : Nat) : Int) : Int) < (if (0 : Int) > x1 then 0 else x1) then ((k2 : Nat) : Int) else (if (0 : Int) > x1 then 0 else x1))) - 0) ((Int.toNat ((k8 : Nat) : Int)) - 0))]) M5 (fun v9 gF =>
az (some v9) fun Ov gx c7 =>
aX gF (.cells #[] 3 (0, 0)) fun jE qU =>
az (Mem.ld qU ⟨b0, o0, none⟩) fun Vr eK fZ =>
((0 : Int) ≤ ((fZ : Nat) : Int)) ∧
((((fZ : Nat) : Int) : Int) ≤ ((fZ : Nat) : Int)) ∧
((0 : Int) ≤ ((eK : Nat) : Int)) ∧
((((eK : Nat) : Int) : Int) ≤ ((fZ : Nat) : Int)) ∧
((0 : Int) ≤ (if (((k2 : Nat) : Int) : Int) < (if (0 : Int) > x1 then 0 else x1) then ((k2 : Nat) : Int) else (if (0 : Int) > x1 then 0 else x1))) ∧
(((if (((k2 : Nat) : Int) : Int) < (if (0 : Int) > x1 then 0 else x1) then ((k2 : Nat) : Int) else (if (0 : Int) > x1 then 0 else x1)) : Int) ≤ ((eK : Nat) : Int)) ∧
aN Tryz.prog (Go.Builtin.append_ #[36, 36] 36 #[(.slice (some ⟨jE, 0, none⟩) 0 0), (.slice (lC Vr (Int.toNat (if (((k2 : Nat) : Int) : Int) < (if (0 : Int) > x1 then 0 else x1) then ((k2 : Nat) : Int) else (if (0 : Int) > x1 then 0 else x1))) (Int.toNat ((fZ : Nat) : Int)) 1) ((Int.toNat ((eK : Nat) : Int)) - (Int.toNat (if (((k2 : Nat) : Int) : Int) < (if (0 : Int) > x1 then 0 else x1) then ((k2 : Nat) : Int) else (if (0 : Int) > x1 then 0 else x1)))) ((Int.toNat ((fZ : Nat) : Int)) - (Int.toNat (if (((k2 : Nat) : Int) : Int) < (if (0 : Int) > x1 then 0 else x1) then ((k2 : Nat) : Int) else (if (0 : Int) > x1 then 0 else x1)))))]) qU (fun Pn rA =>
az (some Pn) fun BY gU jo =>
aI rA ⟨b0, o0, none⟩ (.slice BY gU jo) fun jn =>
K (.slice Ov gx c7) jn) Kp) Kp) :
 aa Tryz.prog 179 ([.pointer (some ⟨b0, o0, none⟩), .int .i64 x1] : List Value).toArray M K Kp :=
 b6 (C := Cx) good [] Tryz.func179 (by kernel_rfl) (by kernel_rfl) h
theorem oO {b0 o0 : Nat} {b1 o1 : Nat} {x2 : Int} (h :
rP M b0 (o0 + 1) fun A1 =>
rP M b0 (o0 + 1) fun A2 =>
aa Tryz.prog 202 #[(.pointer (some ⟨b1, o1, none⟩))] M (fun v3 M4 =>
aH (some v3) .i64 fun n5 =>
((Mem.ld M4 ⟨b0, (o0 + 1), none⟩) = (some (.pointer A2))) ∧
((Mem.ld M4 ⟨b0, (o0 + 1), none⟩) = (some (.pointer A1))) ∧
(((if (1 : Int) > x2 then 1 else x2) : Int) ≠ 0) ∧
aa Tryz.prog 183 #[(.pointer A1)] M4 (fun v6 M7 =>
aH (some v6) .i64 fun n8 =>
((Mem.ld M7 ⟨b0, (o0 + 1), none⟩) = (some (.pointer A2))) ∧
((Mem.ld M7 ⟨b0, (o0 + 1), none⟩) = (some (.pointer A1))) ∧
aa Tryz.prog 181 #[(.pointer A2)] M7 (fun v9 gF =>
aH (some v9) .i64 fun gG =>
((Mem.ld gF ⟨b0, (o0 + 1), none⟩) = (some (.pointer A2))) ∧
((Mem.ld gF ⟨b0, (o0 + 1), none⟩) = (some (.pointer A1))) ∧
aM (decide ((x2 : Int) < 1))
 (aa Tryz.prog 179 #[(.pointer (some ⟨b1, o1, none⟩)), (iV 1)] gF (fun CX kj =>
 az (some CX) fun mq gX gA =>
 aM ((gX : Int) == 0)
 (K (.tuple #[(iV (-1)), (.bool false)]) kj)
 (((0 : Int) ≤ gA) ∧
 ((gA : Int) ≤ gA) ∧
 ((0 : Int) ≤ gX) ∧
 ((gX : Int) ≤ gA) ∧
 ((0 : Int) ≤ 1) ∧
 ((1 : Int) ≤ gX) ∧
 ∃ To : IT, (∃ fZ, To fZ [(iV 0)] kj) ∧
 ∀ (iz : Nat) (_ : Nat → Value) (mO : Int) (rC : Mem), (To iz [(iV mO)] rC) → aM (decide ((mO : Int) < ((((Int.toNat (gX : Int)) - 1) : Nat) : Int)))
 ((0 ≤ mO) ∧
 ((mO : Int) < ((((Int.toNat (gX : Int)) - 1) : Nat) : Int)) ∧
 aF (lC mq 1 (Int.toNat (gA : Int)) 1) fun jo sE =>
 rI rC jo (sE + (Int.toNat mO)) fun mT =>
 rP rC b0 (o0 + 1) fun WU =>
 aa Tryz.prog 184 #[(.pointer WU), (iV mT)] rC (fun Pf uR =>
 cK (some Pf) fun t29 =>
 ∃ mQ : Nat, (mQ < iz) ∧
 To mQ [(iV (IntKind.wrap .i64 (mO + 1)))] uR) Kp)
 (((0 : Int) ≤ 0) ∧
 ((0 : Int) < gX) ∧
 aF mq fun uq ur =>
 rI rC uq (ur + 0) fun O8 =>
 K (.tuple #[(iV O8), (.bool true)]) rC))) Kp)
 (aa Tryz.prog 179 #[(.pointer (some ⟨b1, o1, none⟩)), (iV (if ((IntKind.wrap .i64 ((IntKind.wrap .i64 (n8 - gG)) + 1)) : Int) < (IntKind.wrap .i64 ((IntKind.wrap .i64 (Int.tdiv n5 (if (1 : Int) > x2 then 1 else x2))) + 1)) then (IntKind.wrap .i64 ((IntKind.wrap .i64 (n8 - gG)) + 1)) else (IntKind.wrap .i64 ((IntKind.wrap .i64 (Int.tdiv n5 (if (1 : Int) > x2 then 1 else x2))) + 1))))] gF (fun v34 wH =>
 az (some v34) fun Rs jQ iE =>
 aM ((jQ : Int) == 0)
 (K (.tuple #[(iV (-1)), (.bool false)]) wH)
 (((0 : Int) ≤ iE) ∧
 ((iE : Int) ≤ iE) ∧
 ((0 : Int) ≤ jQ) ∧
 ((jQ : Int) ≤ iE) ∧
 ((0 : Int) ≤ 1) ∧
 ((1 : Int) ≤ jQ) ∧
 ∃ Z1 : IT, (∃ Jq, Z1 Jq [(iV 0)] wH) ∧
 ∀ (Jn : Nat) (_ : Nat → Value) (DD : Int) (B6 : Mem), (Z1 Jn [(iV DD)] B6) → aM (decide ((DD : Int) < ((((Int.toNat (jQ : Int)) - 1) : Nat) : Int)))
 ((0 ≤ DD) ∧
 ((DD : Int) < ((((Int.toNat (jQ : Int)) - 1) : Nat) : Int)) ∧
 aF (lC Rs 1 (Int.toNat (iE : Int)) 1) fun Jo LO =>
 rI B6 Jo (LO + (Int.toNat DD)) fun xN =>
 rP B6 b0 (o0 + 1) fun Jz =>
 aa Tryz.prog 184 #[(.pointer Jz), (iV xN)] B6 (fun Jp wX =>
 cK (some Jp) fun t51 =>
 ∃ tf : Nat, (tf < Jn) ∧
 Z1 tf [(iV (IntKind.wrap .i64 (DD + 1)))] wX) Kp)
 (((0 : Int) ≤ 0) ∧
 ((0 : Int) < jQ) ∧
 aF Rs fun pQ Oq =>
 rI B6 pQ (Oq + 0) fun Z2 =>
 K (.tuple #[(iV Z2), (.bool true)]) B6))) Kp)) Kp) Kp) Kp) :
 aa Tryz.prog 180 #[.pointer (some ⟨b0, o0, none⟩), .pointer (some ⟨b1, o1, none⟩), .int .i64 x2] M K Kp := vw [(1, .bQ [0, 1, 0, 4, 15, 31, 0, 64, 192, 448, 963, 0, 2048, 6144, 14336, 32707, 65475, 131011, 262143, 524287] (sy [0, 2, 3, 6, 7, 8, 11, 12, 13] (.eN 9 (.eN 14 (sy [1, 4, 5, 10, 15, 16, 17, 18, 19] .done))))), (2000000, .loop [(42, .c (.int .i64))])] Tryz.func180 h
theorem uZ {b0 o0 : Nat} (h :
rI M b0 (o0 + 2) fun n1 =>
K (iV n1) M) :
 aa Tryz.prog 181 #[.pointer (some ⟨b0, o0, none⟩)] M K Kp := vw [] Tryz.func181 h
theorem tC {b0 o0 : Nat} {x1 : Int} (h :
∃ I1 : IT, (∃ k2, I1 k2 [(.slice none 0 0)] M) ∧
∀ (k3 : Nat) (_ : Nat → Value) (A5 : Option Addr) (k6 : Nat) (k7 : Nat) (M8 : Mem), (I1 k3 [(.slice A5 k6 k7)] M8) → aM (decide ((k6 : Int) < x1))
 (aa Tryz.prog 177 #[(.pointer (some ⟨b0, o0, none⟩))] M8 (fun v9 gF =>
 ∃ gG : Int, ∃ t12 : Bool, (v9 = (.tuple #[(iV gG), (.bool t12)])) ∧
 aM (!t12)
 (K (.slice A5 k6 k7) gF)
 (aX gF (cl [(iV gG)] 3) fun c7 mh =>
 aA 36 A5 k6 k7 (some ⟨c7, 0, none⟩) 1 1 mh (fun DH fh =>
 az (some DH) fun Oo fZ iz =>
 ∃ kH : Nat, (kH < k3) ∧
 I1 kH [(.slice Oo fZ iz)] fh) Kp)) Kp)
 (K (.slice A5 k6 k7) M8)) :
 aa Tryz.prog 182 #[.pointer (some ⟨b0, o0, none⟩), .int .i64 x1] M K Kp := vw [(2000000, .loop [(5, .c .sl)])] Tryz.func182 h
theorem tD {b0 o0 : Nat} (h :
rS M b0 o0 fun A1 k2 k3 =>
K (iV (k2 : Int)) M) :
 aa Tryz.prog 183 #[.pointer (some ⟨b0, o0, none⟩)] M K Kp := vw [] Tryz.func183 h
theorem tE {b0 o0 : Nat} {x1 : Int} (h :
rI M b0 (o0 + 2) fun n1 =>
rS M b0 o0 fun A2 k3 k4 =>
aM (n1 == (k3 : Int))
 (K (.bool false) M)
 (rS M b0 o0 fun A5 k6 k7 =>
 rI M b0 (o0 + 1) fun n8 =>
 rI M b0 (o0 + 2) fun n9 =>
 rS M b0 o0 fun EZ eT gx =>
 ((eT : Int) ≠ 0) ∧
 ((0 : Int) ≤ (Int.tmod (IntKind.wrap .i64 (n8 + n9)) (eT : Int))) ∧
 (((Int.tmod (IntKind.wrap .i64 (n8 + n9)) (eT : Int)) : Int) < (k6 : Int)) ∧
 aF A5 fun c7 jE =>
 sT M c7 (jE + (Int.toNat (Int.tmod (IntKind.wrap .i64 (n8 + n9)) (eT : Int)))) (iV x1) fun qU =>
 rI qU b0 (o0 + 2) fun lN =>
 sT qU b0 (o0 + 2) (iV (IntKind.wrap .i64 (lN + 1))) fun mo =>
 K (.bool true) mo)) :
 aa Tryz.prog 184 #[.pointer (some ⟨b0, o0, none⟩), .int .i64 x1] M K Kp := vw [(1, .bQ [0, 1, 3, 7, 0, 16, 48, 112, 240, 511] (sy [0, 1, 2, 4, 5, 6, 3, 7, 8, 9] .done)), (3, .bQ [0, 1, 3, 7, 0, 16, 48, 112, 0, 256, 768, 1792, 4080, 0, 8192, 24576, 57344, 122880, 262128, 0, 1048575, 2097151] (sy [0, 1, 2, 4, 5, 6, 8, 9, 10, 13, 14, 15, 19, 3, 7, 11, 12, 16, 17, 18, 20, 21] .done))] Tryz.func184 h
theorem rV {b0 o0 : Nat} {x1 : Int} {b2 o2 : Nat} (h :
rP M b0 (o0 + 1) fun A1 =>
aa Tryz.prog 184 #[(.pointer A1), (iV x1)] M (fun v2 M3 =>
cK (some v2) fun t4 =>
aM t4
 (K (iV 0) M3)
 (rP M3 b0 (o0 + 1) fun A5 =>
 rP M3 b0 (o0 + 1) fun A6 =>
 (True) ∧
 aa Tryz.prog 181 #[(.pointer A5)] M3 (fun v7 M8 =>
 aH (some v7) .i64 fun n9 =>
 ((Mem.ld M8 ⟨b0, (o0 + 1), none⟩) = (some (.pointer A6))) ∧
 ((2 : Int) ≠ 0) ∧
 (True) ∧
 aa Tryz.prog 182 #[(.pointer A6), (iV (IntKind.wrap .i64 (Int.tdiv n9 2)))] M8 (fun v10 jO =>
 az (some v10) fun zp c7 jE =>
 ((Mem.ld jO ⟨b0, (o0 + 1), none⟩) = (some (.pointer A6))) ∧
 aX jO (cl [(iV x1)] 3) fun gX fh =>
 aA 36 zp c7 jE (some ⟨gX, 0, none⟩) 1 1 fh (fun Ta qg =>
 az (some Ta) fun E0 kH eZ =>
 ((Mem.ld qg ⟨b0, (o0 + 1), none⟩) = (some (.pointer A6))) ∧
 aa Tryz.prog 58 #[(.pointer (some ⟨b2, o2, none⟩)), (.slice E0 kH eZ)] qg (fun Js j5 =>
 (Js = (.tuple #[])) ∧
 K (iV (kH : Int)) j5) Kp) Kp) Kp) Kp)) Kp) :
 aa Tryz.prog 185 #[.pointer (some ⟨b0, o0, none⟩), .int .i64 x1, .pointer (some ⟨b2, o2, none⟩)] M K Kp := vw [(3, .bQ [0, 1, 3, 7, 0, 16, 48, 112, 240, 496, 1023, 0, 2048, 8191, 16383] (sy [0, 1, 2, 4, 5, 6, 11, 7] (.eN 3 (.late 8 (sy [9] (.late 10 (sy [12, 13, 14] .done)))))))] Tryz.func185 h
theorem qG {b0 o0 : Nat} (h :
az (Mem.ld M ⟨b0, o0, none⟩) fun A1 k2 k3 =>
K (.int .i64 ((k2 : Nat) : Int)) M) :
 aa Tryz.prog 202 ([.pointer (some ⟨b0, o0, none⟩)] : List Value).toArray M K Kp :=
 b6 (C := Cx) good [] Tryz.func202 (by kernel_rfl) (by kernel_rfl) h
end Go.Proofs
namespace Go.Proofs
open Go.AF
set_option maxRecDepth 100000
variable {M : Mem} {K : Value → Mem → Prop} {Kp : List PanicEntry → Mem → Prop}
theorem Cb {DN : Option Addr} {DO DP : Nat} {DQ : Option Addr} {DR DS : Nat} {lP : Int} {DT : Option Addr} {DU DV : Nat} {cL : Int} {cN : Int} {cO : Int} {fq : Int} {b2 o2 : Nat} (h :
aX M (cl [(.slice DN DO DP), (.slice DQ DR DS), (iV lP), (.slice DT DU DV)] 39) fun k1 M2 =>
aX M2 (cl [(iV cL), (iV cN), (iV cO), (iV fq)] 29) fun k3 M4 =>
Ly M4 k1 0 fun A5 k6 k7 A8 k9 fm gG zp c7 jE =>
iB M4 k3 0 fun jm lN lA kf =>
aa Tryz.prog 56 #[(.agg #[(.slice A5 k6 k7), (.slice A8 k9 fm), (iV gG), (.slice zp c7 jE)])] M4 (fun Pn rA =>
b8 (some Pn) fun BY =>
((Mem.iH rA ⟨k3, 0, none⟩ 0 4) = some [(iV jm), (iV lN), (iV lA), (iV kf)]) ∧
aX rA (cl [(.pointer BY), (iV jm), (iV lN), (iV lA), (iV kf), (.slice none 0 0), (.slice none 0 0), (.slice none 0 0), (.pointer (some ⟨b2, o2, none⟩)), (iV 0)] 137) fun gU j5 =>
rI j5 k3 0 fun CY =>
∃ Z3 : IT, (∃ uS, Z3 uS [(iV 0)] j5) ∧
∀ (DE : Nat) (_ : Nat → Value) (DG : Int) (xM : Mem), (Z3 DE [(iV DG)] xM) → aM (decide (DG < CY))
 (∃ Z4 : List Value → Mem → Prop, (rI xM k3 2 fun n32 =>
 (rS xM gU 5 fun LR tg BV =>
 aa Tryz.prog 57 #[(iV n32)] xM (fun v36 FT =>
 b8 (some v36) fun A38 =>
 aX FT (cl [(.pointer A38), (iV 0), (iV (-1))] 141) fun zN S7 =>
 aA 132 LR tg BV (some ⟨zN, 0, none⟩) 1 1 S7 (fun v41 Pp =>
 az (some v41) fun A43 Pc Jo =>
 sT Pp gU 5 (.slice A43 Pc Jo) fun Td =>
 Z4 [] Td) Kp) Kp) ∧
 (aa Tryz.prog 57 #[(iV n32)] xM (fun Z5 LP =>
 b8 (some Z5) fun Z6 =>
 rS LP gU 5 fun Z7 B7 tf =>
 aX LP (cl [(.pointer Z6), (iV 0), (iV (-1))] 141) fun pQ Pb =>
 aA 132 Z7 B7 tf (some ⟨pQ, 0, none⟩) 1 1 Pb (fun Ws SS =>
 az (some Ws) fun ZA Jr Ht =>
 sT SS gU 5 (.slice ZA Jr Ht) fun nD =>
 Z4 [] nD) Kp) Kp) ∧
 True) ∧
 ∀ Z8 : Nat → Value, ∀ sF : Mem, (Z4 [] sF) → ∃ Ru : Nat, (Ru < DE) ∧
 Z3 Ru [(iV (IntKind.wrap .i64 (DG + 1)))] sF)
 (rI xM k3 1 fun n64 =>
 ∃ Z9 : IT, (∃ Mh, Z9 Mh [(iV 0)] xM) ∧
 ∀ (ux : Nat) (_ : Nat → Value) (n69 : Int) (HA : Mem), (Z9 ux [(iV n69)] HA) → aM (decide (n69 < n64))
 (rS HA gU 6 fun WW ZZ PB =>
 aX HA (cl [(iV (-1)), (iV (-1)), (iV 0)] 143) fun FR Cc =>
 aA 133 WW ZZ PB (some ⟨FR, 0, none⟩) 1 1 Cc (fun v76 zO =>
 az (some v76) fun A78 Rv Pz =>
 sT zO gU 6 (.slice A78 Rv Pz) fun M81 =>
 ∃ Ow : Nat, (Ow < ux) ∧
 Z9 Ow [(iV (IntKind.wrap .i64 (n69 + 1)))] M81) Kp)
 (aX HA Rh fun Yw Tp =>
 aa Tryz.prog 58 #[(.pointer (some ⟨gU, 7, none⟩)), (.slice (some ⟨Yw, 0, none⟩) 1 1)] Tp (fun Tq FU =>
 (Tq = (.tuple #[])) ∧
 K (.pointer (some ⟨gU, 0, none⟩)) FU) Kp))) Kp) :
 aa Tryz.prog 15 #[.agg #[.slice DN DO DP, .slice DQ DR DS, .int .i64 lP, .slice DT DU DV], .agg #[.int .i64 cL, .int .i64 cN, .int .i64 cO, .int .i64 fq], .pointer (some ⟨b2, o2, none⟩)] M K Kp := vw [(1, .bQ [0, 1, 0, 0, 15, 31, 63] (sy [3, 0] (.eN 2 (sy [1, 4, 5, 6] .done)))), (2000000, .loop [(16, .c (.int .i64))]), (4, .La [0, 0, 2, 6, 14, 0, 32, 96, 224, 480, 1022, 2047, 4095, 8191] (sy [0, 1, 2, 3, 5, 6] (.fork 4 (sy [7, 8, 9, 10, 11, 12, 13] .done) (.fork 7 (sy [8, 4, 9, 10, 11, 12, 13] .done) .dead))) []), (2000002, .loop [(34, .c (.int .i64))])] Tryz.func15 h
theorem oP {b0 o0 : Nat} (h :
rP M b0 o0 fun A1 =>
K (.pointer A1) M) :
 aa Tryz.prog 18 #[.pointer (some ⟨b0, o0, none⟩)] M K Kp := vw [] Tryz.func18 h
theorem nS {b0 o0 : Nat} (h :
rP M b0 o0 fun A1 =>
aa Tryz.prog 28 #[(.pointer A1)] M (fun v2 M3 =>
∃ n4 n5 : Int, (v2 = (.tuple #[(iV n4), (iV n5)])) ∧
aM (n4 == 1)
 (K (iV 1) M3)
 (aM (n4 == 2)
 (K (iV 2) M3)
 (rP M3 b0 o0 fun A6 =>
 aa Tryz.prog 65 #[(.pointer A6)] M3 (fun v7 M8 =>
 cK (some v7) fun t9 =>
 aM t9
 (K (iV 3) M8)
 (K (iV 0) M8)) Kp))) Kp) :
 aa Tryz.prog 22 #[.pointer (some ⟨b0, o0, none⟩)] M K Kp := vw [] Tryz.func22 h
theorem oQ {b0 o0 : Nat} (h :
rI M b0 (o0 + 9) fun n1 =>
K (iV n1) M) :
 aa Tryz.prog 35 #[.pointer (some ⟨b0, o0, none⟩)] M K Kp := vw [] Tryz.func35 h
theorem qH {b0 o0 : Nat} (h :
aX M (.cells #[(.int .i64 0), (.int .i64 0), (.int .i64 0), (.slice none 0 0)] 43 (0, 0)) fun k1 M2 =>
aa Tryz.prog 22 #[(.pointer (some ⟨b0, o0, none⟩))] M2 (fun v3 M4 =>
aH (some v3) .i64 fun n5 =>
aM (n5 != 0)
 (aI M4 ⟨k1, 0, none⟩ (.int .i64 0) fun M6 =>
 aI M6 ⟨k1, (0 + 1), none⟩ (.int .i64 0) fun M7 =>
 aI M7 ⟨k1, (0 + 2), none⟩ (.int .i64 0) fun M8 =>
 aI M8 ⟨k1, (0 + 3), none⟩ (.slice none 0 0) fun M9 =>
 aH (Mem.ld M9 ⟨k1, 0, none⟩) .i64 fun iS =>
 aH (Mem.ld M9 ⟨k1, (0 + 1), none⟩) .i64 fun gG =>
 aH (Mem.ld M9 ⟨k1, (0 + 2), none⟩) .i64 fun iQ =>
 az (Mem.ld M9 ⟨k1, (0 + 3), none⟩) fun EY jE gX =>
 K (.agg #[(.int .i64 iS), (.int .i64 gG), (.int .i64 iQ), (.slice EY jE gX)]) M9)
 (b8 (Mem.ld M4 ⟨b0, (o0 + 8), none⟩) fun Vr =>
 aH (Mem.ld M4 ⟨b0, ((o0 + 1) + 1), none⟩) .i64 fun lA =>
 aa Tryz.prog 107 #[(.pointer Vr), (.int .i64 1), (.int .i64 (IntKind.wrap .i64 (lA + 1)))] M4 (fun FA jN =>
 aH (some FA) .i64 fun iD =>
 aX jN (.cells #[(.int .i64 0), (.int .i64 0), (.int .i64 0), (.slice none 0 0)] 43 (0, 0)) fun eZ rC =>
 aH (Mem.ld rC ⟨b0, ((o0 + 1) + 1), none⟩) .i64 fun BW =>
 aM (iD == BW)
  (aa Tryz.prog 108 #[(.pointer (some ⟨b0, o0, none⟩))] rC (fun WL Hv =>
  ∃ mw : Int, ∃ mV : Int, ∃ vR : Int, ∃ Rl : Option Addr, ∃ mQ : Nat, ∃ uq : Nat, (WL = (.agg #[(.int .i64 mw), (.int .i64 mV), (.int .i64 vR), (.slice Rl mQ uq)])) ∧
  aI Hv ⟨eZ, 0, none⟩ (.int .i64 mw) fun qQ =>
  aI qQ ⟨eZ, (0 + 1), none⟩ (.int .i64 mV) fun zq =>
  aI zq ⟨eZ, (0 + 2), none⟩ (.int .i64 vR) fun qS =>
  aI qS ⟨eZ, (0 + 3), none⟩ (.slice Rl mQ uq) fun wH =>
  aH (Mem.ld wH ⟨b0, (o0 + 9), none⟩) .i64 fun zM =>
  aI wH ⟨b0, (o0 + 9), none⟩ (.int .i64 (IntKind.wrap .i64 (zM + 1))) fun FT =>
  aH (Mem.ld FT ⟨eZ, 0, none⟩) .i64 fun Jm =>
  aH (Mem.ld FT ⟨eZ, (0 + 1), none⟩) .i64 fun LM =>
  aH (Mem.ld FT ⟨eZ, (0 + 2), none⟩) .i64 fun Po =>
  az (Mem.ld FT ⟨eZ, (0 + 3), none⟩) fun WM LN AH =>
  aI FT ⟨k1, 0, none⟩ (.int .i64 Jm) fun B6 =>
  aI B6 ⟨k1, (0 + 1), none⟩ (.int .i64 LM) fun uw =>
  aI uw ⟨k1, (0 + 2), none⟩ (.int .i64 Po) fun Td =>
  aI Td ⟨k1, (0 + 3), none⟩ (.slice WM LN AH) fun wE =>
  aH (Mem.ld wE ⟨k1, 0, none⟩) .i64 fun Pr =>
  aH (Mem.ld wE ⟨k1, (0 + 1), none⟩) .i64 fun n49 =>
  aH (Mem.ld wE ⟨k1, (0 + 2), none⟩) .i64 fun S5 =>
  az (Mem.ld wE ⟨k1, (0 + 3), none⟩) fun Pa tf pQ =>
  K (.agg #[(.int .i64 Pr), (.int .i64 n49), (.int .i64 S5), (.slice Pa tf pQ)]) wE) Kp)
  (az (Mem.ld rC ⟨b0, (o0 + 6), none⟩) fun ZP HB Pt =>
  ((0 : Int) ≤ iD) ∧
  ((iD : Int) < ((HB : Nat) : Int)) ∧
  aF ZP fun xZ Jr =>
  aH (Mem.ld rC ⟨xZ, (Jr + ((Int.toNat iD) * 3)), none⟩) .i64 fun vQ =>
  aM (vQ == (-1))
   (aa Tryz.prog 109 #[(.pointer (some ⟨b0, o0, none⟩)), (.int .i64 iD)] rC (fun v60 FB =>
   ∃ Yt : Int, ∃ FC : Int, ∃ n64 : Int, ∃ Vt : Option Addr, ∃ Mh : Nat, ∃ ux : Nat, (v60 = (.agg #[(.int .i64 Yt), (.int .i64 FC), (.int .i64 n64), (.slice Vt Mh ux)])) ∧
   aI FB ⟨eZ, 0, none⟩ (.int .i64 Yt) fun Tj =>
   aI Tj ⟨eZ, (0 + 1), none⟩ (.int .i64 FC) fun M69 =>
   aI M69 ⟨eZ, (0 + 2), none⟩ (.int .i64 n64) fun HA =>
   aI HA ⟨eZ, (0 + 3), none⟩ (.slice Vt Mh ux) fun M71 =>
   aH (Mem.ld M71 ⟨b0, (o0 + 9), none⟩) .i64 fun WD =>
   aI M71 ⟨b0, (o0 + 9), none⟩ (.int .i64 (IntKind.wrap .i64 (WD + 1))) fun FV =>
   aH (Mem.ld FV ⟨eZ, 0, none⟩) .i64 fun Tr =>
   aH (Mem.ld FV ⟨eZ, (0 + 1), none⟩) .i64 fun FD =>
   aH (Mem.ld FV ⟨eZ, (0 + 2), none⟩) .i64 fun Hu =>
   az (Mem.ld FV ⟨eZ, (0 + 3), none⟩) fun A77 WO Rv =>
   aI FV ⟨k1, 0, none⟩ (.int .i64 Tr) fun uW =>
   aI uW ⟨k1, (0 + 1), none⟩ (.int .i64 FD) fun M81 =>
   aI M81 ⟨k1, (0 + 2), none⟩ (.int .i64 Hu) fun M82 =>
   aI M82 ⟨k1, (0 + 3), none⟩ (.slice A77 WO Rv) fun B9 =>
   aH (Mem.ld B9 ⟨k1, 0, none⟩) .i64 fun Ou =>
   aH (Mem.ld B9 ⟨k1, (0 + 1), none⟩) .i64 fun Vu =>
   aH (Mem.ld B9 ⟨k1, (0 + 2), none⟩) .i64 fun n86 =>
   az (Mem.ld B9 ⟨k1, (0 + 3), none⟩) fun WX Mf WY =>
   K (.agg #[(.int .i64 Ou), (.int .i64 Vu), (.int .i64 n86), (.slice WX Mf WY)]) B9) Kp)
   (az (Mem.ld rC ⟨b0, (o0 + 6), none⟩) fun A90 k91 k92 =>
   ((0 : Int) ≤ iD) ∧
   ((iD : Int) < ((k91 : Nat) : Int)) ∧
   aF A90 fun WZ Th =>
   aH (Mem.ld rC ⟨WZ, ((Th + ((Int.toNat iD) * 3)) + 1), none⟩) .i64 fun Pd =>
   aM (Pd == (-1))
    (aa Tryz.prog 110 #[(.pointer (some ⟨b0, o0, none⟩)), (.int .i64 iD)] rC (fun v96 Pv =>
    ∃ Rk : Int, ∃ Ox : Int, ∃ nF : Int, ∃ W0 : Option Addr, ∃ Pw : Nat, ∃ wJ : Nat, (v96 = (.agg #[(.int .i64 Rk), (.int .i64 Ox), (.int .i64 nF), (.slice W0 Pw wJ)])) ∧
    aI Pv ⟨eZ, 0, none⟩ (.int .i64 Rk) fun M104 =>
    aI M104 ⟨eZ, (0 + 1), none⟩ (.int .i64 Ox) fun Px =>
    aI Px ⟨eZ, (0 + 2), none⟩ (.int .i64 nF) fun M106 =>
    aI M106 ⟨eZ, (0 + 3), none⟩ (.slice W0 Pw wJ) fun W1 =>
    aH (Mem.ld W1 ⟨b0, (o0 + 9), none⟩) .i64 fun FW =>
    aI W1 ⟨b0, (o0 + 9), none⟩ (.int .i64 (IntKind.wrap .i64 (FW + 1))) fun wC =>
    aH (Mem.ld wC ⟨eZ, 0, none⟩) .i64 fun SX =>
    aH (Mem.ld wC ⟨eZ, (0 + 1), none⟩) .i64 fun n111 =>
    aH (Mem.ld wC ⟨eZ, (0 + 2), none⟩) .i64 fun FF =>
    az (Mem.ld wC ⟨eZ, (0 + 3), none⟩) fun A113 k114 k115 =>
    aI wC ⟨k1, 0, none⟩ (.int .i64 SX) fun FX =>
    aI FX ⟨k1, (0 + 1), none⟩ (.int .i64 n111) fun FY =>
    aI FY ⟨k1, (0 + 2), none⟩ (.int .i64 FF) fun mX =>
    aI mX ⟨k1, (0 + 3), none⟩ (.slice A113 k114 k115) fun Mi =>
    aH (Mem.ld Mi ⟨k1, 0, none⟩) .i64 fun Cd =>
    aH (Mem.ld Mi ⟨k1, (0 + 1), none⟩) .i64 fun Ce =>
    aH (Mem.ld Mi ⟨k1, (0 + 2), none⟩) .i64 fun Ts =>
    az (Mem.ld Mi ⟨k1, (0 + 3), none⟩) fun A123 FZ k125 =>
    K (.agg #[(.int .i64 Cd), (.int .i64 Ce), (.int .i64 Ts), (.slice A123 FZ k125)]) Mi) Kp)
    (aa Tryz.prog 111 #[(.pointer (some ⟨b0, o0, none⟩)), (.int .i64 iD)] rC (fun v126 M127 =>
    ∃ zP : Int, ∃ W2 : Int, ∃ W3 : Int, ∃ JA : Option Addr, ∃ JB : Nat, ∃ PC : Nat, (v126 = (.agg #[(.int .i64 zP), (.int .i64 W2), (.int .i64 W3), (.slice JA JB PC)])) ∧
    aI M127 ⟨eZ, 0, none⟩ (.int .i64 zP) fun Mj =>
    aI Mj ⟨eZ, (0 + 1), none⟩ (.int .i64 W2) fun M135 =>
    aI M135 ⟨eZ, (0 + 2), none⟩ (.int .i64 W3) fun M136 =>
    aI M136 ⟨eZ, (0 + 3), none⟩ (.slice JA JB PC) fun JC =>
    aH (Mem.ld JC ⟨b0, (o0 + 9), none⟩) .i64 fun n138 =>
    aI JC ⟨b0, (o0 + 9), none⟩ (.int .i64 (IntKind.wrap .i64 (n138 + 1))) fun Cf =>
    aH (Mem.ld Cf ⟨eZ, 0, none⟩) .i64 fun n140 =>
    aH (Mem.ld Cf ⟨eZ, (0 + 1), none⟩) .i64 fun n141 =>
    aH (Mem.ld Cf ⟨eZ, (0 + 2), none⟩) .i64 fun n142 =>
    az (Mem.ld Cf ⟨eZ, (0 + 3), none⟩) fun A143 k144 k145 =>
    aI Cf ⟨k1, 0, none⟩ (.int .i64 n140) fun M146 =>
    aI M146 ⟨k1, (0 + 1), none⟩ (.int .i64 n141) fun M147 =>
    aI M147 ⟨k1, (0 + 2), none⟩ (.int .i64 n142) fun M148 =>
    aI M148 ⟨k1, (0 + 3), none⟩ (.slice A143 k144 k145) fun Mk =>
    aH (Mem.ld Mk ⟨k1, 0, none⟩) .i64 fun Ml =>
    aH (Mem.ld Mk ⟨k1, (0 + 1), none⟩) .i64 fun n151 =>
    aH (Mem.ld Mk ⟨k1, (0 + 2), none⟩) .i64 fun n152 =>
    az (Mem.ld Mk ⟨k1, (0 + 3), none⟩) fun A153 Tt k155 =>
    K (.agg #[(.int .i64 Ml), (.int .i64 n151), (.int .i64 n152), (.slice A153 Tt k155)]) Mk) Kp)))) Kp)) Kp) :
 aa Tryz.prog 54 ([.pointer (some ⟨b0, o0, none⟩)] : List Value).toArray M K Kp :=
 b6 (C := Cx) good [(3, .bQ [0, 1, 3, 7, 0, 16, 48, 112, 240, 496, 1023, 2047] (.step 0 (.step 1 (.step 2 (.step 4 (.step 5 (.step 6 (.step 7 (.step 3 (.step 8 (.step 9 (.step 10 (.step 11 .done)))))))))))))] Tryz.func54 (by kernel_rfl) (by kernel_rfl) h
theorem qI {b0 o0 : Nat} (h :
aX M AB fun k1 M2 =>
rP M2 b0 o0 fun A3 =>
aa Tryz.prog 120 #[(.pointer A3)] M2 (fun v4 M5 =>
az (some v4) fun A6 k7 k8 =>
aa Tryz.prog 58 #[(.pointer (some ⟨b0, (o0 + 7), none⟩)), (.slice A6 k7 k8)] M5 (fun v9 gF =>
(v9 = (.tuple #[])) ∧
Lx gF k1 (iV 1) (iV (-1)) (iV (-1)) (.slice A6 k7 k8) fun mh =>
LA mh k1 0 fun jm lN lA Ju iz kH =>
K (.agg #[(iV jm), (iV lN), (iV lA), (.slice Ju iz kH)]) mh) Kp) Kp) :
 aa Tryz.prog 108 #[.pointer (some ⟨b0, o0, none⟩)] M K Kp := vw [] Tryz.func108 h
theorem qJ {b0 o0 : Nat} {x1 : Int} (h :
aX M AB fun k1 M2 =>
rS M2 b0 (o0 + 5) fun A3 k4 k5 =>
∃ I6 : IT, (∃ k7, I6 k7 [(iV 0)] M2) ∧
∀ (k8 : Nat) (_ : Nat → Value) (iS : Int) (jO : Mem), (I6 k8 [(iV iS)] jO) → aM (decide (iS < k4))
 (rS jO b0 (o0 + 5) fun zp c7 jE =>
 (0 ≤ iS) ∧
 (iS < c7) ∧
 aF zp fun gX gA =>
 rI jO gX ((gA + ((Int.toNat iS) * 3)) + 2) fun lA =>
 aM (lA == (-1))
 (rS jO b0 (o0 + 5) fun Ju iz kH =>
 rS jO b0 (o0 + 6) fun BY gU jo =>
 (0 ≤ iS) ∧
 (iS < iz) ∧
 aF Ju fun sE oB =>
 sT jO sE ((oB + ((Int.toNat iS) * 3)) + 2) (iV x1) fun uu =>
 ((0 : Int) ≤ x1) ∧
 ((x1 : Int) < gU) ∧
 aF BY fun DE qT =>
 sT uu DE (qT + ((Int.toNat x1) * 3)) (iV iS) fun mP =>
 Lx mP k1 (iV 2) (iV x1) (iV (-1)) (.slice none 0 0) fun zq =>
 LA zq k1 0 fun Pk KD zM Ps iE zN =>
 K (.agg #[(iV Pk), (iV KD), (iV zM), (.slice Ps iE zN)]) zq)
 (∃ Jq : Nat, (Jq < k8) ∧
 I6 Jq [(iV (IntKind.wrap .i64 (iS + 1)))] jO))
 (sT jO k1 0 (iV 3) fun AK =>
 sT AK k1 1 (iV x1) fun Pp =>
 sT Pp k1 2 (iV (-1)) fun uv =>
 sT uv k1 3 (.slice none 0 0) fun B6 =>
 LA B6 k1 0 fun FO FP xN Jz Hz LS =>
 K (.agg #[(iV FO), (iV FP), (iV xN), (.slice Jz Hz LS)]) B6)) :
 aa Tryz.prog 109 #[.pointer (some ⟨b0, o0, none⟩), .int .i64 x1] M K Kp := vw [(2000000, .loop [(11, .c (.int .i64))]), (5, .bQ [0, 1, 3, 7, 0, 0, 32, 96, 224, 0, 0, 0, 1535, 5631, 13823, 32767, 65535, 131071] (sy [0, 1, 2, 4, 5, 6, 7, 9, 10, 11, 3, 8, 12, 13, 14, 15, 16, 17] .done))] Tryz.func109 h
theorem qK {b0 o0 : Nat} {x1 : Int} (h :
aX M (.cells #[(.int .i64 0), (.int .i64 0), (.int .i64 0), (.slice none 0 0)] 43 (0, 0)) fun k1 M2 =>
az (Mem.ld M2 ⟨b0, (o0 + 5), none⟩) fun A3 k4 k5 =>
az (Mem.ld M2 ⟨b0, (o0 + 6), none⟩) fun A6 k7 k8 =>
((0 : Int) ≤ x1) ∧
((x1 : Int) < ((k7 : Nat) : Int)) ∧
aF A6 fun k9 fm =>
aH (Mem.ld M2 ⟨k9, (fm + ((Int.toNat x1) * 3)), none⟩) .i64 fun gG =>
((0 : Int) ≤ gG) ∧
((gG : Int) < ((k4 : Nat) : Int)) ∧
aF A3 fun gx c7 =>
az (Mem.ld M2 ⟨b0, (o0 + 6), none⟩) fun mq gX gA =>
((0 : Int) ≤ x1) ∧
((x1 : Int) < ((gX : Nat) : Int)) ∧
aF mq fun eK fZ =>
aH (Mem.ld M2 ⟨eK, ((fZ + ((Int.toNat x1) * 3)) + 2), none⟩) .i64 fun wY =>
aM (decide ((wY : Int) > 0))
 (b8 (Mem.ld M2 ⟨gx, (c7 + ((Int.toNat gG) * 3)), none⟩) fun Pq =>
 aa Tryz.prog 148 #[(.pointer Pq)] M2 (fun ZN rC =>
 aH (some ZN) .i64 fun BW =>
 ∃ J24 : List Value → Mem → Prop, (aM (BW != (-1))
  (b8 (Mem.ld rC ⟨gx, (c7 + ((Int.toNat gG) * 3)), none⟩) fun Wq =>
   az (Mem.ld rC ⟨b0, (o0 + 6), none⟩) fun WU DE qT =>
   aa Tryz.prog 149 #[(.pointer Wq)] rC (fun v29 xM =>
   ∃ td : Int, ∃ t32 : Bool, (v29 = (.tuple #[(.int .i64 td), (.bool t32)])) ∧
   ((Mem.ld xM ⟨b0, (o0 + 6), none⟩) = (some (.slice WU DE qT))) ∧
   ((0 : Int) ≤ x1) ∧
   ((x1 : Int) < ((DE : Nat) : Int)) ∧
   aF WU fun qR tg =>
   aI xM ⟨qR, ((tg + ((Int.toNat x1) * 3)) + 1), none⟩ (.int .i64 td) fun wH =>
   ((Mem.ld wH ⟨b0, (o0 + 6), none⟩) = (some (.slice WU DE qT))) ∧
   az (Mem.ld wH ⟨b0, (o0 + 6), none⟩) fun Rs jQ iE =>
   ((0 : Int) ≤ x1) ∧
   ((x1 : Int) < ((jQ : Nat) : Int)) ∧
   aF Rs fun zN Jq =>
   aH (Mem.ld wH ⟨zN, ((Jq + ((Int.toNat x1) * 3)) + 1), none⟩) .i64 fun n41 =>
   aI wH ⟨k1, 0, none⟩ (.int .i64 4) fun Pp =>
   aI Pp ⟨k1, (0 + 1), none⟩ (.int .i64 x1) fun uv =>
   aI uv ⟨k1, (0 + 2), none⟩ (.int .i64 n41) fun B6 =>
   aI B6 ⟨k1, (0 + 3), none⟩ (.slice none 0 0) fun uw =>
   aH (Mem.ld uw ⟨k1, 0, none⟩) .i64 fun FP =>
   aH (Mem.ld uw ⟨k1, (0 + 1), none⟩) .i64 fun xN =>
   aH (Mem.ld uw ⟨k1, (0 + 2), none⟩) .i64 fun Pr =>
   az (Mem.ld uw ⟨k1, (0 + 3), none⟩) fun Z6 LS B7 =>
   K (.agg #[(.int .i64 FP), (.int .i64 xN), (.int .i64 Pr), (.slice Z6 LS B7)]) uw) Kp)
  (J24 [] rC)) ∧
 ∀ junk52 : Nat → Value, ∀ Jv : Mem, (J24 [] Jv) → aa Tryz.prog 150 #[(.pointer (some ⟨b0, o0, none⟩)), (.pointer (some ⟨gx, (c7 + ((Int.toNat gG) * 3)), none⟩))] Jv (fun PD zu =>
 ∃ PE : Int, ∃ t57 : Bool, (PD = (.tuple #[(.int .i64 PE), (.bool t57)])) ∧
 aM (!t57)
  (aH (Mem.ld zu ⟨b0, (o0 + 1), none⟩) .i64 fun Hs =>
  ∃ Tu : List Value → Mem → Prop, (aM (decide ((Hs : Int) > 1))
   (b8 (Mem.ld zu ⟨b0, (o0 + 8), none⟩) fun A60 =>
    aH (Mem.ld zu ⟨b0, (o0 + 1), none⟩) .i64 fun LU =>
    aa Tryz.prog 107 #[(.pointer A60), (.int .i64 2), (.int .i64 LU)] zu (fun S6 BT =>
    aH (some S6) .i64 fun n64 =>
    b8 (Mem.ld BT ⟨gx, (c7 + ((Int.toNat gG) * 3)), none⟩) fun Vt =>
    az (Mem.ld BT ⟨b0, (o0 + 5), none⟩) fun Mn ux KG =>
    ((0 : Int) ≤ n64) ∧
    ((n64 : Int) < ((ux : Nat) : Int)) ∧
    aF Mn fun k69 Jx =>
    b8 (Mem.ld BT ⟨k69, (Jx + ((Int.toNat n64) * 3)), none⟩) fun WW =>
    aa Tryz.prog 151 #[(.pointer Vt), (.pointer WW)] BT (fun v72 FV =>
    ∃ Tr : Int, ∃ t75 : Bool, (v72 = (.tuple #[(.int .i64 Tr), (.bool t75)])) ∧
    Tu [(.int .i64 5), (.int .i64 Tr), (.bool t75)] FV) Kp) Kp)
   (Tu [(.int .i64 4), (.int .i64 PE), (.bool t57)] zu)) ∧
  ∀ Tv : Nat → Value, ∀ FE : Int, ∀ CZ : Int, ∀ t79 : Bool, ∀ uW : Mem, (Tu [(.int .i64 FE), (.int .i64 CZ), (.bool t79)] uW) → aM (!t79)
   (az (Mem.ld uW ⟨b0, (o0 + 6), none⟩) fun Pu Ow Yw =>
   aI uW ⟨gx, ((c7 + ((Int.toNat gG) * 3)) + 2), none⟩ (.int .i64 (-1)) fun Tp =>
   ((0 : Int) ≤ x1) ∧
   ((x1 : Int) < ((Ow : Nat) : Int)) ∧
   aF Pu fun JD HC =>
   aI Tp ⟨JD, (HC + ((Int.toNat x1) * 3)), none⟩ (.int .i64 (-1)) fun PF =>
   aI PF ⟨JD, ((HC + ((Int.toNat x1) * 3)) + 1), none⟩ (.int .i64 (-1)) fun W4 =>
   aI W4 ⟨JD, ((HC + ((Int.toNat x1) * 3)) + 2), none⟩ (.int .i64 0) fun FQ =>
   aI FQ ⟨k1, 0, none⟩ (.int .i64 6) fun W5 =>
   aI W5 ⟨k1, (0 + 1), none⟩ (.int .i64 x1) fun nE =>
   aI nE ⟨k1, (0 + 2), none⟩ (.int .i64 (-1)) fun W6 =>
   aI W6 ⟨k1, (0 + 3), none⟩ (.slice none 0 0) fun DX =>
   aH (Mem.ld DX ⟨k1, 0, none⟩) .i64 fun SU =>
   aH (Mem.ld DX ⟨k1, (0 + 1), none⟩) .i64 fun Pd =>
   aH (Mem.ld DX ⟨k1, (0 + 2), none⟩) .i64 fun SW =>
   az (Mem.ld DX ⟨k1, (0 + 3), none⟩) fun W7 W8 W9 =>
   K (.agg #[(.int .i64 SU), (.int .i64 Pd), (.int .i64 SW), (.slice W7 W8 W9)]) DX)
   (aH (Mem.ld uW ⟨gx, ((c7 + ((Int.toNat gG) * 3)) + 1), none⟩) .i64 fun nF =>
   aI uW ⟨gx, ((c7 + ((Int.toNat gG) * 3)) + 1), none⟩ (.int .i64 (IntKind.wrap .i64 (nF + 1))) fun qL =>
   az (Mem.ld qL ⟨b0, (o0 + 6), none⟩) fun Cg wJ JE =>
   az (Mem.ld qL ⟨b0, (o0 + 6), none⟩) fun Ch wG rX =>
   aH (Mem.ld qL ⟨b0, ((o0 + 1) + 3), none⟩) .i64 fun FW =>
   ((0 : Int) ≤ x1) ∧
   ((x1 : Int) < ((wJ : Nat) : Int)) ∧
   aF Cg fun Mo Mp =>
   aI qL ⟨Mo, ((Mp + ((Int.toNat x1) * 3)) + 1), none⟩ (.int .i64 CZ) fun oR =>
   ((0 : Int) ≤ x1) ∧
   ((x1 : Int) < ((wG : Nat) : Int)) ∧
   aF Ch fun Mq Mr =>
   aI oR ⟨Mq, ((Mr + ((Int.toNat x1) * 3)) + 2), none⟩ (.int .i64 FW) fun mY =>
   aI mY ⟨k1, 0, none⟩ (.int .i64 FE) fun Ms =>
   aI Ms ⟨k1, (0 + 1), none⟩ (.int .i64 x1) fun FX =>
   aI FX ⟨k1, (0 + 2), none⟩ (.int .i64 CZ) fun FY =>
   aI FY ⟨k1, (0 + 3), none⟩ (.slice none 0 0) fun mX =>
   aH (Mem.ld mX ⟨k1, 0, none⟩) .i64 fun F0 =>
   aH (Mem.ld mX ⟨k1, (0 + 1), none⟩) .i64 fun Cd =>
   aH (Mem.ld mX ⟨k1, (0 + 2), none⟩) .i64 fun Ce =>
   az (Mem.ld mX ⟨k1, (0 + 3), none⟩) fun Mt Mu FZ =>
   K (.agg #[(.int .i64 F0), (.int .i64 Cd), (.int .i64 Ce), (.slice Mt Mu FZ)]) mX))
  (∃ Mv : List Value → Mem → Prop, (Mv [(.int .i64 4), (.int .i64 PE), (.bool t57)] zu) ∧
  ∀ PG : Nat → Value, ∀ ya : Int, ∀ zP : Int, ∀ t129 : Bool, ∀ yb : Mem, (Mv [(.int .i64 ya), (.int .i64 zP), (.bool t129)] yb) → aM (!t129)
   (az (Mem.ld yb ⟨b0, (o0 + 6), none⟩) fun JA JB PC =>
   aI yb ⟨gx, ((c7 + ((Int.toNat gG) * 3)) + 2), none⟩ (.int .i64 (-1)) fun Mj =>
   ((0 : Int) ≤ x1) ∧
   ((x1 : Int) < ((JB : Nat) : Int)) ∧
   aF JA fun F1 F2 =>
   aI Mj ⟨F1, (F2 + ((Int.toNat x1) * 3)), none⟩ (.int .i64 (-1)) fun JC =>
   aI JC ⟨F1, ((F2 + ((Int.toNat x1) * 3)) + 1), none⟩ (.int .i64 (-1)) fun Tw =>
   aI Tw ⟨F1, ((F2 + ((Int.toNat x1) * 3)) + 2), none⟩ (.int .i64 0) fun Cf =>
   aI Cf ⟨k1, 0, none⟩ (.int .i64 6) fun Tx =>
   aI Tx ⟨k1, (0 + 1), none⟩ (.int .i64 x1) fun Ty =>
   aI Ty ⟨k1, (0 + 2), none⟩ (.int .i64 (-1)) fun Tz =>
   aI Tz ⟨k1, (0 + 3), none⟩ (.slice none 0 0) fun yd =>
   aH (Mem.ld yd ⟨k1, 0, none⟩) .i64 fun TA =>
   aH (Mem.ld yd ⟨k1, (0 + 1), none⟩) .i64 fun TB =>
   aH (Mem.ld yd ⟨k1, (0 + 2), none⟩) .i64 fun TC =>
   az (Mem.ld yd ⟨k1, (0 + 3), none⟩) fun TD TE TF =>
   K (.agg #[(.int .i64 TA), (.int .i64 TB), (.int .i64 TC), (.slice TD TE TF)]) yd)
   (aH (Mem.ld yb ⟨gx, ((c7 + ((Int.toNat gG) * 3)) + 1), none⟩) .i64 fun Ml =>
   aI yb ⟨gx, ((c7 + ((Int.toNat gG) * 3)) + 1), none⟩ (.int .i64 (IntKind.wrap .i64 (Ml + 1))) fun Ci =>
   az (Mem.ld Ci ⟨b0, (o0 + 6), none⟩) fun TG TH Tt =>
   az (Mem.ld Ci ⟨b0, (o0 + 6), none⟩) fun TI TJ k157 =>
   aH (Mem.ld Ci ⟨b0, ((o0 + 1) + 3), none⟩) .i64 fun TK =>
   ((0 : Int) ≤ x1) ∧
   ((x1 : Int) < ((TH : Nat) : Int)) ∧
   aF TG fun TL TM =>
   aI Ci ⟨TL, ((TM + ((Int.toNat x1) * 3)) + 1), none⟩ (.int .i64 zP) fun TN =>
   ((0 : Int) ≤ x1) ∧
   ((x1 : Int) < ((TJ : Nat) : Int)) ∧
   aF TI fun TO TP =>
   aI TN ⟨TO, ((TP + ((Int.toNat x1) * 3)) + 2), none⟩ (.int .i64 TK) fun TQ =>
   aI TQ ⟨k1, 0, none⟩ (.int .i64 ya) fun TR =>
   aI TR ⟨k1, (0 + 1), none⟩ (.int .i64 x1) fun TS =>
   aI TS ⟨k1, (0 + 2), none⟩ (.int .i64 zP) fun TT =>
   aI TT ⟨k1, (0 + 3), none⟩ (.slice none 0 0) fun ye =>
   aH (Mem.ld ye ⟨k1, 0, none⟩) .i64 fun TU =>
   aH (Mem.ld ye ⟨k1, (0 + 1), none⟩) .i64 fun TV =>
   aH (Mem.ld ye ⟨k1, (0 + 2), none⟩) .i64 fun TW =>
   az (Mem.ld ye ⟨k1, (0 + 3), none⟩) fun TX TY TZ =>
   K (.agg #[(.int .i64 TU), (.int .i64 TV), (.int .i64 TW), (.slice TX TY TZ)]) ye))) Kp) Kp)
 (∃ Xa : List Value → Mem → Prop, (Xa [] M2) ∧
 ∀ Yx : Nat → Value, ∀ Xb : Mem, (Xa [] Xb) → aa Tryz.prog 150 #[(.pointer (some ⟨b0, o0, none⟩)), (.pointer (some ⟨gx, (c7 + ((Int.toNat gG) * 3)), none⟩))] Xb (fun v178 JF =>
 ∃ T0 : Int, ∃ t181 : Bool, (v178 = (.tuple #[(.int .i64 T0), (.bool t181)])) ∧
 aM (!t181)
  (aH (Mem.ld JF ⟨b0, (o0 + 1), none⟩) .i64 fun n182 =>
  ∃ T3 : List Value → Mem → Prop, (aM (decide ((n182 : Int) > 1))
   (b8 (Mem.ld JF ⟨b0, (o0 + 8), none⟩) fun A184 =>
    aH (Mem.ld JF ⟨b0, (o0 + 1), none⟩) .i64 fun n185 =>
    aa Tryz.prog 107 #[(.pointer A184), (.int .i64 2), (.int .i64 n185)] JF (fun v186 PI =>
    aH (some v186) .i64 fun T4 =>
    b8 (Mem.ld PI ⟨gx, (c7 + ((Int.toNat gG) * 3)), none⟩) fun A189 =>
    az (Mem.ld PI ⟨b0, (o0 + 5), none⟩) fun A190 k191 k192 =>
    ((0 : Int) ≤ T4) ∧
    ((T4 : Int) < ((k191 : Nat) : Int)) ∧
    aF A190 fun k193 k194 =>
    b8 (Mem.ld PI ⟨k193, (k194 + ((Int.toNat T4) * 3)), none⟩) fun A195 =>
    aa Tryz.prog 151 #[(.pointer A189), (.pointer A195)] PI (fun v196 M197 =>
    ∃ Xc : Int, ∃ t199 : Bool, (v196 = (.tuple #[(.int .i64 Xc), (.bool t199)])) ∧
    T3 [(.int .i64 5), (.int .i64 Xc), (.bool t199)] M197) Kp) Kp)
   (T3 [(.int .i64 4), (.int .i64 T0), (.bool t181)] JF)) ∧
  ∀ Yy : Nat → Value, ∀ Xd : Int, ∀ T5 : Int, ∀ t203 : Bool, ∀ Mw : Mem, (T3 [(.int .i64 Xd), (.int .i64 T5), (.bool t203)] Mw) → aM (!t203)
   (az (Mem.ld Mw ⟨b0, (o0 + 6), none⟩) fun A205 k206 k207 =>
   aI Mw ⟨gx, ((c7 + ((Int.toNat gG) * 3)) + 2), none⟩ (.int .i64 (-1)) fun M208 =>
   ((0 : Int) ≤ x1) ∧
   ((x1 : Int) < ((k206 : Nat) : Int)) ∧
   aF A205 fun T6 T7 =>
   aI M208 ⟨T6, (T7 + ((Int.toNat x1) * 3)), none⟩ (.int .i64 (-1)) fun M211 =>
   aI M211 ⟨T6, ((T7 + ((Int.toNat x1) * 3)) + 1), none⟩ (.int .i64 (-1)) fun M212 =>
   aI M212 ⟨T6, ((T7 + ((Int.toNat x1) * 3)) + 2), none⟩ (.int .i64 0) fun M213 =>
   aI M213 ⟨k1, 0, none⟩ (.int .i64 6) fun M214 =>
   aI M214 ⟨k1, (0 + 1), none⟩ (.int .i64 x1) fun M215 =>
   aI M215 ⟨k1, (0 + 2), none⟩ (.int .i64 (-1)) fun M216 =>
   aI M216 ⟨k1, (0 + 3), none⟩ (.slice none 0 0) fun My =>
   aH (Mem.ld My ⟨k1, 0, none⟩) .i64 fun n218 =>
   aH (Mem.ld My ⟨k1, (0 + 1), none⟩) .i64 fun n219 =>
   aH (Mem.ld My ⟨k1, (0 + 2), none⟩) .i64 fun n220 =>
   az (Mem.ld My ⟨k1, (0 + 3), none⟩) fun A221 k222 k223 =>
   K (.agg #[(.int .i64 n218), (.int .i64 n219), (.int .i64 n220), (.slice A221 k222 k223)]) My)
   (aH (Mem.ld Mw ⟨gx, ((c7 + ((Int.toNat gG) * 3)) + 1), none⟩) .i64 fun n224 =>
   aI Mw ⟨gx, ((c7 + ((Int.toNat gG) * 3)) + 1), none⟩ (.int .i64 (IntKind.wrap .i64 (n224 + 1))) fun PJ =>
   az (Mem.ld PJ ⟨b0, (o0 + 6), none⟩) fun A226 k227 k228 =>
   az (Mem.ld PJ ⟨b0, (o0 + 6), none⟩) fun A229 k230 k231 =>
   aH (Mem.ld PJ ⟨b0, ((o0 + 1) + 3), none⟩) .i64 fun n232 =>
   ((0 : Int) ≤ x1) ∧
   ((x1 : Int) < ((k227 : Nat) : Int)) ∧
   aF A226 fun k233 k234 =>
   aI PJ ⟨k233, ((k234 + ((Int.toNat x1) * 3)) + 1), none⟩ (.int .i64 T5) fun M235 =>
   ((0 : Int) ≤ x1) ∧
   ((x1 : Int) < ((k230 : Nat) : Int)) ∧
   aF A229 fun k236 k237 =>
   aI M235 ⟨k236, ((k237 + ((Int.toNat x1) * 3)) + 2), none⟩ (.int .i64 n232) fun M238 =>
   aI M238 ⟨k1, 0, none⟩ (.int .i64 Xd) fun M239 =>
   aI M239 ⟨k1, (0 + 1), none⟩ (.int .i64 x1) fun M240 =>
   aI M240 ⟨k1, (0 + 2), none⟩ (.int .i64 T5) fun M241 =>
   aI M241 ⟨k1, (0 + 3), none⟩ (.slice none 0 0) fun Mz =>
   aH (Mem.ld Mz ⟨k1, 0, none⟩) .i64 fun n243 =>
   aH (Mem.ld Mz ⟨k1, (0 + 1), none⟩) .i64 fun n244 =>
   aH (Mem.ld Mz ⟨k1, (0 + 2), none⟩) .i64 fun n245 =>
   az (Mem.ld Mz ⟨k1, (0 + 3), none⟩) fun A246 k247 k248 =>
   K (.agg #[(.int .i64 n243), (.int .i64 n244), (.int .i64 n245), (.slice A246 k247 k248)]) Mz))
  (∃ Xe : List Value → Mem → Prop, (Xe [(.int .i64 4), (.int .i64 T0), (.bool t181)] JF) ∧
  ∀ Yz : Nat → Value, ∀ Xf : Int, ∀ T8 : Int, ∀ t253 : Bool, ∀ MA : Mem, (Xe [(.int .i64 Xf), (.int .i64 T8), (.bool t253)] MA) → aM (!t253)
   (az (Mem.ld MA ⟨b0, (o0 + 6), none⟩) fun A255 k256 k257 =>
   aI MA ⟨gx, ((c7 + ((Int.toNat gG) * 3)) + 2), none⟩ (.int .i64 (-1)) fun M258 =>
   ((0 : Int) ≤ x1) ∧
   ((x1 : Int) < ((k256 : Nat) : Int)) ∧
   aF A255 fun T9 Ua =>
   aI M258 ⟨T9, (Ua + ((Int.toNat x1) * 3)), none⟩ (.int .i64 (-1)) fun M261 =>
   aI M261 ⟨T9, ((Ua + ((Int.toNat x1) * 3)) + 1), none⟩ (.int .i64 (-1)) fun M262 =>
   aI M262 ⟨T9, ((Ua + ((Int.toNat x1) * 3)) + 2), none⟩ (.int .i64 0) fun M263 =>
   aI M263 ⟨k1, 0, none⟩ (.int .i64 6) fun M264 =>
   aI M264 ⟨k1, (0 + 1), none⟩ (.int .i64 x1) fun M265 =>
   aI M265 ⟨k1, (0 + 2), none⟩ (.int .i64 (-1)) fun M266 =>
   aI M266 ⟨k1, (0 + 3), none⟩ (.slice none 0 0) fun MB =>
   aH (Mem.ld MB ⟨k1, 0, none⟩) .i64 fun n268 =>
   aH (Mem.ld MB ⟨k1, (0 + 1), none⟩) .i64 fun n269 =>
   aH (Mem.ld MB ⟨k1, (0 + 2), none⟩) .i64 fun n270 =>
   az (Mem.ld MB ⟨k1, (0 + 3), none⟩) fun A271 k272 k273 =>
   K (.agg #[(.int .i64 n268), (.int .i64 n269), (.int .i64 n270), (.slice A271 k272 k273)]) MB)
   (aH (Mem.ld MA ⟨gx, ((c7 + ((Int.toNat gG) * 3)) + 1), none⟩) .i64 fun n274 =>
   aI MA ⟨gx, ((c7 + ((Int.toNat gG) * 3)) + 1), none⟩ (.int .i64 (IntKind.wrap .i64 (n274 + 1))) fun PK =>
   az (Mem.ld PK ⟨b0, (o0 + 6), none⟩) fun A276 k277 k278 =>
   az (Mem.ld PK ⟨b0, (o0 + 6), none⟩) fun A279 k280 k281 =>
   aH (Mem.ld PK ⟨b0, ((o0 + 1) + 3), none⟩) .i64 fun n282 =>
   ((0 : Int) ≤ x1) ∧
   ((x1 : Int) < ((k277 : Nat) : Int)) ∧
   aF A276 fun k283 k284 =>
   aI PK ⟨k283, ((k284 + ((Int.toNat x1) * 3)) + 1), none⟩ (.int .i64 T8) fun M285 =>
   ((0 : Int) ≤ x1) ∧
   ((x1 : Int) < ((k280 : Nat) : Int)) ∧
   aF A279 fun k286 k287 =>
   aI M285 ⟨k286, ((k287 + ((Int.toNat x1) * 3)) + 2), none⟩ (.int .i64 n282) fun M288 =>
   aI M288 ⟨k1, 0, none⟩ (.int .i64 Xf) fun M289 =>
   aI M289 ⟨k1, (0 + 1), none⟩ (.int .i64 x1) fun M290 =>
   aI M290 ⟨k1, (0 + 2), none⟩ (.int .i64 T8) fun M291 =>
   aI M291 ⟨k1, (0 + 3), none⟩ (.slice none 0 0) fun MC =>
   aH (Mem.ld MC ⟨k1, 0, none⟩) .i64 fun n293 =>
   aH (Mem.ld MC ⟨k1, (0 + 1), none⟩) .i64 fun n294 =>
   aH (Mem.ld MC ⟨k1, (0 + 2), none⟩) .i64 fun n295 =>
   az (Mem.ld MC ⟨k1, (0 + 3), none⟩) fun A296 k297 k298 =>
   K (.agg #[(.int .i64 n293), (.int .i64 n294), (.int .i64 n295), (.slice A296 k297 k298)]) MC))) Kp)) :
 aa Tryz.prog 110 ([.pointer (some ⟨b0, o0, none⟩), .int .i64 x1] : List Value).toArray M K Kp :=
 b6 (C := Cx) good [(1, .bQ [0, 1, 3, 7, 0, 16, 48, 112, 0, 496, 1008, 2032, 4095, 8191] (.step 0 (.step 1 (.step 2 (.step 4 (.step 5 (.step 6 (.step 8 (.step 3 (.step 7 (.step 9 (.step 10 (.step 11 (.step 12 (.step 13 .done))))))))))))))), (3000039, .cut []), (3, .bQ [0, 1, 3, 7, 0, 0, 32, 96, 224, 480, 992, 2016, 2016, 4095, 12287, 28671] (.step 0 (.step 1 (.step 2 (.step 4 (.step 5 (.step 6 (.step 7 (.step 8 (.eN 3 (.step 9 (.step 10 (.step 11 (.step 12 (.step 13 (.step 14 (.step 15 .done))))))))))))))))), (3000080, .cut [(6, .c (.int .i64)), (7, .c (.int .i64)), (8, .c .bool)]), (8, .bQ [0, 1, 3, 7, 0, 16, 48, 112, 240, 511, 1023] (.step 0 (.step 1 (.step 2 (.step 4 (.step 5 (.step 6 (.step 7 (.step 3 (.step 8 (.step 9 (.step 10 .done)))))))))))), (10, .bQ [0, 1, 3, 7, 0, 16, 48, 112, 0, 496, 1008, 2032, 4095, 8191, 16383, 16383, 32767, 131071] (.step 0 (.step 1 (.step 2 (.step 4 (.step 5 (.step 6 (.step 8 (.step 3 (.step 7 (.step 9 (.step 10 (.step 11 (.step 12 (.step 13 (.step 14 (.step 15 (.step 16 (.step 17 .done))))))))))))))))))), (15, .bQ [0, 1, 3, 7, 0, 0, 32, 96, 224, 0, 0, 0, 2048, 6144, 14336, 30720, 65023, 130559, 261631, 524287, 1048575, 2097151] (.step 0 (.step 1 (.step 2 (.step 4 (.step 5 (.step 6 (.step 7 (.step 9 (.step 10 (.step 11 (.step 12 (.step 13 (.step 14 (.step 3 (.step 8 (.step 15 (.step 16 (.step 17 (.step 18 (.step 19 (.step 20 (.step 21 .done)))))))))))))))))))))))] Tryz.func110 (by kernel_rfl) (by kernel_rfl) h
theorem rY {b0 o0 : Nat} {x1 : Int} (h :
aX M (.cells #[(.int .i64 0), (.int .i64 0), (.int .i64 0), (.slice none 0 0)] 43 (0, 0)) fun k1 M2 =>
az (Mem.ld M2 ⟨b0, (o0 + 6), none⟩) fun A3 k4 k5 =>
((0 : Int) ≤ x1) ∧
((x1 : Int) < ((k4 : Nat) : Int)) ∧
aF A3 fun k6 k7 =>
aH (Mem.ld M2 ⟨k6, ((k7 + ((Int.toNat x1) * 3)) + 1), none⟩) .i64 fun n8 =>
b8 (Mem.ld M2 ⟨b0, o0, none⟩) fun A9 =>
b8 (Mem.ld M2 ⟨b0, (o0 + 8), none⟩) fun EZ =>
(True) ∧
aa Tryz.prog 121 #[(.pointer A9), (.int .i64 n8), (.func (.func 107) #[(.pointer EZ)] #[])] M2 (fun v11 s9 =>
∃ t13 : Bool, ∃ mq : Option Addr, ∃ gX : Nat, ∃ gA : Nat, (v11 = (.agg #[(.bool t13), (.slice mq gX gA)])) ∧
aX s9 (.cells #[(.bool false), (.slice none 0 0)] 250 (0, 0)) fun eK qg =>
aI qg ⟨eK, 0, none⟩ (.bool t13) fun jN =>
aI jN ⟨eK, (0 + 1), none⟩ (.slice mq gX gA) fun rA =>
az (Mem.ld rA ⟨eK, (0 + 1), none⟩) fun BY gU jo =>
∃ Ub : Nat → List Value → Mem → Prop, (∃ oB : Nat, Ub oB [(.int .i64 0)] rA) ∧
∀ uS : Nat, ∀ Uc : Nat → Value, ∀ vR : Int, ∀ mP : Mem, (Ub uS [(.int .i64 vR)] mP) → aM (decide ((vR : Int) < ((gU : Nat) : Int)))
 (((0 : Int) ≤ vR) ∧
 ((vR : Int) < ((gU : Nat) : Int)) ∧
 aF BY fun mQ uq =>
 aH (Mem.ld mP ⟨mQ, (uq + (Int.toNat vR)), none⟩) .i64 fun n32 =>
 az (Mem.ld mP ⟨b0, (o0 + 5), none⟩) fun LR tg BV =>
 aH (Mem.ld mP ⟨k6, (k7 + ((Int.toNat x1) * 3)), none⟩) .i64 fun zM =>
 ((0 : Int) ≤ zM) ∧
 ((zM : Int) < ((tg : Nat) : Int)) ∧
 aF LR fun jQ iE =>
 b8 (Mem.ld mP ⟨jQ, (iE + ((Int.toNat zM) * 3)), none⟩) fun Yp =>
 aa Tryz.prog 152 #[(.pointer Yp), (.int .i64 n32), (.pointer (some ⟨b0, (o0 + 7), none⟩))] mP (fun Md AK =>
 aH (some Md) .i64 fun Hy =>
 ∃ AH : Nat, (AH < uS) ∧
 Ub AH [(.int .i64 (IntKind.wrap .i64 (vR + 1)))] AK) Kp)
 (aH (Mem.ld mP ⟨k6, ((k7 + ((Int.toNat x1) * 3)) + 2), none⟩) .i64 fun B5 =>
 aI mP ⟨k6, ((k7 + ((Int.toNat x1) * 3)) + 2), none⟩ (.int .i64 (IntKind.wrap .i64 (B5 - 1))) fun uw =>
 cK (Mem.ld uw ⟨eK, 0, none⟩) fun t46 =>
 aM (!t46)
  (aI uw ⟨k6, ((k7 + ((Int.toNat x1) * 3)) + 1), none⟩ (.int .i64 (-1)) fun wE =>
  b8 (Mem.ld wE ⟨b0, o0, none⟩) fun Jz =>
  aa Tryz.prog 119 #[(.pointer Jz), (.int .i64 n8)] wE (fun Jp wX =>
  aH (some Jp) .i64 fun Me =>
  aM (Me == 1)
   (aX wX (.cells #[(.int .i64 n8)] 3 (0, 0)) fun tf Jv =>
   aa Tryz.prog 58 #[(.pointer (some ⟨b0, (o0 + 7), none⟩)), (.slice (some ⟨tf, 0, none⟩) 1 1)] Jv (fun PD zu =>
   (PD = (.tuple #[])) ∧
   az (Mem.ld zu ⟨eK, (0 + 1), none⟩) fun Ud xZ Jr =>
   aI zu ⟨k1, 0, none⟩ (.int .i64 7) fun AM =>
   aI AM ⟨k1, (0 + 1), none⟩ (.int .i64 x1) fun nD =>
   aI nD ⟨k1, (0 + 2), none⟩ (.int .i64 n8) fun FB =>
   aI FB ⟨k1, (0 + 3), none⟩ (.slice Ud xZ Jr) fun sF =>
   aH (Mem.ld sF ⟨k1, 0, none⟩) .i64 fun FC =>
   aH (Mem.ld sF ⟨k1, (0 + 1), none⟩) .i64 fun n64 =>
   aH (Mem.ld sF ⟨k1, (0 + 2), none⟩) .i64 fun BU =>
   az (Mem.ld sF ⟨k1, (0 + 3), none⟩) fun Mn ux KG =>
   K (.agg #[(.int .i64 FC), (.int .i64 n64), (.int .i64 BU), (.slice Mn ux KG)]) sF) Kp)
   (az (Mem.ld wX ⟨eK, (0 + 1), none⟩) fun Ue Jx Jy =>
   aI wX ⟨k1, 0, none⟩ (.int .i64 7) fun Rj =>
   aI Rj ⟨k1, (0 + 1), none⟩ (.int .i64 x1) fun FV =>
   aI FV ⟨k1, (0 + 2), none⟩ (.int .i64 n8) fun DL =>
   aI DL ⟨k1, (0 + 3), none⟩ (.slice Ue Jx Jy) fun Cc =>
   aH (Mem.ld Cc ⟨k1, 0, none⟩) .i64 fun Hu =>
   aH (Mem.ld Cc ⟨k1, (0 + 1), none⟩) .i64 fun FE =>
   aH (Mem.ld Cc ⟨k1, (0 + 2), none⟩) .i64 fun CZ =>
   az (Mem.ld Cc ⟨k1, (0 + 3), none⟩) fun Tl Pz Tm =>
   K (.agg #[(.int .i64 Hu), (.int .i64 FE), (.int .i64 CZ), (.slice Tl Pz Tm)]) Cc)) Kp)
  (aH (Mem.ld uw ⟨k6, ((k7 + ((Int.toNat x1) * 3)) + 2), none⟩) .i64 fun Ot =>
  aM (Ot == 0)
   (aI uw ⟨k6, ((k7 + ((Int.toNat x1) * 3)) + 1), none⟩ (.int .i64 (-1)) fun B9 =>
   b8 (Mem.ld B9 ⟨b0, o0, none⟩) fun A84 =>
   aa Tryz.prog 119 #[(.pointer A84), (.int .i64 n8)] B9 (fun Tq FU =>
   aH (some Tq) .i64 fun n87 =>
   aM (n87 == 1)
    (aX FU (.cells #[(.int .i64 n8)] 3 (0, 0)) fun Mf FQ =>
    aa Tryz.prog 58 #[(.pointer (some ⟨b0, (o0 + 7), none⟩)), (.slice (some ⟨Mf, 0, none⟩) 1 1)] FQ (fun Mg nE =>
    (Mg = (.tuple #[])) ∧
    az (Mem.ld nE ⟨eK, (0 + 1), none⟩) fun WQ WZ Th =>
    aI nE ⟨k1, 0, none⟩ (.int .i64 7) fun Xg =>
    aI Xg ⟨k1, (0 + 1), none⟩ (.int .i64 x1) fun Oy =>
    aI Oy ⟨k1, (0 + 2), none⟩ (.int .i64 n8) fun Pv =>
    aI Pv ⟨k1, (0 + 3), none⟩ (.slice WQ WZ Th) fun MD =>
    aH (Mem.ld MD ⟨k1, 0, none⟩) .i64 fun Ox =>
    aH (Mem.ld MD ⟨k1, (0 + 1), none⟩) .i64 fun nF =>
    aH (Mem.ld MD ⟨k1, (0 + 2), none⟩) .i64 fun LV =>
    az (Mem.ld MD ⟨k1, (0 + 3), none⟩) fun Cg wJ JE =>
    K (.agg #[(.int .i64 Ox), (.int .i64 nF), (.int .i64 LV), (.slice Cg wJ JE)]) MD) Kp)
    (az (Mem.ld FU ⟨eK, (0 + 1), none⟩) fun Ch wG rX =>
    aI FU ⟨k1, 0, none⟩ (.int .i64 7) fun ME =>
    aI ME ⟨k1, (0 + 1), none⟩ (.int .i64 x1) fun wC =>
    aI wC ⟨k1, (0 + 2), none⟩ (.int .i64 n8) fun Uf =>
    aI Uf ⟨k1, (0 + 3), none⟩ (.slice Ch wG rX) fun oR =>
    aH (Mem.ld oR ⟨k1, 0, none⟩) .i64 fun FF =>
    aH (Mem.ld oR ⟨k1, (0 + 1), none⟩) .i64 fun LW =>
    aH (Mem.ld oR ⟨k1, (0 + 2), none⟩) .i64 fun LX =>
    az (Mem.ld oR ⟨k1, (0 + 3), none⟩) fun Ug Uh Ui =>
    K (.agg #[(.int .i64 FF), (.int .i64 LW), (.int .i64 LX), (.slice Ug Uh Ui)]) oR)) Kp)
   (az (Mem.ld uw ⟨eK, (0 + 1), none⟩) fun Uj Uk Ul =>
   aI uw ⟨k1, 0, none⟩ (.int .i64 7) fun Um =>
   aI Um ⟨k1, (0 + 1), none⟩ (.int .i64 x1) fun Un =>
   aI Un ⟨k1, (0 + 2), none⟩ (.int .i64 n8) fun Uo =>
   aI Uo ⟨k1, (0 + 3), none⟩ (.slice Uj Uk Ul) fun yf =>
   aH (Mem.ld yf ⟨k1, 0, none⟩) .i64 fun Up =>
   aH (Mem.ld yf ⟨k1, (0 + 1), none⟩) .i64 fun Uq =>
   aH (Mem.ld yf ⟨k1, (0 + 2), none⟩) .i64 fun ya =>
   az (Mem.ld yf ⟨k1, (0 + 3), none⟩) fun Ur Us Ut =>
   K (.agg #[(.int .i64 Up), (.int .i64 Uq), (.int .i64 ya), (.slice Ur Us Ut)]) yf)))) Kp) :
 aa Tryz.prog 111 ([.pointer (some ⟨b0, o0, none⟩), .int .i64 x1] : List Value).toArray M K Kp :=
 b6 (C := Cx) good [(3, .bQ [0, 1, 3, 7, 0, 0, 32, 96, 224, 480, 1023, 0, 4095] (.step 0 (.step 1 (.step 2 (.step 4 (.step 5 (.step 6 (.step 7 (.step 3 (.step 8 (.step 9 (.late 10 (.step 11 (.step 12 .done)))))))))))))), (2000000, .loop [(34, .c (.int .i64))]), (7, .bQ [0, 1, 3, 7, 0, 16, 48, 112, 255, 511, 1023, 0, 0, 4096, 12288, 32767] (.step 0 (.step 1 (.step 2 (.step 4 (.step 5 (.step 6 (.step 11 (.step 12 (.step 13 (.step 14 (.step 3 (.step 7 (.step 8 (.step 9 (.step 10 (.step 15 .done)))))))))))))))))] Tryz.func111 (by kernel_rfl) (by kernel_rfl) h
theorem rZ {b0 o0 : Nat} {b1 o1 : Nat} (h :
rP M b1 o1 fun A1 =>
aa Tryz.prog 178 #[(.pointer A1), (.pointer (some ⟨b0, (o0 + 7), none⟩))] M (fun v2 M3 =>
aH (some v2) .i64 fun n4 =>
rI M3 b1 (o1 + 1) fun n5 =>
((7 : Int) ≠ 0) ∧
aM ((Int.tmod n5 7) == 6)
 (aa Tryz.prog 179 #[(.pointer (some ⟨b0, (o0 + 7), none⟩)), (iV 1)] M3 (fun v6 M7 =>
 az (some v6) fun A8 k9 fm =>
 aM ((k9 : Int) == 1)
 (((0 : Int) ≤ 0) ∧
 ((0 : Int) < k9) ∧
 aF A8 fun eT gx =>
 rI M7 eT (gx + 0) fun kY =>
 K (.tuple #[(iV kY), (.bool true)]) M7)
 (rP M7 b1 o1 fun mq =>
 aa Tryz.prog 149 #[(.pointer mq)] M7 (fun DH fh =>
 ∃ lA : Int, ∃ t18 : Bool, (DH = (.tuple #[(iV lA), (.bool t18)])) ∧
 aM t18
 (K (.tuple #[(iV lA), (.bool true)]) fh)
 (rP fh b1 o1 fun E0 =>
 aa Tryz.prog 180 #[(.pointer E0), (.pointer (some ⟨b0, (o0 + 7), none⟩)), (iV 0)] fh (fun v20 wB =>
 ∃ qP : Int, ∃ t23 : Bool, (v20 = (.tuple #[(iV qP), (.bool t23)])) ∧
 K (.tuple #[(iV qP), (.bool t23)]) wB) Kp)) Kp)) Kp)
 (rP M3 b1 o1 fun Pe =>
 aa Tryz.prog 149 #[(.pointer Pe)] M3 (fun Pj uu =>
 ∃ mV : Int, ∃ t28 : Bool, (Pj = (.tuple #[(iV mV), (.bool t28)])) ∧
 aM t28
 (K (.tuple #[(iV mV), (.bool true)]) uu)
 (rP uu b1 o1 fun Rl =>
 aa Tryz.prog 180 #[(.pointer Rl), (.pointer (some ⟨b0, (o0 + 7), none⟩)), (iV 0)] uu (fun v30 S9 =>
 ∃ n32 : Int, ∃ t33 : Bool, (v30 = (.tuple #[(iV n32), (.bool t33)])) ∧
 K (.tuple #[(iV n32), (.bool t33)]) S9) Kp)) Kp)) Kp) :
 aa Tryz.prog 150 #[.pointer (some ⟨b0, o0, none⟩), .pointer (some ⟨b1, o1, none⟩)] M K Kp := vw [(1, .bQ [0, 1, 3, 7, 0, 16, 48, 127] (sy [0, 1, 2, 4, 5, 6, 3, 7] .done)), (9, .bQ [0, 1, 3, 7, 0, 16, 48, 127, 255, 255, 1023, 2047] (sy [0, 1, 2, 4, 5, 6, 3, 7, 8, 9, 10, 11] .done))] Tryz.func150 h
end Go.Proofs
namespace Go.AF
theorem cG.two : ∀ (zs : List HP) (i j : Nat), i ≠ j → i < zs.length → j < zs.length → ∃ rest, ∀ P Q, ∃ l1, cG ((zs.set i P).set j Q) P l1 ∧ cG l1 Q rest
 | [], _, _, _, h, _ => by simp at h
 | z :: zs, 0, 0, h, _, _ => absurd rfl h
 | z :: zs, 0, j + 1, _, _, hj => ⟨zs.eraseIdx j, fun P Q => ⟨zs.set j Q, by simp only [List.set_cons_zero, List.set_cons_succ]; exact .here, cG.idx (by simpa using hj)⟩⟩
 | z :: zs, i + 1, 0, _, hi, _ => ⟨zs.eraseIdx i, fun P Q => ⟨Q :: zs.eraseIdx i, by simp only [List.set_cons_zero, List.set_cons_succ]; exact .there (cG.idx (by simpa using hi)), .here⟩⟩
 | z :: zs, i + 1, j + 1, h, hi, hj => by
  obtain ⟨rest, hr⟩ := cG.two zs i j (by omega) (by simpa using hi) (by simpa using hj)
  refine ⟨z :: rest, fun P Q => ?_⟩
  obtain ⟨l1, h1, h2⟩ := hr P Q
  exact ⟨z :: l1, by simp only [List.set_cons_succ]; exact .there h1, .there h2⟩
section
variable {α : Type} {r : rq α} {R : Mem} {L L' nx : List HP} {M : Mem} {bs : List Nat} {cs : List α} {b b' i j : Nat} {c c' : α}
theorem Hp.MF (h : Hp R L M) (r : rq α) {bs : List Nat} {cs : List α} [o : e8 r L bs cs L'] (hij : i ≠ j) (hb : bs[i]? = some b) (hc : cs[i]? = some c) (hb' : bs[j]? = some b') (E1 : cs[j]? = some c') :
  ∃ X : HP, Hp R (ay r b c :: ay r b' c' :: X :: L') M ∧ ∀ {R' : Mem} {L2 : List HP} {M' : Mem} {d d' : α}, Hp R' (ay r b d :: ay r b' d' :: X :: L2) M' → Hp R' (aV r bs ((cs.set i d).set j d') :: L2) M' := by
 have hi := (List.getElem?_eq_some_iff.1 hb).1
 have hj := (List.getElem?_eq_some_iff.1 hb').1
 have JG := (List.getElem?_eq_some_iff.1 hc).1
 have I9 := (List.getElem?_eq_some_iff.1 E1).1
 have hl : (List.zipWith (ay r) bs cs).length = min bs.length cs.length := List.length_zipWith
 obtain ⟨rest, hr⟩ := cG.two (List.zipWith (ay r) bs cs) i j hij (by omega) (by omega)
 refine ⟨sep rest, ?_, ?_⟩
 ·have h0 : Hp R (sep (List.zipWith (ay r) bs cs) :: L') M := h.pick o.pick
  obtain ⟨l1, p1, p2⟩ := hr (ay r b c) (ay r b' c')
  have e : ((List.zipWith (ay r) bs cs).set i (ay r b c)).set j (ay r b' c') = List.zipWith (ay r) bs cs := by
   rw [mR hb, mR hb']
   congr 1
   obtain ⟨_, e1⟩ := List.getElem?_eq_some_iff.1 hc
   obtain ⟨_, e2⟩ := List.getElem?_eq_some_iff.1 E1
   subst e1; subst e2
   rw [List.set_getElem_self, List.set_getElem_self]
  rw [e] at p1
  refine h0.map fun A hs => ?_
  have h1 := bS.pick p1.app (bS.aR.1 hs)
  exact h1.tail fun B EW => (bS.pick p2.app EW).tail fun C Rp => bS.aR.2 Rp
 ·intro R' L2 M' d d' h1
  obtain ⟨l1, p1, p2⟩ := hr (ay r b d) (ay r b' d')
  rw [mR hb, mR hb'] at p1
  show Hp R' (sep (List.zipWith (ay r) bs ((cs.set i d).set j d')) :: L2) M'
  refine h1.map fun A hs => bS.aR.2 (bS.mG p1.app ?_)
  exact hs.tail fun B EW => bS.mG p2.app (EW.tail fun C Rp => bS.aR.1 Rp)
end
end Go.AF
namespace Go.Proofs
open Go.AF
set_option maxRecDepth 100000
theorem oS {lO : Int} {tq : Int} {lP : Int} {MG : Int} {M : Mem} {K : Value → Mem → Prop} {Kp : List PanicEntry → Mem → Prop} (h :
aX M (cl [(iV lO), (iV tq), (iV lP), (iV MG)] 23) fun k1 M2 =>
aX M2 Jf fun k3 M4 =>
iB M4 k1 0 fun n5 n6 n7 n8 =>
aa Tryz.prog 55 #[(iV n5), (iV 5)] M4 (fun v9 gF =>
aH (some v9) .i64 fun gG =>
eI gF k1 3 n8 ∧
eI gF k1 2 n7 ∧
eI gF k1 1 n6 ∧
aa Tryz.prog 55 #[(iV n6), (iV 5)] gF (fun CX kj =>
aH (some CX) .i64 fun pR =>
eI kj k1 3 n8 ∧
eI kj k1 2 n7 ∧
eI kj k1 1 n6 ∧
aa Tryz.prog 55 #[(iV n7), (iV 5)] kj (fun DH fh =>
aH (some DH) .i64 fun lA =>
eI fh k1 3 n8 ∧
eI fh k1 2 n7 ∧
eI fh k1 1 n6 ∧
aa Tryz.prog 55 #[(iV n8), (iV 12)] fh (fun FA jN =>
aH (some FA) .i64 fun iD =>
eI jN k1 3 n8 ∧
eI jN k1 2 n7 ∧
eI jN k1 1 n6 ∧
Lx jN k3 (iV (IntKind.wrap .i64 (1 + gG))) (iV (IntKind.wrap .i64 (1 + pR))) (iV (IntKind.wrap .i64 (2 + lA))) (iV (IntKind.wrap .i64 (1 + iD))) fun jn =>
eI jn k1 3 n8 ∧
eI jn k1 2 n7 ∧
eI jn k1 1 n6 ∧
iB jn k3 0 fun mT mw mV vR =>
K (.agg #[(iV mT), (iV mw), (iV mV), (iV vR)]) jn) Kp) Kp) Kp) Kp) :
 aa Tryz.prog 14 #[.agg #[.int .i64 lO, .int .i64 tq, .int .i64 lP, .int .i64 MG]] M K Kp := vw [(2, .bQ [0, 0, 2, 7, 15, 0, 0, 64, 239, 495, 0, 0, 2048, 7663, 15855, 0, 0, 65536, 245231, 507375, 1048575, 2097151] (sy [0, 1, 5, 6, 10, 11, 15, 16, 2] (.eN 7 (.eN 12 (.eN 17 (sy [3, 4, 8, 9, 13, 14, 18, 19, 20, 21] .done))))))] Tryz.func14 h
theorem mZ {x0 : Int} {x1 : Int} {M : Mem} {K : Value → Mem → Prop} {Kp : List PanicEntry → Mem → Prop} (h :
((x1 : Int) ≠ 0) ∧
K (iV (Int.tmod (IntKind.wrap .i64 (((Nat.bitwise and (BitVec.ofInt IntKind.i64.bits x0).toNat (BitVec.ofInt IntKind.i64.bits 255).toNat) : Nat) : Int)) x1)) M) :
 aa Tryz.prog 55 #[.int .i64 x0, .int .i64 x1] M K Kp := vw [] Tryz.func55 h
theorem yh {B0 : Option Addr} {m0 c0 : Nat} {x1 : Int} {M : Mem} {K : Value → Mem → Prop} {Kp : List PanicEntry → Mem → Prop} (h :
aN Tryz.prog (Go.Instr.makeSlice 36 (iV (if (0 : Int) > x1 then 0 else x1)) (iV (if (0 : Int) > x1 then 0 else x1))) M (fun v1 M2 =>
az (some v1) fun A3 k4 k5 =>
∃ I6 : IT, (∃ k7, I6 k7 [(iV 0)] M2) ∧
∀ (k8 : Nat) (_ : Nat → Value) (iS : Int) (jO : Mem), (I6 k8 [(iV iS)] jO) → aM (decide (iS < k4))
 ((0 ≤ iS) ∧
 (iS < k4) ∧
 aF A3 fun gx c7 =>
 sT jO gx (c7 + (Int.toNat iS)) (iV (-1)) fun mh =>
 ∃ gX : Nat, (gX < k8) ∧
 I6 gX [(iV (IntKind.wrap .i64 (iS + 1)))] mh)
 (aN Tryz.prog (Go.Instr.makeSlice 248 (iV (k4 : Int)) (iV (k4 : Int))) jO (fun Mc mo =>
 az (some Mc) fun Ju iz kH =>
 ∃ Xh : IT, (∃ gU, Xh gU [(iV 0), (iV 0), (iV 0)] mo) ∧
 ∀ (jo : Nat) (_ : Nat → Value) (mT : Int) (mw : Int) (mV : Int) (uR : Mem), (Xh jo [(iV mT), (iV mw), (iV mV)] uR) → aM (decide (mV < m0))
 ((0 ≤ mV) ∧
 (mV < m0) ∧
 aF B0 fun gY mQ =>
 Zr uR gY (mQ + ((Int.toNat mV) * 2)) fun td n32 =>
 aX uR Hl fun qR qS =>
 Zq qS qR (iV td) (.int .u64 n32) fun AG =>
 rI AG qR 0 fun O9 =>
 aM (O9 != 1)
 (∃ iE : Nat, (iE < jo) ∧
 Xh iE [(iV mT), (iV mw), (iV (IntKind.wrap .i64 (mV + 1)))] AG)
 (rU AG qR 1 fun LM =>
 aM (decide ((LM : Int) < (IntKind.wrap .u64 (k4 : Int))))
 (rU AG qR 1 fun Po =>
 (0 ≤ Po) ∧
 (Po < k4) ∧
 aF A3 fun Jn LN =>
 rI AG Jn (LN + (Int.toNat Po)) fun DD =>
 rU AG qR 1 fun B5 =>
 (0 ≤ B5) ∧
 (B5 < k4) ∧
 aF A3 fun Jo LO =>
 rU AG qR 1 fun xN =>
 sT AG Jo (LO + (Int.toNat B5)) (iV mT) fun LP =>
 ((Mem.ld LP ⟨qR, 1, none⟩) = (some (.int .u64 xN))) ∧
 (0 ≤ xN) ∧
 (xN < iz) ∧
 aF Ju fun Hz LS =>
 sT LP Hz (LS + (Int.toNat xN)) (.bool true) fun Wr =>
 ((Mem.ld Wr ⟨qR, 1, none⟩) = (some (.int .u64 xN))) ∧
 ∃ tf : Nat, (tf < jo) ∧
 Xh tf [(iV (IntKind.wrap .i64 (mT + 1))), (iV (if ((IntKind.wrap .i64 (mT - DD)) : Int) > mw then (IntKind.wrap .i64 (mT - DD)) else mw)), (iV (IntKind.wrap .i64 (mV + 1)))] Wr)
 (∃ pQ : Nat, (pQ < jo) ∧
 Xh pQ [(iV (IntKind.wrap .i64 (mT + 1))), (iV mw), (iV (IntKind.wrap .i64 (mV + 1)))] AG)))
 (∃ I54 : IT, (∃ HB, I54 HB [(iV mw), (iV 0)] uR) ∧
 ∀ (Pt : Nat) (_ : Nat → Value) (Hs : Int) (vQ : Int) (nD : Mem), (I54 Pt [(iV Hs), (iV vQ)] nD) → aM (decide (vQ < k4))
 ((0 ≤ vQ) ∧
 (vQ < k4) ∧
 aF A3 fun Oz Tf =>
 rI nD Oz (Tf + (Int.toNat vQ)) fun FC =>
 (0 ≤ vQ) ∧
 (vQ < iz) ∧
 aF Ju fun YA ZY =>
 rB nD YA (ZY + (Int.toNat vQ)) fun t66 =>
 aM (!t66)
 (K (iV 0) nD)
 (∃ ux : Nat, (ux < Pt) ∧
 I54 ux [(iV (if ((IntKind.wrap .i64 (mT - FC)) : Int) > Hs then (IntKind.wrap .i64 (mT - FC)) else Hs)), (iV (IntKind.wrap .i64 (vQ + 1)))] nD))
 (K (iV Hs) nD))) Kp)) Kp) :
 aa Tryz.prog 75 #[.slice B0 m0 c0, .int .i64 x1] M K Kp := vw [(2000000, .loop [(19, .c (.int .i64))]), (2000002, .loop [(8, .c (.int .i64)), (9, .c (.int .i64)), (31, .c (.int .i64))]), (15, .bQ [0, 0, 2, 0, 0, 16, 0, 71, 199, 511, 1023] (sy [0, 1, 3, 4, 6, 2, 7] (.eN 5 (sy [8, 9, 10] .done)))), (2000004, .loop [(9, .c (.int .i64)), (67, .c (.int .i64))])] Tryz.func75 h
variable {M : Mem} {K : Value → Mem → Prop} {Kp : List PanicEntry → Mem → Prop}
theorem zQ {DN : Option Addr} {DO DP : Nat} {DQ : Option Addr} {DR DS : Nat} {lP : Int} {DT : Option Addr} {DU DV : Nat} {cL : Int} {cN : Int} {cO : Int} {fq : Int} {B2 : Option Addr} {m2 c2 : Nat} {x3 : Int} (h :
aX M (cl [(.slice DN DO DP), (.slice DQ DR DS), (iV lP), (.slice DT DU DV)] 39) fun k1 M2 =>
aX M2 (cl [(iV cL), (iV cN), (iV cO), (iV fq)] 29) fun k3 M4 =>
aX M4 (cl [(iV x3)] 3) fun k5 M6 =>
aX M6 AD fun k7 M8 =>
aa Tryz.prog 16 #[(.slice B2 m2 c2)] M8 (fun v9 gF =>
b8 (some v9) fun Ov =>
Ly gF k1 0 fun zp c7 jE vP gA eK kf E0 kH eZ =>
iB gF k3 0 fun qP BW CY mT =>
aa Tryz.prog 15 #[(.agg #[(.slice zp c7 jE), (.slice vP gA eK), (iV kf), (.slice E0 kH eZ)]), (.agg #[(iV qP), (iV BW), (iV CY), (iV mT)]), (.pointer Ov)] gF (fun Ww wZ =>
b8 (some Ww) fun SY =>
aX wZ SM fun gY xM =>
sT xM gY 0 (.pointer SY) fun S9 =>
aX S9 (.map #[] 0) fun ur zq =>
bl Tryz.prog (Go.Instr.mapUpdate 170 (.map (some ur)) (iV 0) (iV (-1))) zq (fun qS =>
aX qS (cl [(.map (some ur)), (iV 0)] 172) fun BV AG =>
aX AG O5 fun jQ mj =>
sT mj jQ 0 (.pointer (some ⟨BV, 0, none⟩)) fun Rt =>
aa Tryz.prog 61 #[(.func (.func 71) #[] #[(.pointer (some ⟨k5, 0, none⟩)), (.pointer (some ⟨gY, 0, none⟩)), (.pointer (some ⟨jQ, 0, none⟩))])] Rt (fun Md AK =>
∃ Hy DD B5 FO FP xN : Int, (Md = (.tuple #[(iV Hy), (.agg #[(iV DD), (iV B5), (iV FO), (iV FP), (.int .u64 xN)])])) ∧
rP AK gY 0 fun Jz =>
aa Tryz.prog 18 #[(.pointer Jz)] AK (fun Jp wX =>
b8 (some Jp) fun Pa =>
aa Tryz.prog 73 #[(.pointer Pa)] wX (fun ZL Jv =>
aH (some ZL) .i64 fun Tb =>
∃ I55 : IT, (∃ Pt, I55 Pt [(iV 0)] Jv) ∧
∀ (xZ : Nat) (_ : Nat → Value) (vQ : Int) (nD : Mem), (I55 xZ [(iV vQ)] nD) → aM (decide (vQ < Tb))
 (rP nD gY 0 fun Te =>
 rP nD jQ 0 fun A62 =>
 aa Tryz.prog 35 #[(.pointer Te)] nD (fun ZM Vs =>
 aH (some ZM) .i64 fun BU =>
 ((Mem.ld Vs ⟨jQ, 0, none⟩) = (some (.pointer A62))) ∧
 aa Tryz.prog 74 #[(.pointer A62), (iV vQ), (iV (IntKind.wrap .i64 (BU - 1)))] Vs (fun v66 Yv =>
 (v66 = (.tuple #[])) ∧
 ((Mem.ld Yv ⟨jQ, 0, none⟩) = (some (.pointer A62))) ∧
 ∃ KG : Nat, (KG < xZ) ∧
 I55 KG [(iV (IntKind.wrap .i64 (vQ + 1)))] Yv) Kp) Kp)
 (rP nD gY 0 fun Ue =>
 rP nD gY 0 fun Py =>
 rI nD k3 1 fun KE =>
 rP nD jQ 0 fun Uu =>
 aF Uu fun PB FR =>
 rI nD PB (FR + 1) fun FD =>
 aa Tryz.prog 35 #[(.pointer Ue)] nD (fun v76 zO =>
 aH (some v76) .i64 fun CZ =>
 ((Mem.ld zO ⟨PB, (FR + 1), none⟩) = (some (iV FD))) ∧
 ((Mem.ld zO ⟨jQ, 0, none⟩) = (some (.pointer Uu))) ∧
 eI zO k3 1 KE ∧
 ((Mem.ld zO ⟨gY, 0, none⟩) = (some (.pointer Py))) ∧
 aa Tryz.prog 18 #[(.pointer Py)] zO (fun ZS uW =>
 b8 (some ZS) fun Pu =>
 ((Mem.ld uW ⟨PB, (FR + 1), none⟩) = (some (iV FD))) ∧
 ((Mem.ld uW ⟨jQ, 0, none⟩) = (some (.pointer Uu))) ∧
 eI uW k3 1 KE ∧
 ((Mem.ld uW ⟨gY, 0, none⟩) = (some (.pointer Py))) ∧
 aa Tryz.prog 73 #[(.pointer Pu)] uW (fun v82 B9 =>
 aH (some v82) .i64 fun Ou =>
 ((Mem.ld B9 ⟨PB, (FR + 1), none⟩) = (some (iV FD))) ∧
 ((Mem.ld B9 ⟨jQ, 0, none⟩) = (some (.pointer Uu))) ∧
 eI B9 k3 1 KE ∧
 ((Mem.ld B9 ⟨gY, 0, none⟩) = (some (.pointer Py))) ∧
 aa Tryz.prog 76 #[(.pointer Ov)] B9 (fun Tq FU =>
 az (some Tq) fun WX Mf WY =>
 ((Mem.ld FU ⟨PB, (FR + 1), none⟩) = (some (iV FD))) ∧
 ((Mem.ld FU ⟨jQ, 0, none⟩) = (some (.pointer Uu))) ∧
 eI FU k3 1 KE ∧
 ((Mem.ld FU ⟨gY, 0, none⟩) = (some (.pointer Py))) ∧
 aa Tryz.prog 75 #[(.slice WX Mf WY), (iV KE)] FU (fun Mg nE =>
 aH (some Mg) .i64 fun Wv =>
 ((Mem.ld nE ⟨PB, (FR + 1), none⟩) = (some (iV FD))) ∧
 ((Mem.ld nE ⟨jQ, 0, none⟩) = (some (.pointer Uu))) ∧
 eI nE k3 1 KE ∧
 ((Mem.ld nE ⟨gY, 0, none⟩) = (some (.pointer Py))) ∧
 Lx nE k7 (iV CZ) (iV Ou) (iV Wv) (iV FD) fun Oy =>
 ((Mem.ld Oy ⟨PB, (FR + 1), none⟩) = (some (iV FD))) ∧
 ((Mem.ld Oy ⟨jQ, 0, none⟩) = (some (.pointer Uu))) ∧
 eI Oy k3 1 KE ∧
 ((Mem.ld Oy ⟨gY, 0, none⟩) = (some (.pointer Py))) ∧
 iB Oy k7 0 fun n97 Rk Ox nF =>
 K (.agg #[(iV n97), (iV Rk), (iV Ox), (iV nF)]) Oy) Kp) Kp) Kp) Kp) Kp)) Kp) Kp) Kp) Kp) Kp) Kp) :
 aa Tryz.prog 29 #[.agg #[.slice DN DO DP, .slice DQ DR DS, .int .i64 lP, .slice DT DU DV], .agg #[.int .i64 cL, .int .i64 cN, .int .i64 cO, .int .i64 fq], .slice B2 m2 c2, .int .i64 x3] M K Kp := vw [(2000000, .loop [(28, .c (.int .i64))]), (8, .bQ [0, 0, 0, 4, 12, 31] (sy [1, 2] (.eN 0 (sy [3, 4, 5] .done)))), (10, .bQ [0, 1, 0, 7, 15, 0, 63, 0, 128, 511, 0, 1024, 3072, 7168, 16383, 32767] (sy [5, 7, 0] (.eN 2 (.eN 8 (.eN 10 (sy [11, 12] (.eN 13 (sy [1, 3, 4, 6, 9, 14, 15] .done))))))))] Tryz.func29 h
theorem wK {b0 o0 : Nat} {b1 o1 : Nat} {b2 o2 : Nat} (h :
rI M b0 o0 fun n1 =>
∃ I2 : IT, (∃ k3, I2 k3 [(iV 0)] M) ∧
∀ (k4 : Nat) (_ : Nat → Value) (n6 : Int) (M7 : Mem), (I2 k4 [(iV n6)] M7) → aM (decide ((n6 : Int) < (if (0 : Int) > n1 then 0 else n1)))
 (rP M7 b1 o1 fun A8 =>
 aa Tryz.prog 22 #[(.pointer A8)] M7 (fun v9 gF =>
 aH (some v9) .i64 fun gG =>
 aM (gG != 0)
 (K (.tuple #[]) gF)
 (rP gF b1 o1 fun zp =>
 rP gF b2 o2 fun EY =>
 rP gF b1 o1 fun mq =>
 aa Tryz.prog 54 #[(.pointer zp)] gF (fun DH fh =>
 ∃ lA kf wY : Int, ∃ Pq : Option Addr, ∃ eZ gU : Nat, (DH = (.agg #[(iV lA), (iV kf), (iV wY), (.slice Pq eZ gU)])) ∧
 ((Mem.ld fh ⟨b1, o1, none⟩) = (some (.pointer mq))) ∧
 ((Mem.ld fh ⟨b2, o2, none⟩) = (some (.pointer EY))) ∧
 aa Tryz.prog 72 #[(.pointer EY), (.agg #[(iV lA), (iV kf), (iV wY), (.slice Pq eZ gU)]), (.pointer mq)] fh (fun Wy jn =>
 (Wy = (.tuple #[])) ∧
 ((Mem.ld jn ⟨b1, o1, none⟩) = (some (.pointer mq))) ∧
 ((Mem.ld jn ⟨b2, o2, none⟩) = (some (.pointer EY))) ∧
 ∃ oB : Nat, (oB < k4) ∧
 I2 oB [(iV (IntKind.wrap .i64 (n6 + 1)))] jn) Kp) Kp)) Kp)
 (K (.tuple #[]) M7)) :
 aa Tryz.prog 71 #[.pointer (some ⟨b0, o0, none⟩), .pointer (some ⟨b1, o1, none⟩), .pointer (some ⟨b2, o2, none⟩)] M K Kp := vw [(2000000, .loop [(5, .c (.int .i64))]), (3, .bQ [0, 0, 2, 0, 15] (sy [1] (.eN 0 (.eN 3 (sy [2, 4] .done)))))] Tryz.func71 h
theorem r6 {b0 o0 : Nat} {cL : Int} {cN : Int} {cO : Int} {Xi : Option Addr} {Xj Xk : Nat} {b2 o2 : Nat} (h :
aX M (cl [(iV cL), (iV cN), (iV cO), (.slice Xi Xj Xk)] 43) fun k1 M2 =>
aa Tryz.prog 35 #[(.pointer (some ⟨b2, o2, none⟩))] M2 (fun v3 M4 =>
aH (some v3) .i64 fun n5 =>
rI M4 k1 0 fun n6 =>
aM (n6 == 7)
 (rI M4 k1 2 fun n7 =>
 aa Tryz.prog 74 #[(.pointer (some ⟨b0, o0, none⟩)), (iV n7), (iV (IntKind.wrap .i64 (n5 - 1)))] M4 (fun v8 M9 =>
 (v8 = (.tuple #[])) ∧
 rI M9 k1 2 fun iS =>
 aa Tryz.prog 18 #[(.pointer (some ⟨b2, o2, none⟩))] M9 (fun v11 s9 =>
 b8 (some v11) fun EY =>
 eI s9 k1 2 iS ∧
 aa Tryz.prog 119 #[(.pointer EY), (iV iS)] s9 (fun WN qU =>
 aH (some WN) .i64 fun lN =>
 eI qU k1 2 iS ∧
 aM (lN == 1)
 (dD (Mem.ld qU ⟨b0, o0, none⟩) fun Ta =>
 rI qU k1 2 fun kf =>
 bl Tryz.prog (Go.Instr.mapUpdate 170 Ta (iV kf) (iV (IntKind.wrap .i64 (n5 - 1)))) qU (fun jN =>
 rS jN k1 3 fun Pq eZ gU =>
 ∃ I23 : IT, (∃ sE, I23 sE [(iV 0)] jN) ∧
 ∀ (oB : Nat) (_ : Nat → Value) (mV : Int) (uR : Mem), (I23 oB [(iV mV)] uR) → aM (decide (mV < eZ))
 ((0 ≤ mV) ∧
 (mV < eZ) ∧
 aF Pq fun gY mQ =>
 rI uR gY (mQ + (Int.toNat mV)) fun td =>
 dD (Mem.ld uR ⟨b0, o0, none⟩) fun Tn =>
 bl Tryz.prog (Go.Instr.mapUpdate 170 Tn (iV td) (iV (IntKind.wrap .i64 (n5 - 1)))) uR (fun zq =>
 ∃ tg : Nat, (tg < oB) ∧
 I23 tg [(iV (IntKind.wrap .i64 (mV + 1)))] zq) Kp)
 (K (.tuple #[]) uR)) Kp)
 (rS qU k1 3 fun ZK LY jQ =>
 ∃ I38 : IT, (∃ zN, I38 zN [(iV 0)] qU) ∧
 ∀ (Jq : Nat) (_ : Nat → Value) (Hy : Int) (uv : Mem), (I38 Jq [(iV Hy)] uv) → aM (decide (Hy < LY))
 ((0 ≤ Hy) ∧
 (Hy < LY) ∧
 aF ZK fun Pc Jo =>
 rI uv Pc (Jo + (Int.toNat Hy)) fun FP =>
 dD (Mem.ld uv ⟨b0, o0, none⟩) fun Z5 =>
 bl Tryz.prog (Go.Instr.mapUpdate 170 Z5 (iV FP) (iV (IntKind.wrap .i64 (n5 - 1)))) uv (fun LP =>
 ∃ Hz : Nat, (Hz < Jq) ∧
 I38 Hz [(iV (IntKind.wrap .i64 (Hy + 1)))] LP) Kp)
 (K (.tuple #[]) uv))) Kp) Kp) Kp)
 (rS M4 k1 3 fun Z7 B7 tf =>
 ∃ I53 : IT, (∃ Oq, I53 Oq [(iV 0)] M4) ∧
 ∀ (HB : Nat) (_ : Nat → Value) (KF : Int) (Jw : Mem), (I53 HB [(iV KF)] Jw) → aM (decide (KF < B7))
 ((0 ≤ KF) ∧
 (KF < B7) ∧
 aF Z7 fun Ht k60 =>
 rI Jw Ht (k60 + (Int.toNat KF)) fun LU =>
 dD (Mem.ld Jw ⟨b0, o0, none⟩) fun S6 =>
 bl Tryz.prog (Go.Instr.mapUpdate 170 S6 (iV LU) (iV (IntKind.wrap .i64 (n5 - 1)))) Jw (fun BT =>
 ∃ YA : Nat, (YA < HB) ∧
 I53 YA [(iV (IntKind.wrap .i64 (KF + 1)))] BT) Kp)
 (K (.tuple #[]) Jw))) Kp) :
 aa Tryz.prog 72 #[.pointer (some ⟨b0, o0, none⟩), .agg #[.int .i64 cL, .int .i64 cN, .int .i64 cO, .slice Xi Xj Xk], .pointer (some ⟨b2, o2, none⟩)] M K Kp := vw [(4, .bQ [0, 1, 0, 4, 15, 31] (sy [0, 2] (.eN 3 (sy [1, 4, 5] .done)))), (5, .bQ [0, 1, 3, 7, 0, 16, 0, 127] (sy [0, 1, 2, 4, 6, 3, 5, 7] .done)), (2000000, .loop [(36, .c (.int .i64))])] Tryz.func72 h
theorem r7 {b0 o0 : Nat} {x1 : Int} {x2 : Int} (h :
dD (Mem.ld M ⟨b0, o0, none⟩) fun v1 =>
aN Tryz.prog (Go.Instr.lookup 170 v1 (iV x1) true) M (fun v2 M3 =>
∃ n4 : Int, ∃ t5 : Bool, (v2 = (.tuple #[(iV n4), (.bool t5)])) ∧
aM t5
 (rI M3 b0 (o0 + 1) fun n6 =>
 sT M3 b0 (o0 + 1) (iV (if ((IntKind.wrap .i64 (x2 - n4)) : Int) > n6 then (IntKind.wrap .i64 (x2 - n4)) else n6)) fun M7 =>
 dD (Mem.ld M7 ⟨b0, o0, none⟩) fun v8 =>
 aN Tryz.prog (Go.Builtin.delete_ #[170, 3] 0 #[v8, (iV x1)]) M7 (fun v9 gF =>
 (v9 = (.tuple #[])) ∧
 K (.tuple #[]) gF) Kp)
 (K (.tuple #[]) M3)) Kp) :
 aa Tryz.prog 74 #[.pointer (some ⟨b0, o0, none⟩), .int .i64 x1, .int .i64 x2] M K Kp := vw [] Tryz.func74 h
theorem zR {lO : Int} {tq : Int} {lP : Int} {MG : Int} {x1 : Int} {x2 : Int} (h :
aX M (cl [(iV lO), (iV tq), (iV lP), (iV MG)] 29) fun k1 M2 =>
rI M2 k1 3 fun n3 =>
rI M2 k1 2 fun n4 =>
K (iV (IntKind.wrap .i64 ((IntKind.wrap .i64 ((IntKind.wrap .i64 ((IntKind.wrap .i64 ((IntKind.wrap .i64 (2 * n3)) + 2)) * x1)) * (IntKind.wrap .i64 ((IntKind.wrap .i64 (7 * (IntKind.wrap .i64 (x2 + 2)))) + (IntKind.wrap .i64 (4 * (IntKind.wrap .i64 (n4 + 2)))))))) + (IntKind.wrap .i64 (8 * x1))))) M2) :
 aa Tryz.prog 30 #[.agg #[.int .i64 lO, .int .i64 tq, .int .i64 lP, .int .i64 MG], .int .i64 x1, .int .i64 x2] M K Kp := vw [] Tryz.func30 h
end Go.Proofs
