/- A part of proofs about one program. -/
import Derived.Test.YtnnlgknlialpmaaGreatProg
import Derived.Test.YtnnlgknlialpmaaGreatZReplayToldStC
import Derived.Test.YtnnlgknlialpmaaGreatZReplayToldMod
import Derived.Test.YtnnlgknlialpmaaGreatZReplayToldWin2
set_option linter.unusedVariables false
namespace Go.Proofs
open Go.AF
noncomputable def Cx : Ctx := ⟨Tryz.prog, 255⟩
theorem good : Cx.Good := by
 refine ⟨?_, by kernel_rfl⟩
 have h : (List.range 253).all (fun g => lK Tryz.prog (g + 2)) = true := by kernel_rfl
 intro g hg
 have h1 : g < 255 := hg.2
 have := List.all_eq_true.1 h (g - 2) (List.mem_range.2 (by omega))
 have e : g - 2 + 2 = g := by omega
 simp only [e] at this
 exact this
def sy : List Nat → Ex → Ex
 | [], e => e
 | i :: l, e => .step i (sy l e)
abbrev aA (t : Nat) (A : Option Addr) (n c : Nat) (B : Option Addr) (m d : Nat) (M : Mem) (K : Value → Mem → Prop) (Kp : List PanicEntry → Mem → Prop) : Prop := bh Tryz.prog (Go.Builtin.append_ #[t, t] t #[.slice A n c, .slice B m d]) M K Kp
theorem vw {f : FuncId} {fn : Func} {args : List Value} {M : Mem} {K : Value → Mem → Prop} {Kp : List PanicEntry → Mem → Prop} (H : List (Nat × Hint)) (hf : Cx.P.funcs[f]? = some fn) {vc : Prop} (h : vc) (h1 : tW fn args.length = true := by kernel_rfl)
  (h2 : vc = cL Cx H Kp (dn fn) 0 (ER Cx.P fn K) (er args) M := by kernel_rfl) : aa Cx.P f args.toArray M K Kp := bV (C := Cx) good H hf h1 h2 h
end Go.Proofs
namespace Go.Proofs
open Go.AF
set_option maxRecDepth 100000
variable {M : Mem} {K : Value → Mem → Prop} {Kp : List PanicEntry → Mem → Prop}
theorem yL {x0 : Int} (h :
aX M (cl [(iV (if (16 : Int) < (if (0 : Int) > x0 then 0 else x0) then 16 else (if (0 : Int) > x0 then 0 else x0))), (.slice none 0 0), (.slice none 0 0), (.slice none 0 0), (.bool false)] 305) fun k1 M2 =>
K (.pointer (some ⟨k1, 0, none⟩)) M2) :
 aa Tryz.prog 113 #[.int .i64 x0] M K Kp := vw [] Tryz.func113 h
theorem kq {b0 o0 : Nat} {bP : Int} {bQ : Int} {bR : Int} (h :
aX M (cl [(iV bP), (iV bQ), (iV bR)] 280) fun k1 M2 =>
rS M2 b0 (o0 + 3) fun A3 k4 k5 =>
lY M2 k1 0 fun n6 n7 n8 =>
aX M2 (cl [(iV n6), (iV n7), (iV n8)] 280) fun k9 iQ =>
aA 195 A3 k4 k5 (some ⟨k9, 0, none⟩) 1 1 iQ (fun v11 ri =>
ay (some v11) fun F3 gS eV =>
sT ri b0 (o0 + 3) (.slice F3 gS eV) fun dG =>
K (.tuple #[]) dG) Kp) :
 aa Tryz.prog 235 #[.pointer (some ⟨b0, o0, none⟩), .agg #[.int .i64 bP, .int .i64 bQ, .int .i64 bR]] M K Kp := vw [(1, .bL [0, 0, 2, 6, 14, 0, 32, 126, 255, 511, 1023] (sy [0, 1, 2, 3, 4, 5, 6, 7, 8, 9, 10] .done))] Tryz.func235 h
theorem ku {b0 o0 : Nat} {bP : Int} {bQ : Int} {bR : Int} (h :
aX M (cl [(iV bP), (iV bQ), (iV bR)] 280) fun k1 M2 =>
rS M2 b0 (o0 + 2) fun A3 k4 k5 =>
lY M2 k1 0 fun n6 n7 n8 =>
aX M2 (cl [(iV n6), (iV n7), (iV n8)] 280) fun k9 iQ =>
aA 195 A3 k4 k5 (some ⟨k9, 0, none⟩) 1 1 iQ (fun v11 ri =>
ay (some v11) fun F3 gS eV =>
sT ri b0 (o0 + 2) (.slice F3 gS eV) fun dG =>
K (.tuple #[]) dG) Kp) :
 aa Tryz.prog 236 #[.pointer (some ⟨b0, o0, none⟩), .agg #[.int .i64 bP, .int .i64 bQ, .int .i64 bR]] M K Kp := vw [(1, .bL [0, 0, 2, 6, 14, 0, 32, 126, 255, 511, 1023] (sy [0, 1, 2, 3, 4, 5, 6, 7, 8, 9, 10] .done))] Tryz.func236 h
theorem oJ {b0 o0 : Nat} {x1 : Int} (h :
aX M ij fun k1 M2 =>
rB M2 b0 (o0 + 4) fun t3 =>
aK t3
 (sT M2 k1 0 (iV 0) fun M4 =>
 sT M4 k1 1 (iV 0) fun M5 =>
 sT M5 k1 2 (iV 0) fun M6 =>
 lY M6 k1 0 fun n7 n8 n9 =>
 K (.tuple #[(.agg #[(iV n7), (iV n8), (iV n9)]), (.bool false), (iV 10)]) M6)
 (rS M2 b0 (o0 + 3) fun wz cN di =>
 aK (decide ((cN : Int) > 0))
 (aX M2 ij fun cI jz =>
 rS jz b0 (o0 + 3) fun oK dk dm =>
 aa Tryz.prog 250 #[(.slice oK dk dm)] jz (fun E1 jA =>
 ∃ eP jY kT : Int, ∃ CA : Option Addr, ∃ kU oq : Nat, (E1 = (.tuple #[(.agg #[(iV eP), (iV jY), (iV kT)]), (.slice CA kU oq)])) ∧
 G6 jA cI (iV eP) (iV jY) (iV kT) fun ua =>
 sT ua b0 (o0 + 3) (.slice CA kU oq) fun iR =>
 sT iR cI 2 (iV x1) fun mZ =>
 lY mZ cI 0 fun sP n32 sQ =>
 G6 mZ k1 (iV sP) (iV n32) (iV sQ) fun F4 =>
 lY F4 k1 0 fun wA uN yM =>
 K (.tuple #[(.agg #[(iV wA), (iV uN), (iV yM)]), (.bool true), (iV 0)]) F4) Kp)
 (rS M2 b0 (o0 + 1) fun LB xP Ap =>
 rI M2 b0 o0 fun pF =>
 aK (decide ((xP : Int) < pF))
 (rS M2 b0 (o0 + 1) fun TW E2 E3 =>
 aX M2 (cl [(iV x1)] 2) fun Qu Pv =>
 aA 53 TW E2 E3 (some ⟨Qu, 0, none⟩) 1 1 Pv (fun E4 uc =>
 ay (some E4) fun Jm nm rj =>
 sT uc b0 (o0 + 1) (.slice Jm nm rj) fun BT =>
 G6 BT k1 (iV 0) (iV 0) (iV 0) fun Hr =>
 lY Hr k1 0 fun zC yN CB =>
 K (.tuple #[(.agg #[(iV zC), (iV yN), (iV CB)]), (.bool false), (iV 0)]) Hr) Kp)
 (sT M2 k1 0 (iV 0) fun yO =>
 sT yO k1 1 (iV 0) fun rm =>
 sT rm k1 2 (iV 0) fun tB =>
 lY tB k1 0 fun n64 pG E5 =>
 K (.tuple #[(.agg #[(iV n64), (iV pG), (iV E5)]), (.bool false), (iV 6)]) tB)))) :
 aa Tryz.prog 237 #[.pointer (some ⟨b0, o0, none⟩), .int .i64 x1] M K Kp := vw [(8, .bL [0, 1, 3, 7, 15, 0, 32, 96, 224, 511, 1023] (sy [0, 1, 2, 5, 6, 7, 3, 4, 8, 9, 10] .done))] Tryz.func237 h
theorem oL {b0 o0 : Nat} (h :
aX M kj fun k1 M2 =>
aX M2 kj fun k3 M4 =>
rS M4 b0 (o0 + 2) fun A5 k6 k7 =>
∃ J8 : List Value → Mem → Prop, (aK (decide ((k6 : Int) > 0))
 (rS M4 b0 (o0 + 2) fun A9 cX cN =>
 aa Tryz.prog 250 #[(.slice A9 cX cN)] M4 (fun F2 jB =>
 ∃ ot fk jf : Int, ∃ BU : Option Addr, ∃ dK gN : Nat, (F2 = (.tuple #[(.agg #[(iV ot), (iV fk), (iV jf)]), (.slice BU dK gN)])) ∧
 sT jB k3 2 (iV ot) fun oM =>
 sT oM k3 (2 + 1) (iV fk) fun rq =>
 sT rq k3 (2 + 2) (iV jf) fun kx =>
 sT kx b0 (o0 + 2) (.slice BU dK gN) fun jZ =>
 sT jZ k3 5 (.bool true) fun iH =>
 rS iH b0 (o0 + 1) fun Qv oN qd =>
 rI iH k3 (2 + 2) fun oO =>
 aX iH (cl [(iV oO)] 2) fun m5 mZ =>
 aA 53 Qv oN qd (some ⟨m5, 0, none⟩) 1 1 mZ (fun J4 m6 =>
 ay (some J4) fun Hs sR pH =>
 sT m6 b0 (o0 + 1) (.slice Hs sR pH) fun F4 =>
 J8 [] F4) Kp) Kp)
 (J8 [] M4)) ∧
∀ TX : Nat → Value, ∀ kO : Mem, (J8 [] kO) → rS kO b0 (o0 + 1) fun MW wB xP =>
aK (decide ((wB : Int) > 0))
 (rS kO b0 (o0 + 1) fun TY yP J5 =>
 ((0 : Int) ≤ 0) ∧
 ((0 : Int) < yP) ∧
 az TY fun E2 E3 =>
 rI kO E2 (E3 + 0) fun ru =>
 TR kO k3 (iV ru) (.bool true) fun tC =>
 aX tC (cl [] 2) fun Jn LC =>
 rS LC b0 (o0 + 1) fun A52 rj Ht =>
 ((0 : Int) ≤ Ht) ∧
 ((Ht : Int) ≤ Ht) ∧
 ((0 : Int) ≤ rj) ∧
 ((rj : Int) ≤ Ht) ∧
 ((0 : Int) ≤ 1) ∧
 ((1 : Int) ≤ rj) ∧
 bh Tryz.prog (Go.Builtin.append_ #[53, 53] 53 #[(.slice (some ⟨Jn, 0, none⟩) 0 0), (.slice (iO A52 1 (Int.toNat (Ht : Int)) 1) ((Int.toNat (rj : Int)) - 1) ((Int.toNat (Ht : Int)) - 1))]) LC (fun Qw Qx =>
 ay (some Qw) fun LD yQ F5 =>
 sT Qx b0 (o0 + 1) (.slice LD yQ F5) fun Aq =>
 tY Aq k3 0 fun yR t62 rT n64 pG t66 =>
 Sq Aq k1 (iV yR) (.bool t62) (iV rT) (iV n64) (iV pG) (.bool t66) fun LF =>
 tY LF k1 0 fun F6 t74 Jo CC uO t78 =>
 K (.tuple #[(.agg #[(iV F6), (.bool t74), (iV Jo), (iV CC), (iV uO), (.bool t78)]), (iV 0)]) LF) Kp)
 (rB kO b0 (o0 + 4) fun t79 =>
 aK t79
 (rI kO k3 0 fun n80 =>
 rB kO k3 1 fun t81 =>
 rI kO k3 2 fun F7 =>
 rI kO k3 3 fun LG =>
 rI kO k3 4 fun Jp =>
 rB kO k3 5 fun t85 =>
 Sq kO k1 (iV n80) (.bool t81) (iV F7) (iV LG) (iV Jp) (.bool t85) fun oP =>
 tY oP k1 0 fun Qy t93 F8 DY F9 t97 =>
 K (.tuple #[(.agg #[(iV Qy), (.bool t93), (iV F8), (iV DY), (iV F9), (.bool t97)]), (iV 0)]) oP)
 (rI kO k3 0 fun Sv =>
 rB kO k3 1 fun t99 =>
 rI kO k3 2 fun qe =>
 rI kO k3 3 fun Hu =>
 rI kO k3 4 fun MX =>
 rB kO k3 5 fun t103 =>
 Sq kO k1 (iV Sv) (.bool t99) (iV qe) (iV Hu) (iV MX) (.bool t103) fun tD =>
 tY tD k1 0 fun Hv t111 yS yT yU t115 =>
 K (.tuple #[(.agg #[(iV Hv), (.bool t111), (iV yS), (iV yT), (iV yU), (.bool t115)]), (iV 5)]) tD))) :
 aa Tryz.prog 239 #[.pointer (some ⟨b0, o0, none⟩)] M K Kp := vw [(3000010, .cut []), (5, .bL [0, 0, 2, 6, 14, 0, 32, 96, 224, 510, 1023, 2047, 4095] (sy [0, 1, 2, 3, 5, 6, 4, 7, 8, 9, 10, 11, 12] .done))] Tryz.func239 h
theorem nq {b0 o0 : Nat} (h :
rB M b0 (o0 + 4) fun t1 =>
aK t1
 (K (.tuple #[(.slice none 0 0), (.slice none 0 0), (iV 10)]) M)
 (rS M b0 (o0 + 3) fun A2 k3 k4 =>
 rS M b0 (o0 + 2) fun A5 k6 k7 =>
 sT M b0 (o0 + 4) (.bool true) fun M8 =>
 sT M8 b0 (o0 + 3) (.slice none 0 0) fun M9 =>
 sT M9 b0 (o0 + 2) (.slice none 0 0) fun iQ =>
 K (.tuple #[(.slice A2 k3 k4), (.slice A5 k6 k7), (iV 0)]) iQ)) :
 aa Tryz.prog 243 #[.pointer (some ⟨b0, o0, none⟩)] M K Kp := vw [(3, .bL [0, 1, 3, 7, 0, 16, 48, 112, 15, 511] (sy [0, 1, 2, 4, 5, 6, 3, 8, 7, 9] .done))] Tryz.func243 h
theorem kV {b0 o0 : Nat} (h :
rB M b0 (o0 + 4) fun t1 =>
aK t1
 (K (.bool true) M)
 (rS M b0 (o0 + 2) fun A2 k3 k4 =>
 aK (decide ((k3 : Int) > 0))
 (K (.bool true) M)
 (rS M b0 (o0 + 1) fun A5 k6 k7 =>
 K (.bool (decide ((k6 : Int) > 0))) M))) :
 aa Tryz.prog 248 #[.pointer (some ⟨b0, o0, none⟩)] M K Kp := vw [] Tryz.func248 h
theorem kW {b0 o0 : Nat} (h :
rB M b0 (o0 + 4) fun t1 =>
aK t1
 (K (.bool true) M)
 (rS M b0 (o0 + 3) fun A2 k3 k4 =>
 aK (decide ((k3 : Int) > 0))
 (K (.bool true) M)
 (rS M b0 (o0 + 1) fun A5 k6 k7 =>
 rI M b0 o0 fun n8 =>
 K (.bool (decide ((k6 : Int) < n8))) M))) :
 aa Tryz.prog 249 #[.pointer (some ⟨b0, o0, none⟩)] M K Kp := vw [(1, .bL [0, 1, 3, 7, 15, 31, 63, 127, 255, 511, 1023, 2047, 4095, 8191, 16383, 32767, 65535, 131071, 8191, 270335, 794623, 1843199, 4194303, 8388607, 16777215] (sy [0, 1, 2, 3, 4, 5, 6, 7, 8, 9, 10, 11, 12, 13, 14, 15, 18, 19, 20, 16, 17, 21, 22, 23, 24] .done))] Tryz.func249 h
theorem uP {B0 : Option Addr} {m0 c0 : Nat} (h :
aX M ij fun k1 M2 =>
((0 : Int) ≤ 0) ∧
((0 : Int) < m0) ∧
az B0 fun k3 k4 =>
((0 : Int) ≤ c0) ∧
((c0 : Int) ≤ c0) ∧
((0 : Int) ≤ m0) ∧
((m0 : Int) ≤ c0) ∧
((0 : Int) ≤ 1) ∧
((1 : Int) ≤ m0) ∧
lY M2 k3 (k4 + 0) fun n5 n6 n7 =>
aX M2 (cl [] 280) fun k8 M9 =>
bh Tryz.prog (Go.Builtin.append_ #[195, 195] 195 #[(.slice (some ⟨k8, 0, none⟩) 0 0), (.slice (iO B0 1 (Int.toNat (c0 : Int)) 3) ((Int.toNat (m0 : Int)) - 1) ((Int.toNat (c0 : Int)) - 1))]) M9 (fun v10 iW =>
ay (some v10) fun wO cI gS =>
((Mem.dP iW ⟨k3, (k4 + 0), none⟩ 0 3) = some [(iV n5), (iV n6), (iV n7)]) ∧
G6 iW k1 (iV n5) (iV n6) (iV n7) fun l6 =>
((Mem.dP l6 ⟨k3, (k4 + 0), none⟩ 0 3) = some [(iV n5), (iV n6), (iV n7)]) ∧
lY l6 k1 0 fun fy iS eP =>
K (.tuple #[(.agg #[(iV fy), (iV iS), (iV eP)]), (.slice wO cI gS)]) l6) Kp) :
 aa Tryz.prog 250 #[.slice B0 m0 c0] M K Kp := vw [(1, .bL [0, 1, 3, 0, 0, 16, 56, 127, 255] (sy [0, 1, 4, 5] (.eo 2 (sy [3, 6, 7, 8] .done))))] Tryz.func250 h
theorem oQ {b0 o0 : Nat} {x1 : Int} (h :
rS M b0 (o0 + 2) fun A1 k2 k3 =>
(aa Tryz.prog 254 #[(.slice A1 k2 k3), (iV x1)] M (fun v4 M5 =>
 ay (some v4) fun A6 k7 k8 =>
 rS M5 b0 (o0 + 3) fun A9 cX cN =>
 aa Tryz.prog 254 #[(.slice A9 cX cN), (iV x1)] M5 (fun F2 jB =>
 ay (some F2) fun gz eV dk =>
 sT jB b0 (o0 + 2) (.slice A6 k7 k8) fun l6 =>
 sT l6 b0 (o0 + 3) (.slice gz eV dk) fun kP =>
 K (.tuple #[]) kP) Kp) Kp) ∧
(rS M b0 (o0 + 3) fun At iT cU =>
 aa Tryz.prog 254 #[(.slice A1 k2 k3), (iV x1)] M (fun E6 jZ =>
 ay (some E6) fun Hw oq oN =>
 aa Tryz.prog 254 #[(.slice At iT cU), (iV x1)] jZ (fun Hx ua =>
 ay (some Hx) fun Jq jL nt =>
 sT ua b0 (o0 + 2) (.slice Hw oq oN) fun m6 =>
 sT m6 b0 (o0 + 3) (.slice Jq jL nt) fun yV =>
 K (.tuple #[]) yV) Kp) Kp) ∧
True) :
 aa Tryz.prog 253 #[.pointer (some ⟨b0, o0, none⟩), .int .i64 x1] M K Kp := vw [(0, .bL [0, 0, 0, 4, 12, 28, 0, 124, 0, 256, 768, 1792, 0, 8188, 16381, 32765, 65533, 131071, 262143, 524287] (sy [0, 1, 2, 3, 4, 6, 8, 9, 10, 12, 5] (.fork 7 (sy [11, 13, 14, 15, 16, 17, 18, 19] .done) (.fork 11 (sy [7, 13, 14, 15, 16, 17, 18, 19] .done) .dead))))] Tryz.func253 h
theorem rV {B0 : Option Addr} {m0 c0 : Nat} {x1 : Int} (h :
∃ I1 : IT, (∃ k2, I1 k2 [(.slice none 0 0), (iV 0)] M) ∧
∀ (k3 : Nat) (_ : Nat → Value) (A5 : Option Addr) (k6 : Nat) (k7 : Nat) (n8 : Int) (M9 : Mem), (I1 k3 [(.slice A5 k6 k7), (iV n8)] M9) → aK (decide (n8 < m0))
 ((0 ≤ n8) ∧
 (n8 < m0) ∧
 az B0 fun cX cN =>
 lY M9 cX (cN + ((Int.toNat n8) * 3)) fun ek gG ot =>
 aX M9 ij fun eV dG =>
 G6 dG eV (iV ek) (iV gG) (iV ot) fun jA =>
 rI jA eV 0 fun eP =>
 aK (eP != x1)
 (rI jA eV 0 fun jY =>
 rI jA eV 1 fun kT =>
 rI jA eV 2 fun uQ =>
 aX jA (cl [(iV jY), (iV kT), (iV uQ)] 280) fun kU ud =>
 aA 195 A5 k6 k7 (some ⟨kU, 0, none⟩) 1 1 ud (fun MY ou =>
 ay (some MY) fun J6 m5 jL =>
 ∃ nt : Nat, (nt < k3) ∧
 I1 nt [(.slice J6 m5 jL), (iV (IntKind.wrap .i64 (n8 + 1)))] ou) Kp)
 (∃ l8 : Nat, (l8 < k3) ∧
 I1 l8 [(.slice A5 k6 k7), (iV (IntKind.wrap .i64 (n8 + 1)))] jA))
 (K (.slice A5 k6 k7) M9)) :
 aa Tryz.prog 254 #[.slice B0 m0 c0, .int .i64 x1] M K Kp := vw [(2000000, .loop [(5, .c .sl), (10, .c (.int .i64))])] Tryz.func254 h
end Go.Proofs
namespace Go.Proofs
open Go.AF
set_option maxRecDepth 100000
set_option maxHeartbeats 1000000
attribute [local irreducible] aE cY gh cz ay fL az aF aX bh bJ aK
theorem uR : bn Tryz.prog 53 2 1 8 [.int .i64 0] := bn.mk' (zv := .int .i64 0) (by kernel_rfl) (by kernel_rfl) rfl (by omega)
theorem ue : bn Tryz.prog 195 280 3 24 [.int .i64 0, .int .i64 0, .int .i64 0] := bn.mk' (zv := .agg #[.int .i64 0, .int .i64 0, .int .i64 0]) (by kernel_rfl) (by kernel_rfl) rfl (by omega)
abbrev qf (A : Option Addr) (c : Nat) (l : List Int) : HP := b8 bq 2 A c l
abbrev qg (A : Option Addr) (c : Nat) (l : List Wt) : HP := b8 gq 280 A c l
abbrev fJ (c : aZ) (Ab : Option Addr) (cb : Nat) (As : Option Addr) (cs : Nat) (Ar : Option Addr) (cr : Nat) : List Value :=
 [.int .i64 (c.room : Int), .slice Ab c.buf.length cb, .slice As c.snd.length cs, .slice Ar c.jd.length cr, .bool c.closed]
def bg : pE aZ := ⟨fun b c => exs fun Ab : Option Addr => exs fun cb : Nat => exs fun As : Option Addr => exs fun cs : Nat => exs fun Ar : Option Addr => exs fun cr : Nat =>
 sep [pt b (fJ c Ab cb As cs Ar cr) 305, qf Ab cb c.buf, qg As cs c.snd, qg Ar cr c.jd]⟩
section
variable {R : Mem} {L L' : List HP} {M : Mem} {K : Value → Mem → Prop} {Kp : List PanicEntry → Mem → Prop} {b : Nat} {c : aZ}
theorem fK (h : Hp R L M) [o : bO bg b L c L'] : ∃ Ab cb As cs Ar cr, Hp R (pt b (fJ c Ab cb As cs Ar cr) 305 :: qf Ab cb c.buf :: qg As cs c.snd :: qg Ar cr c.jd :: L') M := by
 have := h.obj bg b
 simpa only [bg, Hp.cP, Hp.aO, List.cons_append, List.nil_append] using this
theorem DZ {Ab As Ar : Option Addr} {cb cs cr : Nat} (h : Hp R (pt b (fJ c Ab cb As cs Ar cr) 305 :: qf Ab cb c.buf :: qg As cs c.snd :: qg Ar cr c.jd :: L) M) : Hp R (ax bg b c :: L) M := by
 refine Hp.tu ?_
 simp only [bg, Hp.cP, Hp.aO, List.cons_append, List.nil_append]
 exact ⟨_, _, _, _, _, _, h⟩
theorem cC {Ab As Ar : Option Addr} {nb cb ns cs nr cr room : Nat} {closed : Bool} {buf : List Int} {snd jd : List Wt} {L1 L2 L3 L4 : List HP} (h : Hp R L M) (b : Nat)
  [p : iF b L [.int .i64 (room : Int), .slice Ab nb cb, .slice As ns cs, .slice Ar nr cr, .bool closed] 305 L1] [p1 : bZ Ab L1 Int bq 2 cb buf L2] [p2 : bZ As L2 Wt gq 280 cs snd L3] [p3 : bZ Ar L3 Wt gq 280 cr jd L4]
  (e1 : nb = buf.length := by first | rfl | simp) (e2 : ns = snd.length := by first | rfl | simp) (e3 : nr = jd.length := by first | rfl | simp) : Hp R (ax bg b ⟨room, buf, snd, jd, closed⟩ :: L4) M := by
 subst e1; subst e2; subst e3
 exact DZ (h.sub (.cons p.pick (.cons p1.pick (.cons p2.pick (.cons p3.pick .refl)))))
theorem xQ {room : Int} (h : Hp R L M) (k : ∀ b M', Hp R (ax bg b (.new room) :: L) M' → K (.pointer (some ⟨b, 0, none⟩)) M') :
  aa Tryz.prog 113 #[.int .i64 room] M K Kp := by
 refine yL ?_
 rw [G9]
 refine aj h fun b M' h => k b M' (DZ ((((h.ck gq _).ck gq _).ck bq _).sub bG))
theorem sS {B : Option Addr} {m c : Nat} {w : Wt} {r : List Wt} (h : Hp R L M) (hB : Src R L B (gq.cells (w :: r))) (hm : m = r.length + 1) (hc : m ≤ c) (hn : m ≤ 1000000000)
  (k : ∀ A' c' M', Hp R (qg A' c' r :: L) M' → K (.tuple #[.agg #[.int .i64 w.g, .int .i64 w.cs, .int .i64 w.v], .slice A' r.length c']) M') :
  aa Tryz.prog 250 #[.slice B m c] M K Kp := by
 refine uP ?_
 obtain ⟨b, o, rfl⟩ := hB.fa h (by simp) (by decide)
 repeat (first|(refine aj h ?_;clear h;intro kb M h)|(refine ak h ?_;clear h;intro M h)|refine St.to h ?_|(apply Exists.intro;(repeat apply Exists.intro);refine And.intro rfl ?_)|refine aq ?_|refine af ?_|refine ai ?_)
 refine aW (hB.cons.at h (i := 0) (j := 0) rfl rfl (by omega)) ?_
 refine aW (hB.cons.at h (i := 0) (j := 1) rfl rfl (by omega)) ?_
 refine aW (hB.cons.at h (i := 0) (j := 2) rfl rfl (by omega)) ?_
 repeat (first|(refine aj h ?_;clear h;intro kb M h)|(refine ak h ?_;clear h;intro M h)|refine St.to h ?_|(apply Exists.intro;(repeat apply Exists.intro);refine And.intro rfl ?_)|refine aq ?_|refine af ?_|refine ai ?_)
 have s2 := hB.drop (m := 1) (c := c) (by simp; omega)
 simp only [Int.toNat_natCast]
 refine h.jc gq ue r s2.cons.cons (by omega) (by omega) ?_
 clear h
 intro A' c' M h
 repeat (first|(refine aj h ?_;clear h;intro kb M h)|(refine ak h ?_;clear h;intro M h)|refine St.to h ?_|(apply Exists.intro;(repeat apply Exists.intro);refine And.intro rfl ?_)|refine aq ?_|refine af ?_|refine ai ?_)
 refine ⟨hB.cons.cons.dP h (i := 0) rfl (by omega), ?_⟩
 repeat (first|(refine aj h ?_;clear h;intro kb M h)|(refine ak h ?_;clear h;intro M h)|refine St.to h ?_|(apply Exists.intro;(repeat apply Exists.intro);refine And.intro rfl ?_)|refine aq ?_|refine af ?_|refine ai ?_)
 refine ⟨hB.cons.cons.dP h (i := 0) rfl (by omega), ?_⟩
 repeat (first|(refine aj h ?_;clear h;intro kb M h)|(refine ak h ?_;clear h;intro M h)|refine St.to h ?_|(apply Exists.intro;(repeat apply Exists.intro);refine And.intro rfl ?_)|refine aq ?_|refine af ?_|refine ai ?_)
 exact k _ _ _ h.gk
theorem wP (h : Hp R L M) [o : bO bg b L c L'] (k : K (.bool c.pX) M) : aa Tryz.prog 249 #[.pointer (some ⟨b, 0, none⟩)] M K Kp := by
 refine kW ?_
 have h' := fK h (b := b)
 clear h
 obtain ⟨Ab, cb, As, cs, Ar, cr, h⟩ := h'
 repeat (first|(refine aj h ?_;clear h;intro kb M h)|(refine ak h ?_;clear h;intro M h)|refine St.to h ?_|(apply Exists.intro;(repeat apply Exists.intro);refine And.intro rfl ?_)|refine aq ?_|refine af ?_|refine ai ?_)
 refine eZ.2 ⟨fun hc => ?_, fun hc => ?_⟩
 ·rwa [aZ.pX, hc] at k
 ·repeat (first|(refine aj h ?_;clear h;intro kb M h)|(refine ak h ?_;clear h;intro M h)|refine St.to h ?_|(apply Exists.intro;(repeat apply Exists.intro);refine And.intro rfl ?_)|refine aq ?_|refine af ?_|refine ai ?_)
  refine aH.2 ⟨fun hr => ?_, fun hr => ?_⟩
  ·have : c.jd.isEmpty = false := by cases hc : c.jd <;> simp_all
   rwa [aZ.pX, hc, this] at k
  ·repeat (first|(refine aj h ?_;clear h;intro kb M h)|(refine ak h ?_;clear h;intro M h)|refine St.to h ?_|(apply Exists.intro;(repeat apply Exists.intro);refine And.intro rfl ?_)|refine aq ?_|refine af ?_|refine ai ?_)
   have : c.jd.isEmpty = true := by cases hc : c.jd <;> simp_all
   rw [aZ.pX, hc, this] at k
   simpa using k
theorem wQ (h : Hp R L M) [o : bO bg b L c L'] (k : K (.bool c.pY) M) : aa Tryz.prog 248 #[.pointer (some ⟨b, 0, none⟩)] M K Kp := by
 refine kV ?_
 have h' := fK h (b := b)
 clear h
 obtain ⟨Ab, cb, As, cs, Ar, cr, h⟩ := h'
 repeat (first|(refine aj h ?_;clear h;intro kb M h)|(refine ak h ?_;clear h;intro M h)|refine St.to h ?_|(apply Exists.intro;(repeat apply Exists.intro);refine And.intro rfl ?_)|refine aq ?_|refine af ?_|refine ai ?_)
 refine eZ.2 ⟨fun hc => ?_, fun hc => ?_⟩
 ·rwa [aZ.pY, hc] at k
 ·repeat (first|(refine aj h ?_;clear h;intro kb M h)|(refine ak h ?_;clear h;intro M h)|refine St.to h ?_|(apply Exists.intro;(repeat apply Exists.intro);refine And.intro rfl ?_)|refine aq ?_|refine af ?_|refine ai ?_)
  refine aH.2 ⟨fun hr => ?_, fun hr => ?_⟩
  ·have : c.snd.isEmpty = false := by cases hc : c.snd <;> simp_all
   rwa [aZ.pY, hc, this] at k
  ·repeat (first|(refine aj h ?_;clear h;intro kb M h)|(refine ak h ?_;clear h;intro M h)|refine St.to h ?_|(apply Exists.intro;(repeat apply Exists.intro);refine And.intro rfl ?_)|refine aq ?_|refine af ?_|refine ai ?_)
   have : c.snd.isEmpty = true := by cases hc : c.snd <;> simp_all
   rw [aZ.pY, hc, this] at k
   have e : (!c.buf.isEmpty) = decide ((c.buf.length : Int) > 0) := by cases c.buf <;> simp
   rw [← e]; simpa using k
theorem l9 {w : Wt} (h : Hp R L M) [o : bO bg b L c L'] (hs : c.Small 1000000000) (k : ∀ M', Hp R (ax bg b { c with snd := c.snd ++ [w] } :: L') M' → K (.tuple #[]) M') :
  aa Tryz.prog 236 #[.pointer (some ⟨b, 0, none⟩), .agg #[.int .i64 w.g, .int .i64 w.cs, .int .i64 w.v]] M K Kp := by
 refine ku ?_
 have h' := fK h (b := b)
 clear h
 obtain ⟨Ab, cb, As, cs, Ar, cr, h⟩ := h'
 obtain ⟨h1, h2, h3⟩ := hs
 repeat (first|(refine aj h ?_;clear h;intro kb M h)|(refine ak h ?_;clear h;intro M h)|refine St.to h ?_|(apply Exists.intro;(repeat apply Exists.intro);refine And.intro rfl ?_)|refine aq ?_|refine af ?_|refine ai ?_)
 refine h.bu ue [w] rfl rfl (by simp; omega) ?_
 clear h
 intro A' c' M h
 repeat (first|(refine aj h ?_;clear h;intro kb M h)|(refine ak h ?_;clear h;intro M h)|refine St.to h ?_|(apply Exists.intro;(repeat apply Exists.intro);refine And.intro rfl ?_)|refine aq ?_|refine af ?_|refine ai ?_)
 exact k _ (cC h b).bH
theorem mb {w : Wt} (h : Hp R L M) [o : bO bg b L c L'] (hs : c.Small 1000000000) (k : ∀ M', Hp R (ax bg b { c with jd := c.jd ++ [w] } :: L') M' → K (.tuple #[]) M') :
  aa Tryz.prog 235 #[.pointer (some ⟨b, 0, none⟩), .agg #[.int .i64 w.g, .int .i64 w.cs, .int .i64 w.v]] M K Kp := by
 refine kq ?_
 have h' := fK h (b := b)
 clear h
 obtain ⟨Ab, cb, As, cs, Ar, cr, h⟩ := h'
 obtain ⟨h1, h2, h3⟩ := hs
 repeat (first|(refine aj h ?_;clear h;intro kb M h)|(refine ak h ?_;clear h;intro M h)|refine St.to h ?_|(apply Exists.intro;(repeat apply Exists.intro);refine And.intro rfl ?_)|refine aq ?_|refine af ?_|refine ai ?_)
 refine h.bu ue [w] rfl rfl (by simp; omega) ?_
 clear h
 intro A' c' M h
 repeat (first|(refine aj h ?_;clear h;intro kb M h)|(refine ak h ?_;clear h;intro M h)|refine St.to h ?_|(apply Exists.intro;(repeat apply Exists.intro);refine And.intro rfl ?_)|refine aq ?_|refine af ?_|refine ai ?_)
 exact k _ (cC h b).bH
def LH (x : Wt × Bool × Int) : Value := .tuple #[.agg #[.int .i64 x.1.g, .int .i64 x.1.cs, .int .i64 x.1.v], .bool x.2.1, .int .i64 x.2.2]
theorem CD {v : Int} (h : Hp R L M) [o : bO bg b L c L'] (hs : c.Small 1000000000) (k : ∀ M', Hp R (ax bg b (c.send v).1 :: L') M' → K (LH (c.send v).2) M') :
  aa Tryz.prog 237 #[.pointer (some ⟨b, 0, none⟩), .int .i64 v] M K Kp := by
 refine oJ ?_
 obtain ⟨room, buf, snd, jd, closed⟩ := c
 obtain ⟨h1, h2, h3⟩ := hs
 have h' := fK h (b := b)
 clear h
 obtain ⟨Ab, cb, As, cs, Ar, cr, h⟩ := h'
 dsimp only [fJ] at h1 h2 h3 h
 repeat (first|(refine aj h ?_;clear h;intro kb M h)|(refine ak h ?_;clear h;intro M h)|refine St.to h ?_|(apply Exists.intro;(repeat apply Exists.intro);refine And.intro rfl ?_)|refine aq ?_|refine af ?_|refine ai ?_)
 refine eZ.2 ⟨fun hc => ?_, fun hc => ?_⟩
 ·subst hc
  repeat (first|(refine aj h ?_;clear h;intro kb M h)|(refine ak h ?_;clear h;intro M h)|refine St.to h ?_|(apply Exists.intro;(repeat apply Exists.intro);refine And.intro rfl ?_)|refine aq ?_|refine af ?_|refine ai ?_)
  exact k _ (cC h b).bH
 subst hc
 repeat (first|(refine aj h ?_;clear h;intro kb M h)|(refine ak h ?_;clear h;intro M h)|refine St.to h ?_|(apply Exists.intro;(repeat apply Exists.intro);refine And.intro rfl ?_)|refine aq ?_|refine af ?_|refine ai ?_)
 refine aH.2 ⟨fun hr => ?_, fun hr => ?_⟩
 ·cases jd with
  | nil => simp at hr
  | cons w r =>
   repeat (first|(refine aj h ?_;clear h;intro kb M h)|(refine ak h ?_;clear h;intro M h)|refine St.to h ?_|(apply Exists.intro;(repeat apply Exists.intro);refine And.intro rfl ?_)|refine aq ?_|refine af ?_|refine ai ?_)
   refine sS h (h.src (A := Ar)) rfl (h.gT Ar) (by simpa using h3) ?_
   clear h
   intro A' c' M h
   repeat (first|(refine aj h ?_;clear h;intro kb M h)|(refine ak h ?_;clear h;intro M h)|refine St.to h ?_|(apply Exists.intro;(repeat apply Exists.intro);refine And.intro rfl ?_)|refine aq ?_|refine af ?_|refine ai ?_)
   exact k _ (cC h b).bH
 cases jd with
 | cons w r => simp at hr
 | nil =>
 simp only [aZ.send, Bool.false_eq_true, if_false] at k
 repeat (first|(refine aj h ?_;clear h;intro kb M h)|(refine ak h ?_;clear h;intro M h)|refine St.to h ?_|(apply Exists.intro;(repeat apply Exists.intro);refine And.intro rfl ?_)|refine aq ?_|refine af ?_|refine ai ?_)
 refine aH.2 ⟨fun hl => ?_, fun hl => ?_⟩
 ·rw [if_pos (by omega)] at k
  repeat (first|(refine aj h ?_;clear h;intro kb M h)|(refine ak h ?_;clear h;intro M h)|refine St.to h ?_|(apply Exists.intro;(repeat apply Exists.intro);refine And.intro rfl ?_)|refine aq ?_|refine af ?_|refine ai ?_)
  refine h.bu uR [v] rfl rfl (by simp; omega) ?_
  clear h
  intro A' c' M h
  repeat (first|(refine aj h ?_;clear h;intro kb M h)|(refine ak h ?_;clear h;intro M h)|refine St.to h ?_|(apply Exists.intro;(repeat apply Exists.intro);refine And.intro rfl ?_)|refine aq ?_|refine af ?_|refine ai ?_)
  exact k _ (cC h b).bH
 ·rw [if_neg (by omega)] at k
  repeat (first|(refine aj h ?_;clear h;intro kb M h)|(refine ak h ?_;clear h;intro M h)|refine St.to h ?_|(apply Exists.intro;(repeat apply Exists.intro);refine And.intro rfl ?_)|refine aq ?_|refine af ?_|refine ai ?_)
  exact k _ (cC h b).bH
def LI (x : Int × Bool × Wt × Bool × Int) : Value := .tuple #[.agg #[.int .i64 x.1, .bool x.2.1, .int .i64 x.2.2.1.g, .int .i64 x.2.2.1.cs, .int .i64 x.2.2.1.v, .bool x.2.2.2.1], .int .i64 x.2.2.2.2]
theorem CE (h : Hp R L M) [o : bO bg b L c L'] (hs : c.Small 1000000000) (k : ∀ M', Hp R (ax bg b c.recv.1 :: L') M' → K (LI c.recv.2) M') :
  aa Tryz.prog 239 #[.pointer (some ⟨b, 0, none⟩)] M K Kp := by
 refine oL ?_
 obtain ⟨room, buf, snd, jd, closed⟩ := c
 obtain ⟨h1, h2, h3⟩ := hs
 have h' := fK h (b := b)
 clear h
 obtain ⟨Ab, cb, As, cs, Ar, cr, h⟩ := h'
 dsimp only [fJ] at h1 h2 h3 h
 refine aj h ?_
 clear h
 intro kr M h
 refine aj h ?_
 clear h
 intro kg M h
 repeat (first|(refine aj h ?_;clear h;intro kb M h)|(refine ak h ?_;clear h;intro M h)|refine St.to h ?_|(apply Exists.intro;(repeat apply Exists.intro);refine And.intro rfl ?_)|refine aq ?_|refine af ?_|refine ai ?_)
 refine ⟨fun vs M => vs = [] ∧ ∃ Ab cb As cs, Hp R (pt kr [.int .i64 0, .bool false, .int .i64 0, .int .i64 0, .int .i64 0, .bool false] 381 ::
  pt kg [.int .i64 0, .bool false, .int .i64 (snd.headD .zero).g, .int .i64 (snd.headD .zero).cs, .int .i64 (snd.headD .zero).v, .bool (!snd.isEmpty)] 381 ::
  pt b (fJ ⟨room, aZ.all ⟨room, buf, snd, jd, closed⟩, snd.tail, jd, closed⟩ Ab cb As cs Ar cr) 305 :: qf Ab cb (aZ.all ⟨room, buf, snd, jd, closed⟩) :: qg As cs snd.tail :: qg Ar cr jd :: L') M, ?_, ?_⟩
 ·refine aH.2 ⟨fun hr => ?_, fun hr => ?_⟩
  ·cases snd with
   | nil => simp at hr
   | cons w r =>
    repeat (first|(refine aj h ?_;clear h;intro kb M h)|(refine ak h ?_;clear h;intro M h)|refine St.to h ?_|(apply Exists.intro;(repeat apply Exists.intro);refine And.intro rfl ?_)|refine aq ?_|refine af ?_|refine ai ?_)
    refine sS h (h.src (A := As)) rfl (h.gT As) (by simpa using h2) ?_
    clear h
    intro A' c' M h
    repeat (first|(refine aj h ?_;clear h;intro kb M h)|(refine ak h ?_;clear h;intro M h)|refine St.to h ?_|(apply Exists.intro;(repeat apply Exists.intro);refine And.intro rfl ?_)|refine aq ?_|refine af ?_|refine ai ?_)
    refine h.bu uR [w.v] rfl rfl (by simp; omega) ?_
    clear h
    intro A2 c2 M h
    repeat (first|(refine aj h ?_;clear h;intro kb M h)|(refine ak h ?_;clear h;intro M h)|refine St.to h ?_|(apply Exists.intro;(repeat apply Exists.intro);refine And.intro rfl ?_)|refine aq ?_|refine af ?_|refine ai ?_)
    exact ⟨A2, c2, A', c', h.sub bG⟩
  ·cases snd with
   | cons w r => simp at hr
   | nil => exact ⟨rfl, Ab, cb, As, cs, h.sub bG⟩
 clear h
 rintro _ M ⟨_, Ab, cb, As, cs, h⟩
 unfold aZ.recv at k
 dsimp only at k
 have gx : (aZ.all ⟨room, buf, snd, jd, closed⟩).length ≤ 1000000001 := by unfold aZ.all; split <;> simp <;> omega
 have JR : aZ.all ⟨room, buf, snd, jd, closed⟩ = [] → snd = [] ∧ buf = [] := by unfold aZ.all; dsimp only; cases snd <;> simp
 generalize aZ.all ⟨room, buf, snd, jd, closed⟩ = all at h k gx JR
 dsimp only [fJ] at h
 repeat (first|(refine aj h ?_;clear h;intro kb M h)|(refine ak h ?_;clear h;intro M h)|refine St.to h ?_|(apply Exists.intro;(repeat apply Exists.intro);refine And.intro rfl ?_)|refine aq ?_|refine af ?_|refine ai ?_)
 refine aH.2 ⟨fun hr => ?_, fun hr => ?_⟩
 ·cases all with
  | nil => simp at hr
  | cons v l =>
   dsimp only at k
   repeat (first|(refine aj h ?_;clear h;intro kb M h)|(refine ak h ?_;clear h;intro M h)|refine St.to h ?_|(apply Exists.intro;(repeat apply Exists.intro);refine And.intro rfl ?_)|refine aq ?_|refine af ?_|refine ai ?_)
   obtain ⟨x, rfl⟩ := h.bj (A := Ab) (by simp) (by decide)
   repeat (first|(refine aj h ?_;clear h;intro kb M h)|(refine ak h ?_;clear h;intro M h)|refine St.to h ?_|(apply Exists.intro;(repeat apply Exists.intro);refine And.intro rfl ?_)|refine aq ?_|refine af ?_|refine ai ?_)
   refine aW ((h.src (A := some ⟨x, 0, none⟩)).at h (i := 0) (j := 0) rfl rfl (by omega)) ?_
   have hcap := h.gT (some ⟨x, 0, none⟩)
   have hlen : l.length + 1 ≤ 1000000001 := by simpa using gx
   repeat (first|(refine aj h ?_;clear h;intro kb M h)|(refine ak h ?_;clear h;intro M h)|refine St.to h ?_|(apply Exists.intro;(repeat apply Exists.intro);refine And.intro rfl ?_)|refine aq ?_|refine af ?_|refine ai ?_)
   simp only [Int.toNat_natCast]
   refine h.jc bq uR l ((h.src (A := some ⟨x, 0, none⟩)).drop (m := 1) hcap) (by simp) (by omega) ?_
   clear h
   intro A' c' M h
   repeat (first|(refine aj h ?_;clear h;intro kb M h)|(refine ak h ?_;clear h;intro M h)|refine St.to h ?_|(apply Exists.intro;(repeat apply Exists.intro);refine And.intro rfl ?_)|refine aq ?_|refine af ?_|refine ai ?_)
   exact k _ (cC h b).bH
 ·cases all with
  | cons v l => simp at hr
  | nil =>
  obtain ⟨rfl, rfl⟩ := JR rfl
  repeat (first|(refine aj h ?_;clear h;intro kb M h)|(refine ak h ?_;clear h;intro M h)|refine St.to h ?_|(apply Exists.intro;(repeat apply Exists.intro);refine And.intro rfl ?_)|refine aq ?_|refine af ?_|refine ai ?_)
  refine eZ.2 ⟨fun hc => ?_, fun hc => ?_⟩
  ·subst hc
   repeat (first|(refine aj h ?_;clear h;intro kb M h)|(refine ak h ?_;clear h;intro M h)|refine St.to h ?_|(apply Exists.intro;(repeat apply Exists.intro);refine And.intro rfl ?_)|refine aq ?_|refine af ?_|refine ai ?_)
   exact k _ (cC h b).bH
  ·subst hc
   repeat (first|(refine aj h ?_;clear h;intro kb M h)|(refine ak h ?_;clear h;intro M h)|refine St.to h ?_|(apply Exists.intro;(repeat apply Exists.intro);refine And.intro rfl ?_)|refine aq ?_|refine af ?_|refine ai ?_)
   exact k _ (cC h b).bH
theorem Au (h : Hp R L M) [o : bO bg b L c L']
  (k : ∀ A ca B cb M', Hp R (ax bg b c.close.1 :: qg B cb c.close.2.2.1 :: qg A ca c.close.2.1 :: L') M' → K (.tuple #[.slice A c.close.2.1.length ca, .slice B c.close.2.2.1.length cb, .int .i64 c.close.2.2.2]) M') :
  aa Tryz.prog 243 #[.pointer (some ⟨b, 0, none⟩)] M K Kp := by
 refine nq ?_
 obtain ⟨room, buf, snd, jd, closed⟩ := c
 have h' := fK h (b := b)
 clear h
 obtain ⟨Ab, cb, As, cs, Ar, cr, h⟩ := h'
 dsimp only [fJ] at h
 repeat (first|(refine aj h ?_;clear h;intro kb M h)|(refine ak h ?_;clear h;intro M h)|refine St.to h ?_|(apply Exists.intro;(repeat apply Exists.intro);refine And.intro rfl ?_)|refine aq ?_|refine af ?_|refine ai ?_)
 refine eZ.2 ⟨fun hc => ?_, fun hc => ?_⟩
 ·subst hc
  have h := cC ((h.ck gq 280).ck gq 280) b
  exact k none 0 none 0 _ h
 ·subst hc
  repeat (first|(refine aj h ?_;clear h;intro kb M h)|(refine ak h ?_;clear h;intro M h)|refine St.to h ?_|(apply Exists.intro;(repeat apply Exists.intro);refine And.intro rfl ?_)|refine aq ?_|refine af ?_|refine ai ?_)
  have h := (h.ck gq 280).ck gq 280
  exact k _ _ _ _ _ ((cC h b).sub bG)
theorem gH {B : Option Addr} {n cc : Nat} {g : Int} {l : List Wt} (h : Hp R L M) (hB : Src R L B (gq.cells l)) (hn : n = l.length) (hs : l.length ≤ 1000000000)
  (k : ∀ A' c' M', Hp R (qg A' c' (wo g l) :: L) M' → K (.slice A' (wo g l).length c') M') :
  aa Tryz.prog 254 #[.slice B n cc, .int .i64 g] M K Kp := by
 subst hn
 refine rV ⟨fun d vs M => ∃ i A c, vs = [.slice A (wo g (l.take i)).length c, .int .i64 (i : Int)] ∧ d = l.length - i ∧ i ≤ l.length ∧ Hp R (qg A c (wo g (l.take i)) :: L) M,
  ⟨_, 0, none, 0, rfl, rfl, by omega, h.ck _ _⟩, ?_⟩
 clear h
 rintro d _ A n c' ii M ⟨i, _, _, he, hd, hi, h⟩
 simp only [List.cons.injEq, Value.slice.injEq, Value.int.injEq, and_true, true_and] at he
 obtain ⟨⟨rfl, rfl, rfl⟩, rfl⟩ := he
 refine aH.2 ⟨fun hlt => ?_, fun hge => ?_⟩
 ·obtain ⟨w, hw⟩ := aL (l := l) (i := i) (by omega)
  obtain ⟨b, o, rfl⟩ := hB.cons.fa h (by omega) (by decide)
  have e1 : IntKind.wrap .i64 ((i : Int) + 1) = ((i + 1 : Nat) : Int) := aV (by omega)
  have hl := Cw g (l.take i)
  have jt := List.length_take_le i l
  rw [e1]
  repeat (first|(refine aj h ?_;clear h;intro kb M h)|(refine ak h ?_;clear h;intro M h)|refine St.to h ?_|(apply Exists.intro;(repeat apply Exists.intro);refine And.intro rfl ?_)|refine aq ?_|refine af ?_|refine ai ?_)
  refine aW (hB.cons.at h (j := 0) hw rfl (by simp [gq])) ?_
  refine aW (hB.cons.at h (j := 1) hw rfl (by simp [gq]; omega)) ?_
  refine aW (hB.cons.at h (j := 2) hw rfl (by simp [gq]; omega)) ?_
  repeat (first|(refine aj h ?_;clear h;intro kb M h)|(refine ak h ?_;clear h;intro M h)|refine St.to h ?_|(apply Exists.intro;(repeat apply Exists.intro);refine And.intro rfl ?_)|refine aq ?_|refine af ?_|refine ai ?_)
  refine bM.2 ⟨fun hne => ?_, fun heq => ?_⟩
  ·have e2 : wo g (l.take (i + 1)) = wo g (l.take i) ++ [w] := by rw [c5 hw, He]; simp [wo, hne]
   repeat (first|(refine aj h ?_;clear h;intro kb M h)|(refine ak h ?_;clear h;intro M h)|refine St.to h ?_|(apply Exists.intro;(repeat apply Exists.intro);refine And.intro rfl ?_)|refine aq ?_|refine af ?_|refine ai ?_)
   refine h.bu ue [w] rfl rfl (by simp; omega) ?_
   clear h
   intro A' c' M h
   repeat (first|(refine aj h ?_;clear h;intro kb M h)|(refine ak h ?_;clear h;intro M h)|refine St.to h ?_|(apply Exists.intro;(repeat apply Exists.intro);refine And.intro rfl ?_)|refine aq ?_|refine af ?_|refine ai ?_)
   exact ⟨l.length - (i + 1), by omega, i + 1, A', c', by rw [e2], rfl, by omega, by rw [e2]; exact h.bH⟩
  ·have e2 : wo g (l.take (i + 1)) = wo g (l.take i) := by rw [c5 hw, He]; simp [wo, heq]
   exact ⟨l.length - (i + 1), by omega, i + 1, A, c', by rw [e2], rfl, by omega, by rw [e2]; exact h.gk⟩
 ·have : i = l.length := by omega
  subst this
  rw [List.take_length] at h ⊢
  exact k _ _ _ h
theorem CF {g : Int} (h : Hp R L M) [o : bO bg b L c L'] (hs : c.Small 1000000000) (k : ∀ M', Hp R (ax bg b (c.drop g) :: L') M' → K (.tuple #[]) M') :
  aa Tryz.prog 253 #[.pointer (some ⟨b, 0, none⟩), .int .i64 g] M K Kp := by
 refine oQ ?_
 have h' := fK h (b := b)
 clear h
 obtain ⟨Ab, cb, As, cs, Ar, cr, h⟩ := h'
 obtain ⟨h1, h2, h3⟩ := hs
 repeat (first|(refine aj h ?_;clear h;intro kb M h)|(refine ak h ?_;clear h;intro M h)|refine St.to h ?_|(apply Exists.intro;(repeat apply Exists.intro);refine And.intro rfl ?_)|refine aq ?_|refine af ?_|refine ai ?_)
 refine ⟨?_, ?_, trivial⟩
 ·refine gH h (h.src (A := As)) rfl h2 ?_
  clear h
  intro A' c' M h
  repeat (first|(refine aj h ?_;clear h;intro kb M h)|(refine ak h ?_;clear h;intro M h)|refine St.to h ?_|(apply Exists.intro;(repeat apply Exists.intro);refine And.intro rfl ?_)|refine aq ?_|refine af ?_|refine ai ?_)
  refine gH h (h.src (A := Ar)) rfl h3 ?_
  clear h
  intro B' d' M h
  repeat (first|(refine aj h ?_;clear h;intro kb M h)|(refine ak h ?_;clear h;intro M h)|refine St.to h ?_|(apply Exists.intro;(repeat apply Exists.intro);refine And.intro rfl ?_)|refine aq ?_|refine af ?_|refine ai ?_)
  exact k _ (cC h b).bH
 ·repeat (first|(refine aj h ?_;clear h;intro kb M h)|(refine ak h ?_;clear h;intro M h)|refine St.to h ?_|(apply Exists.intro;(repeat apply Exists.intro);refine And.intro rfl ?_)|refine aq ?_|refine af ?_|refine ai ?_)
  refine gH h (h.src (A := As)) rfl h2 ?_
  clear h
  intro A' c' M h
  repeat (first|(refine aj h ?_;clear h;intro kb M h)|(refine ak h ?_;clear h;intro M h)|refine St.to h ?_|(apply Exists.intro;(repeat apply Exists.intro);refine And.intro rfl ?_)|refine aq ?_|refine af ?_|refine ai ?_)
  refine gH h (h.src (A := Ar)) rfl h3 ?_
  clear h
  intro B' d' M h
  repeat (first|(refine aj h ?_;clear h;intro kb M h)|(refine ak h ?_;clear h;intro M h)|refine St.to h ?_|(apply Exists.intro;(repeat apply Exists.intro);refine And.intro rfl ?_)|refine aq ?_|refine af ?_|refine ai ?_)
  exact k _ (cC h b).bH
end
end Go.Proofs
namespace Go.AF
theorem kz {α β γ : Type} {f : α → β → γ} : ∀ {l : List α} {m : List β} {i : Nat} {a : α} {b : β}, l[i]? = some a → (List.zipWith f l m).set i (f a b) = List.zipWith f l (m.set i b)
 | [], _, _, _, _, h => by simp at h
 | x :: l, [], i, a, b, h => by simp
 | x :: l, y :: m, 0, a, b, h => by simp at h; subst h; rfl
 | x :: l, y :: m, i + 1, a, b, h => by
  have := kz (f := f) (m := m) (b := b) (show l[i]? = some a from by simpa using h)
  simp [this]
theorem CG {α β γ : Type} {f : α → β → γ} : ∀ {l : List α} {m : List β} {i : Nat} {a : α} {b : β}, l[i]? = some a → m[i]? = some b → (List.zipWith f l m)[i]? = some (f a b)
 | [], _, _, _, _, h, _ => by simp at h
 | x :: l, [], i, a, b, h, g => by simp at g
 | x :: l, y :: m, 0, a, b, h, g => by simp at h g; subst h; subst g; rfl
 | x :: l, y :: m, i + 1, a, b, h, g => by simpa using CG (f := f) (show l[i]? = some a from by simpa using h) (show m[i]? = some b from by simpa using g)
theorem cv.Qz {P : HP} {L : List HP} : ∀ (l : List HP), cv (l ++ P :: L) P (l ++ L)
 | [] => .here
 | Q :: l => .there (cv.Qz l)
section
variable {α : Type} {r : pE α} {R : Mem} {L L' kN : List HP} {M : Mem} {bs : List Nat} {cs : List α} {b i : Nat} {c : α}
def aP (r : pE α) (bs : List Nat) (cs : List α) : HP := sep (List.zipWith (ax r) bs cs)
def jg (r : pE α) (bs : List Nat) (cs : List α) (i : Nat) : HP := sep ((List.zipWith (ax r) bs cs).eraseIdx i)
class dW (r : pE α) (L : List HP) (bs : outParam (List Nat)) (cs : outParam (List α)) (L' : outParam (List HP)) : Prop where
 pick : cv L (aP r bs cs) L'
instance dW.here : dW r (aP r bs cs :: L) bs cs L := ⟨.here⟩
instance (priority := low) dW.there {P : HP} [h : dW r L bs cs L'] : dW r (P :: L) bs cs (P :: L') := ⟨.there h.pick⟩
class sU (r : pE α) (L : List HP) (bs : outParam (List Nat)) (cs : outParam (List α)) (i : outParam Nat) (L' : outParam (List HP)) : Prop where
 pick : cv L (jg r bs cs i) L'
instance sU.here : sU r (jg r bs cs i :: L) bs cs i L := ⟨.here⟩
instance (priority := low) sU.there {P : HP} [h : sU r L bs cs i L'] : sU r (P :: L) bs cs i (P :: L') := ⟨.there h.pick⟩
theorem Hp.kA (h : Hp R L M) (r : pE α) {bs : List Nat} {cs : List α} [o : dW r L bs cs L'] : Hp R (aP r bs cs :: L') M := h.pick o.pick
theorem Hp.qh (h : Hp R L M) (r : pE α) : Hp R (aP r [] [] :: L) M := Hp.aO.2 h
theorem Hp.cw (h : Hp R L M) (r : pE α) {bs : List Nat} {cs : List α} [o : dW r L bs cs L'] (hb : bs[i]? = some b) (hc : cs[i]? = some c) : Hp R (ax r b c :: jg r bs cs i :: L') M :=
 (h.pick o.pick).focus (CG hb hc)
theorem Hp.cQ (h : Hp R L M) (r : pE α) (b : Nat) {bs : List Nat} {cs : List α} {i : Nat} {c : α} [o : bO r b L c L'] [x : sU r L' bs cs i kN] (hb : bs[i]? = some b) (hc : i < cs.length) : Hp R (aP r bs (cs.set i c) :: kN) M := by
 have h1 : Hp R (ax r b c :: jg r bs cs i :: kN) M := (h.pick o.pick).map fun _ hs => hs.tail (fun _ => bF.pick x.pick)
 have h2 := Hp.JY (ls := List.zipWith (ax r) bs cs) h1 (by rw [List.length_zipWith]; have := (List.getElem?_eq_some_iff.1 hb).1; omega)
 rw [kz hb] at h2
 exact h2
theorem Hp.rX (h : Hp R L M) (r : pE α) (b : Nat) {bs : List Nat} {cs : List α} {i : Nat} {c : α} [o : bO r b L c L'] [x : sU r L' bs cs i kN] (hb : bs[i]? = some b) (hc : cs[i]? = some c) : Hp R (aP r bs cs :: kN) M := by
 have := h.cQ r b hb (List.getElem?_eq_some_iff.1 hc).1
 obtain ⟨hi, rfl⟩ := List.getElem?_eq_some_iff.1 hc
 rwa [List.set_getElem_self] at this
theorem Hp.ik (h : Hp R L M) (r : pE α) (b : Nat) {bs : List Nat} {cs : List α} {c : α} [o : bO r b L c L'] [x : dW r L' bs cs kN] (hl : bs.length = cs.length) : Hp R (aP r (bs ++ [b]) (cs ++ [c]) :: kN) M := by
 have h1 : Hp R (ax r b c :: aP r bs cs :: kN) M := (h.pick o.pick).map fun _ hs => hs.tail (fun _ => bF.pick x.pick)
 refine Hp.aO.2 ?_
 rw [List.zipWith_append hl, List.append_assoc]
 refine Hp.j9 (P := ax r b c) ?_ (cv.Qz _)
 exact h1.map fun _ hs => hs.tail fun _ hb => bF.aO.1 hb
end
end Go.AF
namespace Go.Proofs
open Go.AF
set_option maxRecDepth 100000
variable {M : Mem} {K : Value → Mem → Prop} {Kp : List PanicEntry → Mem → Prop}
theorem rY {B0 : Option Addr} {m0 c0 : Nat} {B1 : Option Addr} {m1 c1 : Nat} (h :
∃ I1 : IT, (∃ k2, I1 k2 [(.slice none 0 0), (iV 0)] M) ∧
∀ (k3 : Nat) (_ : Nat → Value) (A5 : Option Addr) (k6 : Nat) (k7 : Nat) (n8 : Int) (M9 : Mem), (I1 k3 [(.slice A5 k6 k7), (iV n8)] M9) → aK (decide (n8 < m0))
 ((0 ≤ n8) ∧
 (n8 < m0) ∧
 az B0 fun cX cN =>
 lY M9 cX (cN + ((Int.toNat n8) * 3)) fun ek gG ot =>
 aX M9 mY fun eV dG =>
 G6 dG eV (iV ek) (iV gG) (iV ot) fun jA =>
 lY jA eV 0 fun eP jY kT =>
 aa Tryz.prog 234 #[(.agg #[(iV eP), (iV jY), (iV kT)]), (.slice B1 m1 c1)] jA (fun QA iH =>
 cY (some QA) fun t25 =>
 aK t25
 (aX iH (cl [(iV n8)] 3) fun oN ou =>
 aA 36 A5 k6 k7 (some ⟨oN, 0, none⟩) 1 1 ou (fun J7 iR =>
 ay (some J7) fun QB nt l8 =>
 ∃ kX : Nat, (kX < k3) ∧
 I1 kX [(.slice QB nt l8), (iV (IntKind.wrap .i64 (n8 + 1)))] iR) Kp)
 (∃ sR : Nat, (sR < k3) ∧
 I1 sR [(.slice A5 k6 k7), (iV (IntKind.wrap .i64 (n8 + 1)))] iH)) Kp)
 (K (.slice A5 k6 k7) M9)) :
 aa Tryz.prog 205 #[.slice B0 m0 c0, .slice B1 m1 c1] M K Kp := vw [(2000000, .loop [(5, .c .sl), (10, .c (.int .i64))])] Tryz.func205 h
theorem wR {B0 : Option Addr} {m0 c0 : Nat} (h :
∃ I1 : IT, (∃ k2, I1 k2 [(iV 0)] M) ∧
∀ (k3 : Nat) (_ : Nat → Value) (n5 : Int) (M6 : Mem), (I1 k3 [(iV n5)] M6) → aK (decide (n5 < m0))
 ((0 ≤ n5) ∧
 (n5 < m0) ∧
 az B0 fun k7 k8 =>
 lY M6 k7 (k8 + ((Int.toNat n5) * 3)) fun n9 gA fA =>
 aX M6 mY fun di jB =>
 G6 jB di (iV n9) (iV gA) (iV fA) fun dG =>
 rI dG di 0 fun fB =>
 aK (fB == 2)
 (K (.tuple #[(iV n5), (.bool true)]) dG)
 (∃ dK : Nat, (dK < k3) ∧
 I1 dK [(iV (IntKind.wrap .i64 (n5 + 1)))] dG))
 (K (.tuple #[(iV 0), (.bool false)]) M6)) :
 aa Tryz.prog 206 #[.slice B0 m0 c0] M K Kp := vw [(2000000, .loop [(8, .c (.int .i64))])] Tryz.func206 h
theorem wS {x0 : Int} {B1 : Option Addr} {m1 c1 : Nat} {B2 : Option Addr} {m2 c2 : Nat} {B3 : Option Addr} {m3 c3 : Nat} (h :
∃ I1 : IT, (∃ k2, I1 k2 [(iV 0)] M) ∧
∀ (k3 : Nat) (_ : Nat → Value) (n5 : Int) (M6 : Mem), (I1 k3 [(iV n5)] M6) → aK (decide (n5 < m1))
 ((0 ≤ n5) ∧
 (n5 < m1) ∧
 az B1 fun k7 k8 =>
 lY M6 k7 (k8 + ((Int.toNat n5) * 3)) fun n9 gA fA =>
 aX M6 mY fun di jB =>
 G6 jB di (iV n9) (iV gA) (iV fA) fun dG =>
 rI dG di 0 fun fB =>
 aK (fB == 0)
 (rI dG di 1 fun fy =>
 (0 ≤ fy) ∧
 (fy < m3) ∧
 az B3 fun gN iT =>
 rP dG gN (iT + (Int.toNat fy)) fun wT =>
 aa Tryz.prog 235 #[(.pointer wT), (.agg #[(iV x0), (iV n5), (iV 0)])] dG (fun E6 jZ =>
 (E6 = (.tuple #[])) ∧
 ∃ kU : Nat, (kU < k3) ∧
 I1 kU [(iV (IntKind.wrap .i64 (n5 + 1)))] jZ) Kp)
 (aK (fB == 1)
 (rI dG di 1 fun m7 =>
 (0 ≤ m7) ∧
 (m7 < m3) ∧
 az B3 fun oN qd =>
 rP dG oN (qd + (Int.toNat m7)) fun J6 =>
 rI dG di 2 fun tE =>
 (0 ≤ tE) ∧
 (tE < m2) ∧
 az B2 fun jL nt =>
 rI dG jL (nt + (Int.toNat tE)) fun n32 =>
 aa Tryz.prog 236 #[(.pointer J6), (.agg #[(iV x0), (iV n5), (iV n32)])] dG (fun v33 kQ =>
 (v33 = (.tuple #[])) ∧
 ∃ pH : Nat, (pH < k3) ∧
 I1 pH [(iV (IntKind.wrap .i64 (n5 + 1)))] kQ) Kp)
 (∃ wC : Nat, (wC < k3) ∧
 I1 wC [(iV (IntKind.wrap .i64 (n5 + 1)))] dG)))
 (K (.tuple #[]) M6)) :
 aa Tryz.prog 207 #[.int .i64 x0, .slice B1 m1 c1, .slice B2 m2 c2, .slice B3 m3 c3] M K Kp := vw [(2000000, .loop [(12, .c (.int .i64))]), (7, .bL [0, 0, 2, 7, 15, 0, 0, 0, 0, 256, 896, 1920, 4064, 8191] (sy [0, 1, 5, 6, 7, 8, 2, 3, 4, 9, 10, 11, 12, 13] .done))] Tryz.func207 h
theorem qi {jM : Int} {jN : Int} {eR : Int} {B1 : Option Addr} {m1 c1 : Nat} (h :
aX M (cl [(iV jM), (iV jN), (iV eR)] 165) fun k1 M2 =>
rI M2 k1 0 fun n3 =>
aK (n3 == 0)
 (rI M2 k1 1 fun n4 =>
 (0 ≤ n4) ∧
 (n4 < m1) ∧
 az B1 fun k5 k6 =>
 rP M2 k5 (k6 + (Int.toNat n4)) fun A7 =>
 aa Tryz.prog 248 #[(.pointer A7)] M2 (fun v8 M9 =>
 cY (some v8) fun t10 =>
 K (.bool t10) M9) Kp)
 (aK (n3 == 1)
 (rI M2 k1 1 fun fA =>
 (0 ≤ fA) ∧
 (fA < m1) ∧
 az B1 fun di cI =>
 rP M2 di (cI + (Int.toNat fA)) fun gz =>
 aa Tryz.prog 249 #[(.pointer gz)] M2 (fun E7 dG =>
 cY (some E7) fun t17 =>
 K (.bool t17) dG) Kp)
 (K (.bool false) M2))) :
 aa Tryz.prog 234 #[.agg #[.int .i64 jM, .int .i64 jN, .int .i64 eR], .slice B1 m1 c1] M K Kp := vw [] Tryz.func234 h
theorem uS {x0 : Int} {B1 : Option Addr} {m1 c1 : Nat} (h :
∃ I1 : IT, (∃ k2, I1 k2 [(iV 0)] M) ∧
∀ (k3 : Nat) (_ : Nat → Value) (n5 : Int) (M6 : Mem), (I1 k3 [(iV n5)] M6) → aK (decide (n5 < m1))
 ((0 ≤ n5) ∧
 (n5 < m1) ∧
 az B1 fun k7 k8 =>
 rP M6 k7 (k8 + (Int.toNat n5)) fun A9 =>
 aa Tryz.prog 253 #[(.pointer A9), (iV x0)] M6 (fun v10 iW =>
 (v10 = (.tuple #[])) ∧
 ∃ di : Nat, (di < k3) ∧
 I1 di [(iV (IntKind.wrap .i64 (n5 + 1)))] iW) Kp)
 (K (.tuple #[]) M6)) :
 aa Tryz.prog 252 #[.int .i64 x0, .slice B1 m1 c1] M K Kp := vw [(2000000, .loop [(8, .c (.int .i64))])] Tryz.func252 h
end Go.Proofs
namespace Go.Proofs
open Go.AF
set_option maxRecDepth 100000
set_option maxHeartbeats 1000000
attribute [local irreducible] aE cY gh cz ay fL az aF aX bh bJ aK
structure pI where
 way : Int
 ch : Int
 bL : Int
 deriving DecidableEq
def uT : gi pI := ⟨3, fun w => [.int .i64 w.way, .int .i64 w.ch, .int .i64 w.bL], fun _ => rfl, fun w v hv => by
 simp only [List.mem_cons, List.not_mem_nil, or_false] at hv; obtain rfl | rfl | rfl := hv <;> rfl⟩
def pI.Ok (n : Nat) (c : pI) : Prop := 0 ≤ c.way ∧ c.way ≤ 2 ∧ (c.way ≠ 2 → 0 ≤ c.ch ∧ c.ch < n ∧ 0 ≤ c.bL ∧ c.bL < 8)
instance (n : Nat) (c : pI) : Decidable (c.Ok n) := by unfold pI.Ok; infer_instance
def dL (cs : List aZ) (k : Int) : aZ := cs.getD k.toNat ⟨0, [], [], [], false⟩
def can (cs : List aZ) (c : pI) : Bool := if c.way = 0 then (dL cs c.ch).pY else if c.way = 1 then (dL cs c.ch).pX else false
def LJ (cases : List pI) (cs : List aZ) (j : Nat) : Bool := match cases[j]? with
 | some c => can cs c
 | none => false
def Av (cases : List pI) (cs : List aZ) (i : Nat) : List Int := ((List.range i).filter (LJ cases cs)).map Int.ofNat
def enabled (cases : List pI) (cs : List aZ) : List Int := Av cases cs cases.length
theorem Hy (cases : List pI) (cs : List aZ) (i : Nat) : (Av cases cs i).length ≤ i := by
 unfold Av; rw [List.length_map]; exact Nat.le_trans (List.length_filter_le ..) (by simp)
theorem xR {cases : List pI} {cs : List aZ} {i : Nat} {c : pI} (h : cases[i]? = some c) : Av cases cs (i + 1) = Av cases cs i ++ (if can cs c then [(i : Int)] else []) := by
 unfold Av
 rw [List.range_succ, List.filter_append, List.map_append]
 simp only [List.filter_cons, LJ, h, List.filter_nil]
 split <;> simp_all
def els (cases : List pI) : Option Nat := cases.findIdx? (fun c => c.way == 2)
def jh (g : Int) (fM : List Int) (i : Nat) (c : pI) (cs : List aZ) : List aZ :=
 if c.way = 0 then cs.set c.ch.toNat { dL cs c.ch with jd := (dL cs c.ch).jd ++ [⟨g, i, 0⟩] }
 else if c.way = 1 then cs.set c.ch.toNat { dL cs c.ch with snd := (dL cs c.ch).snd ++ [⟨g, i, fM.getD c.bL.toNat 0⟩] } else cs
def dX (g : Int) (fM : List Int) (cases : List pI) (cs : List aZ) : Nat → List aZ
 | 0 => cs
 | i + 1 => match cases[i]? with
  | some c => jh g fM i c (dX g fM cases cs i)
  | none => dX g fM cases cs i
theorem Aw (g : Int) (fM : List Int) (i : Nat) (c : pI) (cs : List aZ) : (jh g fM i c cs).length = cs.length := by
 unfold jh; split
 ·simp
 ·split <;> simp
theorem iI (g : Int) (fM : List Int) (cases : List pI) (cs : List aZ) : ∀ i, (dX g fM cases cs i).length = cs.length
 | 0 => rfl
 | i + 1 => by
  unfold dX; split
  ·rw [Aw, iI _ _ _ _ i]
  ·exact iI _ _ _ _ i
theorem mem_set {α : Type} {l : List α} {i : Nat} {x y : α} (h : y ∈ l.set i x) : y ∈ l ∨ y = x := by
 rcases List.mem_or_eq_of_mem_set h with h | h
 ·exact .inl h
 ·exact .inr h
theorem qj {cs : List aZ} {k : Int} (h0 : 0 ≤ k) (h : k < cs.length) : dL cs k ∈ cs := by
 unfold dL; rw [List.getD_eq_getElem?_getD, List.getElem?_eq_getElem (by omega)]; exact List.getElem_mem _
theorem wU {g : Int} {fM : List Int} {i : Nat} {c : pI} {cs : List aZ} {N : Nat} (hs : ∀ x ∈ cs, x.Small N) (hc : c.Ok cs.length) : ∀ x ∈ jh g fM i c cs, x.Small (N + 1) := by
 obtain ⟨_, _, kk⟩ := hc
 intro x hm
 unfold jh at hm
 split at hm
 ·rename_i hw
  have hx := hs _ (qj (kk (by omega)).1 (kk (by omega)).2.1)
  rcases mem_set hm with h | rfl
  ·exact (hs x h).mono (by omega)
  ·exact hx.wr _
 split at hm
 ·rename_i hw
  have hx := hs _ (qj (kk (by omega)).1 (kk (by omega)).2.1)
  rcases mem_set hm with h | rfl
  ·exact (hs x h).mono (by omega)
  ·exact hx.ws _
 ·exact (hs x hm).mono (by omega)
theorem kB {g : Int} {fM : List Int} {cases : List pI} {cs : List aZ} {N : Nat} (hs : ∀ x ∈ cs, x.Small N) (hok : ∀ c ∈ cases, c.Ok cs.length) : ∀ i, ∀ x ∈ dX g fM cases cs i, x.Small (N + i)
 | 0 => hs
 | i + 1 => by
  unfold dX; split
  ·rename_i c hc
   exact wU (kB hs hok i) (by rw [iI]; exact hok c (List.mem_of_getElem? hc))
  ·exact fun x hx => (kB hs hok i x hx).mono (by omega)
section
variable {R : Mem} {L L' : List HP} {M : Mem} {K : Value → Mem → Prop} {Kp : List PanicEntry → Mem → Prop} {bs : List Nat} {cs : List aZ}
theorem yW : bn Tryz.prog 36 3 1 8 [.int .i64 0] := bn.mk' (zv := .int .i64 0) (by kernel_rfl) (by kernel_rfl) rfl (by omega)
theorem Hz {cases : List pI} {i : Nat} {c : pI} (hc : cases[i]? = some c) (hw : c.way = 2) (hp : ∀ j c, j < i → cases[j]? = some c → c.way ≠ 2) : els cases = some i := by
 obtain ⟨hi, e⟩ := List.getElem?_eq_some_iff.1 hc
 refine List.findIdx?_eq_some_iff_getElem.2 ⟨hi, by rw [e]; simpa using hw, fun j hj => ?_⟩
 have := hp j _ hj (List.getElem?_eq_getElem (by omega))
 simpa using this
theorem HA {cases : List pI} (hp : ∀ j c, j < cases.length → cases[j]? = some c → c.way ≠ 2) : els cases = none := by
 refine List.findIdx?_eq_none_iff.2 fun c hc => ?_
 obtain ⟨j, hj, e⟩ := List.getElem_of_mem hc
 have := hp j c hj (by rw [← e]; exact List.getElem?_eq_getElem hj)
 simpa using this
theorem CH {B : Option Addr} {m cc : Nat} {cases : List pI} (h : Hp R L M) (hB : Src R L B (uT.cells cases)) (hm : m = cases.length) (hb : cases.length ≤ 1000000000)
  (k : ∀ M', Hp R L M' → K (.tuple #[.int .i64 (match els cases with | some i => (i : Int) | none => 0), .bool (els cases).isSome]) M') :
  aa Tryz.prog 206 #[.slice B m cc] M K Kp := by
 subst hm
 refine wR ⟨fun d ws M => ∃ i : Nat, ws = [.int .i64 (i : Int)] ∧ d = cases.length - i ∧ i ≤ cases.length ∧ (∀ j c, j < i → cases[j]? = some c → c.way ≠ 2) ∧ Hp R L M, ⟨_, 0, rfl, rfl, by omega, fun j c hj => by omega, h⟩, ?_⟩
 clear h
 rintro d _ ii M ⟨i, he, hd, hi, hp, h⟩
 simp only [List.cons.injEq, Value.int.injEq, and_true, true_and] at he
 subst he
 refine aH.2 ⟨fun hlt => ?_, fun hge => ?_⟩
 ·obtain ⟨c, hc⟩ := aL (l := cases) (i := i) (by omega)
  obtain ⟨b, o, rfl⟩ := hB.fa h (by omega) (by decide)
  repeat (first|(refine aj h ?_;clear h;intro kb M h)|(refine ak h ?_;clear h;intro M h)|refine St.to h ?_|(apply Exists.intro;(repeat apply Exists.intro);refine And.intro rfl ?_)|refine aq ?_|refine af ?_|refine ai ?_)
  simp only [Int.toNat_natCast]
  refine aW (hB.at h (i := i) (j := 0) hc rfl rfl) ?_
  refine aW (hB.at h (i := i) (j := 1) hc rfl rfl) ?_
  refine aW (hB.at h (i := i) (j := 2) hc rfl rfl) ?_
  repeat (first|(refine aj h ?_;clear h;intro kb M h)|(refine ak h ?_;clear h;intro M h)|refine St.to h ?_|(apply Exists.intro;(repeat apply Exists.intro);refine And.intro rfl ?_)|refine aq ?_|refine af ?_|refine ai ?_)
  refine bB.2 ⟨fun e => ?_, fun e => ?_⟩
  ·have := Hz hc e hp
   rw [this] at k
   exact k _ h.gk
  ·rw [aV (by omega)]
   refine ⟨cases.length - (i + 1), by omega, i + 1, rfl, rfl, by omega, fun j c' hj BV => ?_, h.gk⟩
   rcases Nat.lt_or_ge j i with gR | gR
   ·exact hp j c' gR BV
   ·obtain rfl : j = i := by omega
    rw [hc] at BV; cases BV; exact e
 ·obtain rfl : i = cases.length := by omega
  rw [HA hp] at k
  exact k _ h
theorem E8 {c : pI} {B : Option Addr} {m cc : Nat} (h : Hp R L M) [o : dW bg L bs cs L'] (hB : Src R L' B (js.cells bs)) (hm : m = bs.length) (hl : bs.length = cs.length) (hc : c.way ≠ 2 → 0 ≤ c.ch ∧ c.ch < cs.length) (hw2 : 0 ≤ c.way ∧ c.way ≤ 2)
  (k : ∀ M', Hp R (aP bg bs cs :: L') M' → K (.bool (can cs c)) M') : aa Tryz.prog 234 #[.agg #[.int .i64 c.way, .int .i64 c.ch, .int .i64 c.bL], .slice B m cc] M K Kp := by
 subst hm
 replace h := h.kA bg
 obtain ⟨way, ch, bL⟩ := c
 dsimp only at *
 by_cases Sw : way = 2
 ·subst Sw
  refine qi ?_
  repeat (first|(refine aj h ?_;clear h;intro kb M h)|(refine ak h ?_;clear h;intro M h)|refine St.to h ?_|(apply Exists.intro;(repeat apply Exists.intro);refine And.intro rfl ?_)|refine aq ?_|refine af ?_|refine ai ?_)
  exact k _ h.gk
 replace hc := hc Sw
 obtain ⟨q, rfl⟩ := Int.eq_ofNat_of_zero_le hc.1
 obtain ⟨x, hx⟩ := aL (l := cs) (i := q) (by omega)
 obtain ⟨b, hb⟩ := aL (l := bs) (i := q) (by omega)
 have TZ : dL cs (q : Int) = x := by simp [dL, hx]
 obtain ⟨b0, o0, rfl⟩ := hB.cons.fa h (by omega) (by decide)
 simp only [can, TZ] at k
 refine qi ?_
 repeat (first|(refine aj h ?_;clear h;intro kb M h)|(refine ak h ?_;clear h;intro M h)|refine St.to h ?_|(apply Exists.intro;(repeat apply Exists.intro);refine And.intro rfl ?_)|refine aq ?_|refine af ?_|refine ai ?_)
 refine bB.2 ⟨fun e => ?_, fun e => ?_⟩
 ·rw [if_pos e] at k
  repeat (first|(refine aj h ?_;clear h;intro kb M h)|(refine ak h ?_;clear h;intro M h)|refine St.to h ?_|(apply Exists.intro;(repeat apply Exists.intro);refine And.intro rfl ?_)|refine aq ?_|refine af ?_|refine ai ?_)
  refine jK (hB.cons.cons.at h (i := q) (j := 0) hb rfl (by simp [js])) ?_
  replace h := h.cw bg hb hx
  refine wQ h ?_
  repeat (first|(refine aj h ?_;clear h;intro kb M h)|(refine ak h ?_;clear h;intro M h)|refine St.to h ?_|(apply Exists.intro;(repeat apply Exists.intro);refine And.intro rfl ?_)|refine aq ?_|refine af ?_|refine ai ?_)
  exact k _ (h.rX bg b hb hx).bH
 rw [if_neg e] at k
 refine bB.2 ⟨fun e => ?_, fun e => ?_⟩
 ·rw [if_pos e] at k
  repeat (first|(refine aj h ?_;clear h;intro kb M h)|(refine ak h ?_;clear h;intro M h)|refine St.to h ?_|(apply Exists.intro;(repeat apply Exists.intro);refine And.intro rfl ?_)|refine aq ?_|refine af ?_|refine ai ?_)
  refine jK (hB.cons.cons.at h (i := q) (j := 0) hb rfl (by simp [js])) ?_
  replace h := h.cw bg hb hx
  refine wP h ?_
  repeat (first|(refine aj h ?_;clear h;intro kb M h)|(refine ak h ?_;clear h;intro M h)|refine St.to h ?_|(apply Exists.intro;(repeat apply Exists.intro);refine And.intro rfl ?_)|refine aq ?_|refine af ?_|refine ai ?_)
  exact k _ (h.rX bg b hb hx).bH
 ·rw [if_neg e] at k
  exact k _ h.gk
theorem wV {B A : Option Addr} {m cc n ca : Nat} {cases : List pI} (h : Hp R L M) [o : dW bg L bs cs L'] (hB : Src R L' B (uT.cells cases)) (hA : Src R L' A (js.cells bs)) (hm : m = cases.length) (hn : n = bs.length)
  (hb : cases.length ≤ 1000000000) (hl : bs.length = cs.length) (hok : ∀ c ∈ cases, c.Ok cs.length)
  (k : ∀ A' c' M', Hp R (b8 bq 3 A' c' (enabled cases cs) :: aP bg bs cs :: L') M' → K (.slice A' (enabled cases cs).length c') M') :
  aa Tryz.prog 205 #[.slice B m cc, .slice A n ca] M K Kp := by
 subst hm
 replace h := h.kA bg
 refine rY ⟨fun d ws M => ∃ (i : Nat) (X : Option Addr) (cx : Nat), ws = [.slice X (Av cases cs i).length cx, .int .i64 (i : Int)] ∧ d = cases.length - i ∧ i ≤ cases.length ∧ Hp R (b8 bq 3 X cx (Av cases cs i) :: aP bg bs cs :: L') M, ⟨_, 0, none, 0, rfl, rfl, by omega, h.ck bq _⟩, ?_⟩
 clear h
 rintro d _ X n1 cx ii M ⟨i, _, _, he, hd, hi, h⟩
 simp only [List.cons.injEq, Value.int.injEq, Value.slice.injEq, and_true, true_and] at he
 obtain ⟨⟨rfl, rfl, rfl⟩, rfl⟩ := he
 refine aH.2 ⟨fun hlt => ?_, fun hge => ?_⟩
 ·obtain ⟨c, hc⟩ := aL (l := cases) (i := i) (by omega)
  obtain ⟨b, o, rfl⟩ := hB.cons.cons.fa h (by omega) (by decide)
  repeat (first|(refine aj h ?_;clear h;intro kb M h)|(refine ak h ?_;clear h;intro M h)|refine St.to h ?_|(apply Exists.intro;(repeat apply Exists.intro);refine And.intro rfl ?_)|refine aq ?_|refine af ?_|refine ai ?_)
  simp only [Int.toNat_natCast]
  refine aW (hB.cons.cons.at h (i := i) (j := 0) hc rfl rfl) ?_
  refine aW (hB.cons.cons.at h (i := i) (j := 1) hc rfl rfl) ?_
  refine aW (hB.cons.cons.at h (i := i) (j := 2) hc rfl rfl) ?_
  repeat (first|(refine aj h ?_;clear h;intro kb M h)|(refine ak h ?_;clear h;intro M h)|refine St.to h ?_|(apply Exists.intro;(repeat apply Exists.intro);refine And.intro rfl ?_)|refine aq ?_|refine af ?_|refine ai ?_)
  have hco := hok c (List.mem_of_getElem? hc)
  obtain ⟨w1, w2, k1⟩ := hco
  refine E8 (c := c) h hA.cons.cons hn hl (fun e => ⟨(k1 e).1, (k1 e).2.1⟩) ⟨w1, w2⟩ ?_
  clear h
  intro M h
  repeat (first|(refine aj h ?_;clear h;intro kb M h)|(refine ak h ?_;clear h;intro M h)|refine St.to h ?_|(apply Exists.intro;(repeat apply Exists.intro);refine And.intro rfl ?_)|refine aq ?_|refine af ?_|refine ai ?_)
  have hlen := Hy cases cs i
  refine eZ.2 ⟨fun hb => ?_, fun hb => ?_⟩
  ·have e := xR (cs := cs) hc
   rw [if_pos hb] at e
   repeat (first|(refine aj h ?_;clear h;intro kb M h)|(refine ak h ?_;clear h;intro M h)|refine St.to h ?_|(apply Exists.intro;(repeat apply Exists.intro);refine And.intro rfl ?_)|refine aq ?_|refine af ?_|refine ai ?_)
   refine h.bu yW [(i : Int)] rfl rfl (by simp; omega) ?_
   clear h
   intro A' c' M h
   repeat (first|(refine aj h ?_;clear h;intro kb M h)|(refine ak h ?_;clear h;intro M h)|refine St.to h ?_|(apply Exists.intro;(repeat apply Exists.intro);refine And.intro rfl ?_)|refine aq ?_|refine af ?_|refine ai ?_)
   rw [aV (by omega)]
   rw [← e] at h
   refine ⟨cases.length - (i + 1), by omega, i + 1, A', c', ?_, rfl, by omega, h.bH⟩
   rw [e]
  ·have e := xR (cs := cs) hc
   rw [if_neg (by simp [hb]), List.append_nil] at e
   rw [aV (by omega)]
   refine ⟨cases.length - (i + 1), by omega, i + 1, X, cx, by rw [e], rfl, by omega, ?_⟩
   rw [e]; exact h.sub bG
 ·obtain rfl : i = cases.length := by omega
  exact k _ _ _ h
theorem Ax {g : Int} {A : Option Addr} {n ca : Nat} (h : Hp R L M) [o : dW bg L bs cs L'] (hA : Src R L' A (js.cells bs)) (hn : n = bs.length) (hb : bs.length ≤ 1000000000) (hl : bs.length = cs.length) (hs : ∀ c ∈ cs, c.Small 1000000000)
  (k : ∀ M', Hp R (aP bg bs (cs.map (·.drop g)) :: L') M' → K (.tuple #[]) M') :
  aa Tryz.prog 252 #[.int .i64 g, .slice A n ca] M K Kp := by
 subst hn
 replace h := h.kA bg
 refine uS ⟨fun d ws M => ∃ (i : Nat), ws = [.int .i64 (i : Int)] ∧ d = bs.length - i ∧ i ≤ bs.length ∧ Hp R (aP bg bs ((cs.take i).map (·.drop g) ++ cs.drop i) :: L') M, ⟨_, 0, rfl, rfl, by omega, h⟩, ?_⟩
 clear h
 rintro d _ ii M ⟨i, he, hd, hi, h⟩
 simp only [List.cons.injEq, Value.int.injEq, and_true, true_and] at he
 subst he
 refine aH.2 ⟨fun hlt => ?_, fun hge => ?_⟩
 ·obtain ⟨c, hc⟩ := aL (l := cs) (i := i) (by omega)
  obtain ⟨b, wv⟩ := aL (l := bs) (i := i) (by omega)
  obtain ⟨b0, o0, rfl⟩ := hA.cons.fa h (by omega) (by decide)
  have LK : ((cs.take i).map (·.drop g) ++ cs.drop i)[i]? = some c := by
   rw [List.getElem?_append_right (by simp; omega)]; simp [List.length_take, Nat.min_eq_left (show i ≤ cs.length by omega), hc]
  repeat (first|(refine aj h ?_;clear h;intro kb M h)|(refine ak h ?_;clear h;intro M h)|refine St.to h ?_|(apply Exists.intro;(repeat apply Exists.intro);refine And.intro rfl ?_)|refine aq ?_|refine af ?_|refine ai ?_)
  refine jK (hA.cons.at h (i := i) (j := 0) wv rfl (by simp [js])) ?_
  replace h := h.cw bg wv LK
  refine CF h (hs c (List.mem_of_getElem? hc)) ?_
  clear h
  intro M h
  repeat (first|(refine aj h ?_;clear h;intro kb M h)|(refine ak h ?_;clear h;intro M h)|refine St.to h ?_|(apply Exists.intro;(repeat apply Exists.intro);refine And.intro rfl ?_)|refine aq ?_|refine af ?_|refine ai ?_)
  rw [aV (by omega)]
  refine ⟨bs.length - (i + 1), by omega, i + 1, rfl, rfl, by omega, ?_⟩
  have := (h.cQ bg b wv (by simp; omega)).bH (T := L')
  rw [List.set_append_right _ _ (by simp; omega)] at this
  rw [c5 hc, List.map_append, List.append_assoc]
  have e : (cs.drop i).set (i - ((cs.take i).map (·.drop g)).length) (c.drop g) = [c.drop g] ++ cs.drop (i + 1) := by
   rw [show i - ((cs.take i).map (·.drop g)).length = 0 from by simp; omega]
   obtain ⟨hi', e'⟩ := List.getElem?_eq_some_iff.1 hc
   rw [List.drop_eq_getElem_cons hi']; rfl
  rw [e] at this
  exact this
 ·obtain rfl : i = bs.length := by omega
  rw [hl, List.take_length, List.drop_length, List.append_nil] at h
  exact k _ h
theorem CI {g : Int} {B A D : Option Addr} {m cc n ca r cr : Nat} {cases : List pI} {fM : List Int} (h : Hp R L M) [o : dW bg L bs cs L'] (hB : Src R L' B (uT.cells cases)) (hA : Src R L' A (js.cells bs)) (hD : Src R L' D (bq.cells fM))
  (hm : m = cases.length) (hn : n = bs.length) (hr : r = 8) (hr8 : fM.length = 8) (hb : cases.length ≤ 1000000) (hl : bs.length = cs.length) (hok : ∀ c ∈ cases, c.Ok cs.length) (hs : ∀ c ∈ cs, c.Small 1000000)
  (k : ∀ M', Hp R (aP bg bs (dX g fM cases cs cases.length) :: L') M' → K (.tuple #[]) M') :
  aa Tryz.prog 207 #[.int .i64 g, .slice B m cc, .slice D r cr, .slice A n ca] M K Kp := by
 subst hm
 subst hn
 subst hr
 replace h := h.kA bg
 refine wS ⟨fun d ws M => ∃ (i : Nat), ws = [.int .i64 (i : Int)] ∧ d = cases.length - i ∧ i ≤ cases.length ∧ Hp R (aP bg bs (dX g fM cases cs i) :: L') M, ⟨_, 0, rfl, rfl, by omega, h⟩, ?_⟩
 clear h
 rintro d _ ii M ⟨i, he, hd, hi, h⟩
 simp only [List.cons.injEq, Value.int.injEq, and_true, true_and] at he
 subst he
 refine aH.2 ⟨fun hlt => ?_, fun hge => ?_⟩
 ·obtain ⟨c, hc⟩ := aL (l := cases) (i := i) (by omega)
  obtain ⟨w1, w2, kk⟩ := hok c (List.mem_of_getElem? hc)
  obtain ⟨b, o, rfl⟩ := hB.cons.fa h (by omega) (by decide)
  by_cases Sw : c.way = 2
  ·have e : dX g fM cases cs (i + 1) = dX g fM cases cs i := by
    rw [dX, hc]; dsimp only; unfold jh; rw [if_neg (by omega), if_neg (by omega)]
   repeat (first|(refine aj h ?_;clear h;intro kb M h)|(refine ak h ?_;clear h;intro M h)|refine St.to h ?_|(apply Exists.intro;(repeat apply Exists.intro);refine And.intro rfl ?_)|refine aq ?_|refine af ?_|refine ai ?_)
   simp only [Int.toNat_natCast]
   refine aW (hB.cons.at h (i := i) (j := 0) hc rfl rfl) ?_
   refine aW (hB.cons.at h (i := i) (j := 1) hc rfl rfl) ?_
   refine aW (hB.cons.at h (i := i) (j := 2) hc rfl rfl) ?_
   repeat (first|(refine aj h ?_;clear h;intro kb M h)|(refine ak h ?_;clear h;intro M h)|refine St.to h ?_|(apply Exists.intro;(repeat apply Exists.intro);refine And.intro rfl ?_)|refine aq ?_|refine af ?_|refine ai ?_)
   refine bB.2 ⟨fun e => by omega, fun _ => ?_⟩
   refine bB.2 ⟨fun e => by omega, fun _ => ?_⟩
   rw [aV (by omega)]
   refine ⟨cases.length - (i + 1), by omega, i + 1, rfl, rfl, by omega, ?_⟩
   rw [e]
   exact h.gk
  obtain ⟨k1, k2, k3, k4⟩ := kk Sw
  obtain ⟨b2, o2, rfl⟩ := hA.cons.fa h (by omega) (by decide)
  obtain ⟨b3, o3, rfl⟩ := hD.cons.fa h (by omega) (by decide)
  have hlen := iI g fM cases cs i
  have D0 := kB (g := g) (fM := fM) hs hok i
  have e : dX g fM cases cs (i + 1) = jh g fM i c (dX g fM cases cs i) := by rw [dX, hc]
  generalize hw : dX g fM cases cs i = ws at h hlen D0 e
  obtain ⟨way, ch, bL⟩ := c
  dsimp only at k1 k2 k3 k4
  obtain ⟨q, rfl⟩ := Int.eq_ofNat_of_zero_le k1
  obtain ⟨q2, rfl⟩ := Int.eq_ofNat_of_zero_le k3
  obtain ⟨b1, wv⟩ := aL (l := bs) (i := q) (by omega)
  obtain ⟨x, hx⟩ := aL (l := ws) (i := q) (by omega)
  obtain ⟨v, hv⟩ := aL (l := fM) (i := q2) (by omega)
  have TZ : dL ws (q : Int) = x := by simp [dL, hx]
  have hvv : fM.getD q2 0 = v := by simp [hv]
  have hxs := D0 x (List.mem_of_getElem? hx)
  simp only [jh, TZ, Int.toNat_natCast, hvv] at e
  repeat (first|(refine aj h ?_;clear h;intro kb M h)|(refine ak h ?_;clear h;intro M h)|refine St.to h ?_|(apply Exists.intro;(repeat apply Exists.intro);refine And.intro rfl ?_)|refine aq ?_|refine af ?_|refine ai ?_)
  simp only [Int.toNat_natCast]
  refine aW (hB.cons.at h (i := i) (j := 0) hc rfl rfl) ?_
  refine aW (hB.cons.at h (i := i) (j := 1) hc rfl rfl) ?_
  refine aW (hB.cons.at h (i := i) (j := 2) hc rfl rfl) ?_
  dsimp only
  repeat (first|(refine aj h ?_;clear h;intro kb M h)|(refine ak h ?_;clear h;intro M h)|refine St.to h ?_|(apply Exists.intro;(repeat apply Exists.intro);refine And.intro rfl ?_)|refine aq ?_|refine af ?_|refine ai ?_)
  refine bB.2 ⟨fun hw => ?_, fun hw => ?_⟩
  ·rw [if_pos hw] at e
   repeat (first|(refine aj h ?_;clear h;intro kb M h)|(refine ak h ?_;clear h;intro M h)|refine St.to h ?_|(apply Exists.intro;(repeat apply Exists.intro);refine And.intro rfl ?_)|refine aq ?_|refine af ?_|refine ai ?_)
   refine jK (hA.cons.cons.at h (i := q) (j := 0) wv rfl (by simp [js])) ?_
   have Lq := wv
   replace h := h.pick (.there .here)
   replace h := h.cw bg wv hx
   refine mb (w := ⟨g, i, 0⟩) h (hxs.mono (by omega)) ?_
   clear h
   intro M h
   repeat (first|(refine aj h ?_;clear h;intro kb M h)|(refine ak h ?_;clear h;intro M h)|refine St.to h ?_|(apply Exists.intro;(repeat apply Exists.intro);refine And.intro rfl ?_)|refine aq ?_|refine af ?_|refine ai ?_)
   rw [aV (by omega)]
   refine ⟨cases.length - (i + 1), by omega, i + 1, rfl, rfl, by omega, ?_⟩
   rw [e]
   exact (h.cQ bg b1 wv (by omega)).bH
  rw [if_neg hw] at e
  refine bB.2 ⟨fun hw => ?_, fun hw => ?_⟩
  ·rw [if_pos hw] at e
   repeat (first|(refine aj h ?_;clear h;intro kb M h)|(refine ak h ?_;clear h;intro M h)|refine St.to h ?_|(apply Exists.intro;(repeat apply Exists.intro);refine And.intro rfl ?_)|refine aq ?_|refine af ?_|refine ai ?_)
   refine jK (hA.cons.cons.at h (i := q) (j := 0) wv rfl (by simp [js])) ?_
   repeat (first|(refine aj h ?_;clear h;intro kb M h)|(refine ak h ?_;clear h;intro M h)|refine St.to h ?_|(apply Exists.intro;(repeat apply Exists.intro);refine And.intro rfl ?_)|refine aq ?_|refine af ?_|refine ai ?_)
   refine aW (hD.cons.cons.at h (i := q2) (j := 0) hv rfl (by simp [bq])) ?_
   replace h := h.pick (.there .here)
   replace h := h.cw bg wv hx
   refine l9 (w := ⟨g, i, v⟩) h (hxs.mono (by omega)) ?_
   clear h
   intro M h
   repeat (first|(refine aj h ?_;clear h;intro kb M h)|(refine ak h ?_;clear h;intro M h)|refine St.to h ?_|(apply Exists.intro;(repeat apply Exists.intro);refine And.intro rfl ?_)|refine aq ?_|refine af ?_|refine ai ?_)
   rw [aV (by omega)]
   refine ⟨cases.length - (i + 1), by omega, i + 1, rfl, rfl, by omega, ?_⟩
   rw [e]
   exact (h.cQ bg b1 wv (by omega)).bH
  ·rw [if_neg hw] at e
   rw [aV (by omega)]
   refine ⟨cases.length - (i + 1), by omega, i + 1, rfl, rfl, by omega, ?_⟩
   rw [e]
   exact h.gk
 ·obtain rfl : i = cases.length := by omega
  exact k _ h
end
end Go.Proofs
namespace Go.Proofs
open Go.AF
structure eD where
 op : Int
 a : Int
 b : Int
 c : Int
 deriving DecidableEq
def eD.zero : eD := ⟨0, 0, 0, 0⟩
def MZ : gi eD := ⟨4, fun x => [.int .i64 x.op, .int .i64 x.a, .int .i64 x.b, .int .i64 x.c], fun _ => rfl, fun w v hv => by
 simp only [List.mem_cons, List.not_mem_nil, or_false] at hv; obtain rfl | rfl | rfl | rfl := hv <;> rfl⟩
structure gm where
 fn : Int
 pc : Int
 r : List Int
 qk : Int
 deriving DecidableEq
def gm.bL (f : gm) (q : Int) : Int := f.r.getD q.toNat 0
def gm.set (f : gm) (q v : Int) : gm := { f with r := (List.range 8).map fun i => if i = q.toNat then v else f.r.getD i 0 }
def gm.next (f : gm) : gm := { f with pc := f.pc + 1 }
def gm.begin (fn v : Int) : gm := ⟨fn, 0, [v, 0, 0, 0, 0, 0, 0, 0], 0⟩
def QC (f : gm) : List Value := [.int .i64 f.fn, .int .i64 f.pc, .int .i64 (f.r.getD 0 0), .int .i64 (f.r.getD 1 0), .int .i64 (f.r.getD 2 0), .int .i64 (f.r.getD 3 0), .int .i64 (f.r.getD 4 0), .int .i64 (f.r.getD 5 0), .int .i64 (f.r.getD 6 0), .int .i64 (f.r.getD 7 0), .int .i64 f.qk]
def hJ : gi gm := ⟨11, QC, fun _ => rfl, fun w v hv => by
 simp only [QC, List.mem_cons, List.not_mem_nil, or_false] at hv
 obtain rfl | rfl | rfl | rfl | rfl | rfl | rfl | rfl | rfl | rfl | rfl := hv <;> rfl⟩
theorem QD {q : Int} (h0 : 0 ≤ q) (h8 : q < 8) : q = 0 ∨ q = 1 ∨ q = 2 ∨ q = 3 ∨ q = 4 ∨ q = 5 ∨ q = 6 ∨ q = 7 := by omega
theorem Na {f : gm} {q : Int} (h0 : 0 ≤ q) (h8 : q < 8) : (hJ.f f)[2 + q.toNat]? = some (.int .i64 (f.bL q)) := by
 obtain rfl | rfl | rfl | rfl | rfl | rfl | rfl | rfl := QD h0 h8 <;> rfl
theorem Ka {f : gm} {q v : Int} (h0 : 0 ≤ q) (h8 : q < 8) : (hJ.f f).set (2 + q.toNat) (.int .i64 v) = hJ.f (f.set q v) := by
 obtain rfl | rfl | rfl | rfl | rfl | rfl | rfl | rfl := QD h0 h8 <;> rfl
theorem Nb {f : gm} {v : Int} : (hJ.f f).set 1 (.int .i64 v) = hJ.f { f with pc := v } := rfl
def gm.pure (f : gm) (x : eD) : gm :=
 if x.op = 0 then f
 else if x.op = 1 then f.set x.a x.b
 else if x.op = 2 then f.set x.a (f.bL x.b)
 else if x.op = 3 then f.set x.a (IntKind.wrap .i64 (f.bL x.b + f.bL x.c))
 else if x.op = 4 then f.set x.a (IntKind.wrap .i64 (f.bL x.b - f.bL x.c))
 else if x.op = 5 then f.set x.a (IntKind.wrap .i64 (f.bL x.b * f.bL x.c))
 else if x.op = 6 then f.set x.a (if f.bL x.b < f.bL x.c then 1 else 0)
 else if x.op = 7 then { f with pc := x.a }
 else if f.bL x.a ≠ 0 then { f with pc := x.b } else f
def bz (q : Int) : Prop := 0 ≤ q ∧ q < 8
instance (q : Int) : Decidable (bz q) := by unfold bz; infer_instance
def eD.ju (x : eD) : Prop :=
 (x.op ∈ [1, 8] → bz x.a) ∧ (x.op = 2 → bz x.a ∧ bz x.b) ∧ (x.op ∈ [3, 4, 5, 6] → bz x.a ∧ bz x.b ∧ bz x.c)
instance (x : eD) : Decidable x.ju := by unfold eD.ju; infer_instance
structure pJ where
 st : Int
 fs : List gm
 wt : eD
 deriving DecidableEq
structure Lk where
 owner : Int
 waits : List Int
 deriving DecidableEq
structure bI where
 t : Int
 seq : Int
 id : Int
 deriving DecidableEq
def ql : gi bI := ⟨3, fun x => [.int .u64 x.t, .int .u64 x.seq, .int .i64 x.id], fun _ => rfl, fun w v hv => by
 simp only [List.mem_cons, List.not_mem_nil, or_false] at hv; obtain rfl | rfl | rfl := hv <;> rfl⟩
structure cM where
 funcs : List (List eD)
 kC : List Int
 bE : Int
 cases : List pI
structure Wd where
 gs : List pJ
 clock : Int
 aI : List aZ
 bE : List Lk
 hl : List bI
 jO : Int
 out : List Int
 end_ : Int
 code : Int
 ready : List Int
 deriving DecidableEq
def au (x : Wd) (g : Int) : pJ := x.gs.getD g.toNat ⟨0, [], .zero⟩
def Wd.b9 (x : Wd) (g : Int) (y : pJ) : Wd := { x with gs := x.gs.set g.toNat y }
def pJ.top (y : pJ) : gm := y.fs.getD (y.fs.length - 1) ⟨0, 0, [], 0⟩
def pJ.dw (y : pJ) (f : gm) : pJ := { y with fs := y.fs.set (y.fs.length - 1) f }
def Wd.cn (x : Wd) (g q v : Int) : Wd := x.b9 g ((au x g).dw ((au x g).top.set q v))
def Wd.kY (x : Wd) (g : Int) : Wd := { x.b9 g { au x g with st := 1 } with ready := x.ready ++ [g] }
def Wd.block (x : Wd) (g : Int) (i : eD) : Wd := x.b9 g { au x g with st := 2, wt := i }
def Wd.leave (x : Wd) (g : Int) : Wd := { x with aI := x.aI.map fun c => c.drop g }
def Wd.mc (x : Wd) (g k : Int) : Wd := (x.cn g (au x g).wt.c k).leave g
def Ay (p : cM) (k : Int) : pI := p.cases.getD k.toNat ⟨0, 0, 0⟩
def Wd.received (p : cM) (x : Wd) (v : Wt) (some : Int) : Wd :=
 let i := (au x v.g).wt
 (if i.op = 16 then ((x.cn v.g (Ay p (i.a + v.cs)).bL v.v).mc v.g v.cs)
  else (x.cn v.g i.b v.v).cn v.g i.c some).kY v.g
def Wd.sent (x : Wd) (v : Wt) : Wd := (if (au x v.g).wt.op = 16 then x.mc v.g v.cs else x).kY v.g
inductive Out (α : Type) where
 | on (a : α)
 | eF (code : Int) (x : Wd)
 | ee (l : List PanicEntry) (x : Wd)
def Wd.eT (x : Wd) (k : Int) (c : aZ) : Wd := { x with aI := x.aI.set k.toNat c }
def Wd.put (p : cM) (x : Wd) (k v : Int) : Out (Wd × Bool) :=
 let s := (dL x.aI k).send v
 if s.2.2.2 = 10 then .eF (-1) (x.eT k s.1)
 else .on ((if s.2.2.1 then (x.eT k s.1).received p s.2.1 1 else x.eT k s.1), s.2.2.2 == 0)
def Wd.get (x : Wd) (k : Int) : Wd × Int × Int × Bool :=
 let s := (dL x.aI k).recv
 let y := if s.2.2.2.2.1 then (x.eT k s.1).sent s.2.2.2.1 else x.eT k s.1
 if s.2.2.1 then (y, s.2.1, 1, true) else (y, 0, 0, s.2.2.2.2.2 == 0)
def bA (x : Wd) (g : Int) : Prop := 0 ≤ g ∧ g < x.gs.length ∧ 0 < (au x g).fs.length ∧ (au x g).fs.length ≤ 1000
instance (x : Wd) (g : Int) : Decidable (bA x g) := by unfold bA; infer_instance
def uU (p : cM) (x : Wd) (v : Wt) : Prop := bA x v.g ∧
 if (au x v.g).wt.op = 16 then 0 ≤ (au x v.g).wt.a + v.cs ∧ (au x v.g).wt.a + v.cs < p.cases.length ∧ p.cases.length ≤ 1000 ∧ bz (Ay p ((au x v.g).wt.a + v.cs)).bL ∧ bz (au x v.g).wt.c
 else bz (au x v.g).wt.b ∧ bz (au x v.g).wt.c
instance (p : cM) (x : Wd) (v : Wt) : Decidable (uU p x v) := by unfold uU; infer_instance
def Az (x : Wd) (v : Wt) : Prop := bA x v.g ∧ ((au x v.g).wt.op = 16 → bz (au x v.g).wt.c)
instance (x : Wd) (v : Wt) : Decidable (Az x v) := by unfold Az; infer_instance
def Wd.Sm (x : Wd) : Prop := (∀ c ∈ x.aI, c.Small 1000000) ∧ x.aI.length ≤ 1000 ∧ x.gs.length ≤ 1000 ∧ x.ready.length ≤ 1000000 ∧ x.out.length ≤ 1000000 ∧ (∀ l ∈ x.bE, l.waits.length ≤ 1000000) ∧ x.bE.length ≤ 1000 ∧ x.hl.length ≤ 1000000
instance (x : Wd) : Decidable x.Sm := by unfold Wd.Sm; infer_instance
theorem rZ {x : Wd} {g : Int} {y : pJ} (h0 : 0 ≤ g) (hg : g < x.gs.length) : au (x.b9 g y) g = y := by
 have : g.toNat < x.gs.length := by omega
 simp [au, Wd.b9, this]
end Go.Proofs
namespace Go.Proofs
open Go.AF
set_option maxRecDepth 100000
variable {M : Mem} {K : Value → Mem → Prop} {Kp : List PanicEntry → Mem → Prop}
theorem oR {B0 : Option Addr} {m0 c0 : Nat} (h :
aK ((m0 : Int) == 0)
 (K (.pointer none) M)
 (((0 : Int) ≤ (IntKind.wrap .i64 ((m0 : Int) - 1))) ∧
 (((IntKind.wrap .i64 ((m0 : Int) - 1)) : Int) < (m0 : Int)) ∧
 az B0 fun k1 k2 =>
 K (.pointer (some ⟨k1, (k2 + ((Int.toNat (IntKind.wrap .i64 ((m0 : Int) - 1))) * 11)), none⟩)) M)) :
 aa Tryz.prog 189 #[.slice B0 m0 c0] M K Kp := vw [] Tryz.func189 h
theorem kZ {b0 o0 : Nat} {x1 : Int} (h :
aK (decide ((x1 : Int) < 0))
 (K (.int .i64 0) M)
 (ay (Mem.ld M ⟨b0, (o0 + 4), none⟩) fun A1 k2 k3 =>
 aK (decide ((x1 : Int) ≥ ((k2 : Nat) : Int)))
  (K (.int .i64 0) M)
  (ay (Mem.ld M ⟨b0, (o0 + 4), none⟩) fun A4 k5 k6 =>
  ((0 : Int) ≤ x1) ∧
  ((x1 : Int) < ((k5 : Nat) : Int)) ∧
  az A4 fun k7 k8 =>
  cz (Mem.ld M ⟨k7, (k8 + (Int.toNat x1)), none⟩) fun A9 =>
  az A9 fun cX cN =>
  aE (Mem.ld M ⟨cX, cN, none⟩) .i64 fun ek =>
  K (.int .i64 ek) M))) :
 aa Tryz.prog 119 ([.pointer (some ⟨b0, o0, none⟩), .int .i64 x1] : List Value).toArray M K Kp :=
 bV (C := Cx) good [] Tryz.func119 (by kernel_rfl) (by kernel_rfl) h
theorem oS {b0 o0 : Nat} (h :
rI M b0 (o0 + 11) fun n1 =>
rI M b0 (o0 + 12) fun n2 =>
K (.tuple #[(iV n1), (iV n2)]) M) :
 aa Tryz.prog 28 #[.pointer (some ⟨b0, o0, none⟩)] M K Kp := vw [(1, .bL [0, 1, 3, 7, 0, 16, 48, 112, 15, 511] (sy [0, 1, 2, 4, 5, 6, 3, 8, 7, 9] .done))] Tryz.func28 h
theorem nu {b0 o0 : Nat} (h :
aE (Mem.ld M ⟨b0, (o0 + 11), none⟩) .i64 fun n1 =>
aK (n1 != 0)
 (K (.slice none 0 0) M)
 (aE (Mem.ld M ⟨b0, (o0 + 5), none⟩) .u64 fun n2 =>
 aF M ⟨b0, (o0 + 5), none⟩ (.int .u64 (IntKind.wrap .u64 (n2 + 1))) fun M3 =>
 aF M3 ⟨b0, (o0 + 13), none⟩ (.slice none 0 0) fun M4 =>
 aE (Mem.ld M4 ⟨b0, (o0 + 5), none⟩) .u64 fun n5 =>
 aa Tryz.prog 157 #[(.pointer (some ⟨b0, (o0 + 8), none⟩)), (.int .u64 n5)] M4 (fun v6 M7 =>
 ay (some v6) fun A8 k9 cX =>
 ∃ Nc : Nat → List Value → Mem → Prop, (∃ di : Nat, Nc di [(.int .i64 0)] M7) ∧
 ∀ cI : Nat, ∀ T0 : Nat → Value, ∀ fk : Int, ∀ dG : Mem, (Nc cI [(.int .i64 fk)] dG) → aK (decide ((fk : Int) < ((k9 : Nat) : Int)))
  (((0 : Int) ≤ fk) ∧
  ((fk : Int) < ((k9 : Nat) : Int)) ∧
  az A8 fun dm dK =>
  aE (Mem.ld dG ⟨dm, (dK + ((Int.toNat fk) * 3)), none⟩) .u64 fun iS =>
  aE (Mem.ld dG ⟨dm, ((dK + ((Int.toNat fk) * 3)) + 1), none⟩) .u64 fun eP =>
  aE (Mem.ld dG ⟨dm, ((dK + ((Int.toNat fk) * 3)) + 2), none⟩) .i64 fun jY =>
  aX dG (.cells #[(.int .u64 0), (.int .u64 0), (.int .i64 0)] 203 (0, 0)) fun eX jZ =>
  aF jZ ⟨eX, 0, none⟩ (.int .u64 iS) fun iH =>
  aF iH ⟨eX, (0 + 1), none⟩ (.int .u64 eP) fun ud =>
  aF ud ⟨eX, (0 + 2), none⟩ (.int .i64 jY) fun uf =>
  aE (Mem.ld uf ⟨eX, (0 + 2), none⟩) .i64 fun tF =>
  aa Tryz.prog 158 #[(.pointer (some ⟨b0, o0, none⟩)), (.int .i64 tF)] uf (fun J7 iR =>
  (J7 = (.tuple #[])) ∧
  ∃ jL : Nat, (jL < cI) ∧
  Nc jL [(.int .i64 (IntKind.wrap .i64 (fk + 1)))] iR) Kp)
  (ay (Mem.ld dG ⟨b0, (o0 + 13), none⟩) fun wD l8 kX =>
  K (.slice wD l8 kX) dG)) Kp)) :
 aa Tryz.prog 120 ([.pointer (some ⟨b0, o0, none⟩)] : List Value).toArray M K Kp :=
 bV (C := Cx) good [(5, .bL [0, 1, 3, 0, 8, 24, 56, 127, 255, 0] (.step 0 (.step 1 (.step 2 (.step 3 (.step 4 (.step 5 (.step 9 (.step 6 (.step 7 (.step 8 .done))))))))))), (2000000, .loop [(29, .c (.int .i64))])] Tryz.func120 (by kernel_rfl) (by kernel_rfl) h
theorem oT {b0 o0 : Nat} (h :
aX M (cl [] 2) fun k1 M2 =>
rS M2 b0 (o0 + 10) fun A3 k4 k5 =>
aA 53 (some ⟨k1, 0, none⟩) 0 0 A3 k4 k5 M2 (fun v6 M7 =>
ay (some v6) fun A8 k9 cX =>
K (.slice A8 k9 cX) M7) Kp) :
 aa Tryz.prog 23 #[.pointer (some ⟨b0, o0, none⟩)] M K Kp := vw [] Tryz.func23 h
theorem uV {x0 : Int} {x1 : Int} (h :
aX M (cl [(iV x0), (iV 0), (iV x1), (iV 0), (iV 0), (iV 0), (iV 0), (iV 0), (iV 0), (iV 0), (iV 0)] 275) fun k1 M2 =>
K (.slice (some ⟨k1, 0, none⟩) 1 1) M2) :
 aa Tryz.prog 112 #[.int .i64 x0, .int .i64 x1] M K Kp := vw [] Tryz.func112 h
theorem yX  (h :
aX M (cl [(iV (-1)), (.slice none 0 0)] 307) fun k1 M2 =>
K (.pointer (some ⟨k1, 0, none⟩)) M2) :
 aa Tryz.prog 114 #[] M K Kp := vw [] Tryz.func114 h
theorem qm {b0 o0 : Nat} {x1 : Int} (h :
∃ I1 : Nat → List Value → Mem → Prop, (∃ k2 : Nat, I1 k2 [(.slice none 0 0)] M) ∧
∀ k3 : Nat, ∀ LM : Nat → Value, ∀ A5 : Option Addr, ∀ k6 : Nat, ∀ k7 : Nat, ∀ M8 : Mem, (I1 k3 [(.slice A5 k6 k7)] M8) → ay (Mem.ld M8 ⟨b0, o0, none⟩) fun A9 cX cN =>
aK (decide ((((cX : Nat) : Int) : Int) > 0))
 (ay (Mem.ld M8 ⟨b0, o0, none⟩) fun wO cI gS =>
 ((0 : Int) ≤ 0) ∧
 ((0 : Int) < ((cI : Nat) : Int)) ∧
 az wO fun eV dk =>
 aE (Mem.ld M8 ⟨eV, (dk + 0), none⟩) .u64 fun fB =>
 aK (decide ((fB : Int) ≤ x1))
  (aa Tryz.prog 117 #[(.pointer (some ⟨b0, o0, none⟩)), (.int .i64 0)] M8 (fun E1 jA =>
  ∃ eP : Int, ∃ jY : Int, ∃ kT : Int, (E1 = (.agg #[(.int .u64 eP), (.int .u64 jY), (.int .i64 kT)])) ∧
  aX jA (.cells #[(.int .u64 eP), (.int .u64 jY), (.int .i64 kT)] 203 (0, 0)) fun hO iH =>
  bh Tryz.prog (Go.Builtin.append_ #[46, 46] 46 #[(.slice A5 k6 k7), (.slice (some ⟨hO, 0, none⟩) 1 1)]) iH (fun Nd uf =>
  ay (some Nd) fun Nf nv m5 =>
  ∃ jL : Nat, (jL < k3) ∧
  I1 jL [(.slice Nf nv m5)] uf) Kp) Kp)
  (K (.slice A5 k6 k7) M8))
 (K (.slice A5 k6 k7) M8)) :
 aa Tryz.prog 157 ([.pointer (some ⟨b0, o0, none⟩), .int .u64 x1] : List Value).toArray M K Kp :=
 bV (C := Cx) good [(2000000, .loop [(5, .c .sl)])] Tryz.func157 (by kernel_rfl) (by kernel_rfl) h
theorem nw {b0 o0 : Nat} {x1 : Int} (h :
rS M b0 (o0 + 4) fun A1 k2 k3 =>
((0 : Int) ≤ x1) ∧
((x1 : Int) < k2) ∧
az A1 fun k4 k5 =>
rP M k4 (k5 + (Int.toNat x1)) fun A6 =>
az A6 fun k7 k8 =>
sT M k7 k8 (iV 1) fun M9 =>
rS M9 b0 (o0 + 13) fun wz cN di =>
aX M9 (cl [(iV x1)] 3) fun cI jz =>
aA 36 wz cN di (some ⟨cI, 0, none⟩) 1 1 jz (fun E7 dG =>
ay (some E7) fun BU dK gN =>
sT dG b0 (o0 + 13) (.slice BU dK gN) fun oM =>
K (.tuple #[]) oM) Kp) :
 aa Tryz.prog 158 #[.pointer (some ⟨b0, o0, none⟩), .int .i64 x1] M K Kp := vw [] Tryz.func158 h
theorem nx {b0 o0 : Nat} {bP : Int} {bQ : Int} {bR : Int} {c9 : Int} (h :
aX M (cl [(iV bP), (iV bQ), (iV bR), (iV c9)] 27) fun k1 M2 =>
rI M2 k1 0 fun n3 =>
aa Tryz.prog 203 #[] M2 (fun v4 M5 =>
eI M5 k1 0 n3 ∧
bh Tryz.prog (Go.Instr.lookup 361 v4 (iV n3) true) M5 (fun v6 M7 =>
∃ v8 : Value, ∃ t9 : Bool, (v6 = (.tuple #[v8, (.bool t9)])) ∧
eI M7 k1 0 n3 ∧
aK t9
 (rI M7 b0 (o0 + 1) fun gA =>
 sT M7 b0 (o0 + 1) (iV (IntKind.wrap .i64 (gA + 1))) fun iW =>
 gM iW k1 0 fun ek gG ot fk =>
 gn Cx v8 [(.pointer (some ⟨b0, o0, none⟩)), (.agg #[(iV ek), (iV gG), (iV ot), (iV fk)])] iW (fun Kb l6 =>
 (Kb = (.tuple #[])) ∧
 K (.bool t9) l6) Kp)
 (K (.bool t9) M7)) Kp) Kp) :
 aa Tryz.prog 190 #[.pointer (some ⟨b0, o0, none⟩), .agg #[.int .i64 bP, .int .i64 bQ, .int .i64 bR, .int .i64 c9]] M K Kp := vw [(1, .bL [0, 0, 2, 7, 15, 31, 31, 63, 255] (sy [1] (.eo 2 (sy [0, 3, 4, 5, 6, 7, 8] .done))))] Tryz.func190 h
theorem lf {b0 o0 : Nat} {x1 : Int} {b2 o2 : Nat} {da : Int} {dc : Int} {de : Int} {dg : Int} (h :
aX M (cl [(iV da), (iV dc), (iV de), (iV dg)] 27) fun k1 M2 =>
gM M2 k1 0 fun n3 n4 n5 n6 =>
aa Tryz.prog 204 #[(.pointer (some ⟨b0, o0, none⟩)), (.agg #[(iV n3), (iV n4), (iV n5), (iV n6)])] M2 (fun v7 M8 =>
ay (some v7) fun A9 cX cN =>
rS M8 b0 (o0 + 6) fun wO cI gS =>
aa Tryz.prog 205 #[(.slice A9 cX cN), (.slice wO cI gS)] M8 (fun E7 dG =>
ay (some E7) fun BU dK gN =>
aK ((dK : Int) == 0)
 (rI dG b2 (o2 + 1) fun eP =>
 sT dG b2 (o2 + 1) (iV (IntKind.wrap .i64 (eP + 1))) fun rq =>
 aa Tryz.prog 206 #[(.slice A9 cX cN)] rq (fun E6 jZ =>
 ∃ zD : Int, ∃ t25 : Bool, (E6 = (.tuple #[(iV zD), (.bool t25)])) ∧
 aK t25
 (rI jZ k1 3 fun m8 =>
 (0 ≤ m8) ∧
 (m8 < 8) ∧
 sT jZ b2 ((o2 + 2) + (Int.toNat m8)) (iV zD) fun ou =>
 K (.tuple #[]) ou)
 (((0 : Int) ≤ 8) ∧
 ((8 : Int) ≤ 8) ∧
 ((0 : Int) ≤ 8) ∧
 ((8 : Int) ≤ 8) ∧
 ((0 : Int) ≤ 0) ∧
 ((0 : Int) ≤ 8) ∧
 rS jZ b0 (o0 + 6) fun J6 m5 jL =>
 aa Tryz.prog 207 #[(iV x1), (.slice A9 cX cN), (.slice (iO (some ⟨b2, (o2 + 2), none⟩) 0 8 1) 8 8), (.slice J6 m5 jL)] jZ (fun J4 m6 =>
 (J4 = (.tuple #[])) ∧
 gM m6 k1 0 fun sQ D1 wW r5 =>
 aa Tryz.prog 208 #[(.pointer (some ⟨b0, o0, none⟩)), (iV x1), (.agg #[(iV sQ), (iV D1), (iV wW), (iV r5)])] m6 (fun v37 kO =>
 (v37 = (.tuple #[])) ∧
 K (.tuple #[]) kO) Kp) Kp)) Kp)
 (fL (Mem.ld dG ⟨b0, (o0 + 14), none⟩) fun v39 =>
 gn Cx v39 [(iV 3), (iV (dK : Int))] dG (fun Kc AA =>
 aE (some Kc) .i64 fun wE =>
 (0 ≤ wE) ∧
 (wE < dK) ∧
 az BU fun yP J5 =>
 rI AA yP (J5 + (Int.toNat wE)) fun tG =>
 rI AA b2 (o2 + 1) fun wX =>
 sT AA b2 (o2 + 1) (iV (IntKind.wrap .i64 (wX + 1))) fun tH =>
 (0 ≤ tG) ∧
 (tG < cX) ∧
 az A9 fun Pw Ga =>
 lY tH Pw (Ga + ((Int.toNat tG) * 3)) fun HB zE Gb =>
 aX tH mY fun rj BT =>
 G6 BT rj (iV HB) (iV zE) (iV Gb) fun Hr =>
 rI Hr rj 0 fun zC =>
 aK (zC == 1)
 (rI Hr rj 1 fun yN =>
 rI Hr rj 2 fun CB =>
 (0 ≤ CB) ∧
 (CB < 8) ∧
 rI Hr b2 ((o2 + 2) + (Int.toNat CB)) fun yR =>
 aa Tryz.prog 209 #[(.pointer (some ⟨b0, o0, none⟩)), (iV yN), (iV yR)] Hr (fun Kd tB =>
 cY (some Kd) fun t64 =>
 rI tB k1 3 fun pG =>
 (0 ≤ pG) ∧
 (pG < 8) ∧
 sT tB b2 ((o2 + 2) + (Int.toNat pG)) (iV tG) fun Sx =>
 K (.tuple #[]) Sx) Kp)
 (rI Hr rj 1 fun Jr =>
 rI Hr rj 2 fun BW =>
 aa Tryz.prog 210 #[(.pointer (some ⟨b0, o0, none⟩)), (iV Jr)] Hr (fun T3 D2 =>
 ∃ Px Ng : Int, ∃ t73 : Bool, (T3 = (.tuple #[(iV Px), (iV Ng), (.bool t73)])) ∧
 eI D2 rj 2 BW ∧
 (0 ≤ BW) ∧
 (BW < 8) ∧
 sT D2 b2 ((o2 + 2) + (Int.toNat BW)) (iV Px) fun xS =>
 eI xS rj 2 BW ∧
 rI xS k1 3 fun Jo =>
 (0 ≤ Jo) ∧
 (Jo < 8) ∧
 sT xS b2 ((o2 + 2) + (Int.toNat Jo)) (iV tG) fun Py =>
 K (.tuple #[]) Py) Kp)) Kp)) Kp) Kp) :
 aa Tryz.prog 191 #[.pointer (some ⟨b0, o0, none⟩), .int .i64 x1, .pointer (some ⟨b2, o2, none⟩), .agg #[.int .i64 da, .int .i64 dc, .int .i64 de, .int .i64 dg]] M K Kp := vw [(7, .bL [0, 0, 2, 0, 1, 17, 63, 127] (sy [0, 1, 3, 4, 5, 2, 6, 7] .done)), (8, .bL [0, 0, 0, 4, 12, 28, 0, 64, 192, 448, 1023] (sy [0, 1, 2, 3, 4, 5, 6, 7, 8, 9, 10] .done)), (14, .bL [0, 0, 2, 0, 0, 16, 8, 72, 248, 504, 1023] (sy [0, 1, 3, 4, 6, 7, 2, 5, 8, 9, 10] .done)), (15, .bL [0, 0, 2, 0, 0, 16, 56, 120, 248, 248, 248, 1, 2049, 6655, 14847] (sy [0, 1, 3, 4, 11, 12, 5] (.eo 2 (sy [6, 7, 8, 9, 10, 13, 14] .done)))), (16, .bL [0, 0, 2, 0, 1, 17, 63, 127] (sy [0, 1, 3, 4, 5, 2, 6, 7] .done))] Tryz.func191 h
theorem ny {b0 o0 : Nat} {x1 : Int} {b2 o2 : Nat} {da : Int} {dc : Int} {de : Int} {dg : Int} (h :
aX M (cl [(iV da), (iV dc), (iV de), (iV dg)] 27) fun k1 M2 =>
fL (Mem.ld M2 ⟨b0, (o0 + 14), none⟩) fun v3 =>
rI M2 k1 2 fun n4 =>
gn Cx v3 [(iV 4), (iV n4)] M2 (fun v5 M6 =>
aE (some v5) .i64 fun n7 =>
rI M6 b2 (o2 + 1) fun n8 =>
sT M6 b2 (o2 + 1) (iV (IntKind.wrap .i64 (n8 + 1))) fun M9 =>
rI M9 k1 1 fun gA =>
(0 ≤ gA) ∧
(gA < 8) ∧
sT M9 b2 ((o2 + 2) + (Int.toNat gA)) (iV n7) fun iW =>
K (.tuple #[]) iW) Kp) :
 aa Tryz.prog 192 #[.pointer (some ⟨b0, o0, none⟩), .int .i64 x1, .pointer (some ⟨b2, o2, none⟩), .agg #[.int .i64 da, .int .i64 dc, .int .i64 de, .int .i64 dg]] M K Kp := vw [(1, .bL [0, 1, 3, 7, 0, 16, 63, 127] (sy [0, 1, 2, 4, 3, 5, 6, 7] .done)), (3, .bL [0, 0, 2, 0, 1, 17, 63, 127] (sy [0, 1, 3, 4, 5, 2, 6, 7] .done))] Tryz.func192 h
theorem uW  (h :
aX M (.map #[] 0) fun k1 M2 =>
bJ Tryz.prog (Go.Instr.mapUpdate 345 (.map (some k1)) (iV 9) (.func (.func 211) #[] #[])) M2 (fun M3 =>
bJ Tryz.prog (Go.Instr.mapUpdate 345 (.map (some k1)) (iV 10) (.func (.func 212) #[] #[])) M3 (fun M4 =>
bJ Tryz.prog (Go.Instr.mapUpdate 345 (.map (some k1)) (iV 11) (.func (.func 213) #[] #[])) M4 (fun M5 =>
bJ Tryz.prog (Go.Instr.mapUpdate 345 (.map (some k1)) (iV 12) (.func (.func 214) #[] #[])) M5 (fun M6 =>
bJ Tryz.prog (Go.Instr.mapUpdate 345 (.map (some k1)) (iV 13) (.func (.func 215) #[] #[])) M6 (fun M7 =>
bJ Tryz.prog (Go.Instr.mapUpdate 345 (.map (some k1)) (iV 14) (.func (.func 216) #[] #[])) M7 (fun M8 =>
bJ Tryz.prog (Go.Instr.mapUpdate 345 (.map (some k1)) (iV 15) (.func (.func 217) #[] #[])) M8 (fun M9 =>
bJ Tryz.prog (Go.Instr.mapUpdate 345 (.map (some k1)) (iV 17) (.func (.func 218) #[] #[])) M9 (fun iQ =>
bJ Tryz.prog (Go.Instr.mapUpdate 345 (.map (some k1)) (iV 18) (.func (.func 219) #[] #[])) iQ (fun iW =>
bJ Tryz.prog (Go.Instr.mapUpdate 345 (.map (some k1)) (iV 19) (.func (.func 220) #[] #[])) iW (fun ri =>
bJ Tryz.prog (Go.Instr.mapUpdate 345 (.map (some k1)) (iV 20) (.func (.func 221) #[] #[])) ri (fun jB =>
bJ Tryz.prog (Go.Instr.mapUpdate 345 (.map (some k1)) (iV 22) (.func (.func 222) #[] #[])) jB (fun jz =>
K (.map (some k1)) jz) Kp) Kp) Kp) Kp) Kp) Kp) Kp) Kp) Kp) Kp) Kp) Kp) :
 aa Tryz.prog 193 #[] M K Kp := vw [] Tryz.func193 h
theorem nA {b0 o0 : Nat} {x1 : Int} (h :
aX M (.cells #[(.int .u64 0), (.int .u64 0), (.int .i64 0)] 203 (0, 0)) fun k1 M2 =>
ay (Mem.ld M2 ⟨b0, o0, none⟩) fun A3 k4 k5 =>
((0 : Int) ≤ x1) ∧
((x1 : Int) < ((k4 : Nat) : Int)) ∧
az A3 fun k6 k7 =>
aE (Mem.ld M2 ⟨k6, (k7 + ((Int.toNat x1) * 3)), none⟩) .u64 fun n8 =>
aE (Mem.ld M2 ⟨k6, ((k7 + ((Int.toNat x1) * 3)) + 1), none⟩) .u64 fun n9 =>
aE (Mem.ld M2 ⟨k6, ((k7 + ((Int.toNat x1) * 3)) + 2), none⟩) .i64 fun gA =>
aX M2 (.cells #[(.int .u64 0), (.int .u64 0), (.int .i64 0)] 203 (0, 0)) fun cN ri =>
aF ri ⟨cN, 0, none⟩ (.int .u64 n8) fun jB =>
aF jB ⟨cN, (0 + 1), none⟩ (.int .u64 n9) fun jz =>
aF jz ⟨cN, (0 + 2), none⟩ (.int .i64 gA) fun pK =>
ay (Mem.ld pK ⟨b0, o0, none⟩) fun LN dm dK =>
aa Tryz.prog 154 #[(.pointer (some ⟨b0, o0, none⟩)), (.int .i64 x1), (.int .i64 (IntKind.wrap .i64 (((dm : Nat) : Int) - 1)))] pK (fun Ke oM =>
(Ke = (.tuple #[])) ∧
ay (Mem.ld oM ⟨b0, o0, none⟩) fun wT eX hO =>
((0 : Int) ≤ ((hO : Nat) : Int)) ∧
((((hO : Nat) : Int) : Int) ≤ ((hO : Nat) : Int)) ∧
((0 : Int) ≤ (IntKind.wrap .i64 (((dm : Nat) : Int) - 1))) ∧
(((IntKind.wrap .i64 (((dm : Nat) : Int) - 1)) : Int) ≤ ((hO : Nat) : Int)) ∧
((0 : Int) ≤ 0) ∧
((0 : Int) ≤ (IntKind.wrap .i64 (((dm : Nat) : Int) - 1))) ∧
aF oM ⟨b0, o0, none⟩ (.slice (iO wT 0 (Int.toNat ((hO : Nat) : Int)) 3) ((Int.toNat (IntKind.wrap .i64 (((dm : Nat) : Int) - 1))) - 0) ((Int.toNat ((hO : Nat) : Int)) - 0)) fun iH =>
aK (decide ((x1 : Int) < (IntKind.wrap .i64 (((dm : Nat) : Int) - 1))))
 (aa Tryz.prog 155 #[(.pointer (some ⟨b0, o0, none⟩)), (.int .i64 x1)] iH (fun Nd uf =>
 (Nd = (.tuple #[])) ∧
 aa Tryz.prog 156 #[(.pointer (some ⟨b0, o0, none⟩)), (.int .i64 x1)] uf (fun Hx ua =>
 (Hx = (.tuple #[])) ∧
 aE (Mem.ld ua ⟨cN, 0, none⟩) .u64 fun tE =>
 aE (Mem.ld ua ⟨cN, (0 + 1), none⟩) .u64 fun sV =>
 aE (Mem.ld ua ⟨cN, (0 + 2), none⟩) .i64 fun sP =>
 aF ua ⟨k1, 0, none⟩ (.int .u64 tE) fun m6 =>
 aF m6 ⟨k1, (0 + 1), none⟩ (.int .u64 sV) fun yV =>
 aF yV ⟨k1, (0 + 2), none⟩ (.int .i64 sP) fun kQ =>
 aE (Mem.ld kQ ⟨k1, 0, none⟩) .u64 fun wW =>
 aE (Mem.ld kQ ⟨k1, (0 + 1), none⟩) .u64 fun r5 =>
 aE (Mem.ld kQ ⟨k1, (0 + 2), none⟩) .i64 fun wA =>
 K (.agg #[(.int .u64 wW), (.int .u64 r5), (.int .i64 wA)]) kQ) Kp) Kp)
 (aE (Mem.ld iH ⟨cN, 0, none⟩) .u64 fun uN =>
 aE (Mem.ld iH ⟨cN, (0 + 1), none⟩) .u64 fun yM =>
 aE (Mem.ld iH ⟨cN, (0 + 2), none⟩) .i64 fun CJ =>
 aF iH ⟨k1, 0, none⟩ (.int .u64 uN) fun AA =>
 aF AA ⟨k1, (0 + 1), none⟩ (.int .u64 yM) fun Kf =>
 aF Kf ⟨k1, (0 + 2), none⟩ (.int .i64 CJ) fun wF =>
 aE (Mem.ld wF ⟨k1, 0, none⟩) .u64 fun sW =>
 aE (Mem.ld wF ⟨k1, (0 + 1), none⟩) .u64 fun tG =>
 aE (Mem.ld wF ⟨k1, (0 + 2), none⟩) .i64 fun wX =>
 K (.agg #[(.int .u64 sW), (.int .u64 tG), (.int .i64 wX)]) wF)) Kp) :
 aa Tryz.prog 117 ([.pointer (some ⟨b0, o0, none⟩), .int .i64 x1] : List Value).toArray M K Kp :=
 bV (C := Cx) good [] Tryz.func117 (by kernel_rfl) (by kernel_rfl) h
theorem uX  (h :
aX M (.map #[] 0) fun k1 M2 =>
bJ Tryz.prog (Go.Instr.mapUpdate 361 (.map (some k1)) (iV 0) (.func (.func 225) #[] #[])) M2 (fun M3 =>
bJ Tryz.prog (Go.Instr.mapUpdate 361 (.map (some k1)) (iV 1) (.func (.func 226) #[] #[])) M3 (fun M4 =>
bJ Tryz.prog (Go.Instr.mapUpdate 361 (.map (some k1)) (iV 2) (.func (.func 227) #[] #[])) M4 (fun M5 =>
bJ Tryz.prog (Go.Instr.mapUpdate 361 (.map (some k1)) (iV 3) (.func (.func 228) #[] #[])) M5 (fun M6 =>
bJ Tryz.prog (Go.Instr.mapUpdate 361 (.map (some k1)) (iV 4) (.func (.func 229) #[] #[])) M6 (fun M7 =>
bJ Tryz.prog (Go.Instr.mapUpdate 361 (.map (some k1)) (iV 5) (.func (.func 230) #[] #[])) M7 (fun M8 =>
bJ Tryz.prog (Go.Instr.mapUpdate 361 (.map (some k1)) (iV 6) (.func (.func 231) #[] #[])) M8 (fun M9 =>
bJ Tryz.prog (Go.Instr.mapUpdate 361 (.map (some k1)) (iV 7) (.func (.func 232) #[] #[])) M9 (fun iQ =>
bJ Tryz.prog (Go.Instr.mapUpdate 361 (.map (some k1)) (iV 8) (.func (.func 233) #[] #[])) iQ (fun iW =>
K (.map (some k1)) iW) Kp) Kp) Kp) Kp) Kp) Kp) Kp) Kp) Kp) :
 aa Tryz.prog 203 #[] M K Kp := vw [] Tryz.func203 h
theorem me {b0 o0 : Nat} {bP : Int} {bQ : Int} {bR : Int} {c9 : Int} (h :
aX M (cl [(iV bP), (iV bQ), (iV bR), (iV c9)] 27) fun k1 M2 =>
rS M2 b0 (o0 + 3) fun A3 k4 k5 =>
rI M2 k1 1 fun n6 =>
rI M2 k1 1 fun n7 =>
rI M2 k1 2 fun n8 =>
((0 : Int) ≤ k5) ∧
((k5 : Int) ≤ k5) ∧
((0 : Int) ≤ (IntKind.wrap .i64 (n7 + n8))) ∧
(((IntKind.wrap .i64 (n7 + n8)) : Int) ≤ (k5 : Int)) ∧
(0 ≤ n6) ∧
((n6 : Int) ≤ (IntKind.wrap .i64 (n7 + n8))) ∧
K (.slice (iO A3 (Int.toNat n6) (Int.toNat (k5 : Int)) 3) ((Int.toNat (IntKind.wrap .i64 (n7 + n8))) - (Int.toNat n6)) ((Int.toNat (k5 : Int)) - (Int.toNat n6))) M2) :
 aa Tryz.prog 204 #[.pointer (some ⟨b0, o0, none⟩), .agg #[.int .i64 bP, .int .i64 bQ, .int .i64 bR, .int .i64 c9]] M K Kp := vw [(1, .bL [0, 1, 3, 7, 15, 0, 32, 0, 128, 0, 512, 1920, 4095, 8191] (sy [0, 1, 2, 3, 5, 7, 9, 4, 6, 8, 10, 11, 12, 13] .done))] Tryz.func204 h
theorem mg {b0 o0 : Nat} {x1 : Int} {QE : Int} {QF : Int} {QG : Int} {QH : Int} (h :
aX M (cl [(iV QE), (iV QF), (iV QG), (iV QH)] 27) fun k1 M2 =>
rS M2 b0 (o0 + 4) fun A3 k4 k5 =>
((0 : Int) ≤ x1) ∧
((x1 : Int) < k4) ∧
az A3 fun k6 k7 =>
rP M2 k6 (k7 + (Int.toNat x1)) fun A8 =>
rS M2 b0 (o0 + 4) fun A9 cX cN =>
((0 : Int) ≤ x1) ∧
((x1 : Int) < cX) ∧
az A9 fun di cI =>
rP M2 di (cI + (Int.toNat x1)) fun gz =>
az A8 fun eV dk =>
gM M2 k1 0 fun fB fy iS eP =>
sT M2 eV dk (iV 2) fun rq =>
((Mem.dP rq ⟨k1, 0, none⟩ 0 4) = some [(iV fB), (iV fy), (iV iS), (iV eP)]) ∧
az gz fun eX hO =>
sT rq eX (hO + 2) (iV fB) fun iH =>
sT iH eX ((hO + 2) + 1) (iV fy) fun ud =>
sT ud eX ((hO + 2) + 2) (iV iS) fun uf =>
sT uf eX ((hO + 2) + 3) (iV eP) fun ou =>
((Mem.dP ou ⟨k1, 0, none⟩ 0 4) = some [(iV fB), (iV fy), (iV iS), (iV eP)]) ∧
K (.tuple #[]) ou) :
 aa Tryz.prog 208 #[.pointer (some ⟨b0, o0, none⟩), .int .i64 x1, .agg #[.int .i64 QE, .int .i64 QF, .int .i64 QG, .int .i64 QH]] M K Kp := vw [(1, .bL [0, 1, 3, 7, 0, 31, 63, 0, 128, 384, 896, 0, 3968, 8064, 0, 16383, 49151, 114687, 262143, 524287, 1048575] (sy [0, 1, 2, 4, 7, 8, 9, 11, 3, 5, 6, 10, 12, 13, 15, 16] (.eo 14 (sy [17, 18, 19, 20] .done))))] Tryz.func208 h
theorem oU {b0 o0 : Nat} {x1 : Int} {x2 : Int} (h :
rS M b0 (o0 + 6) fun A1 k2 k3 =>
((0 : Int) ≤ x1) ∧
((x1 : Int) < k2) ∧
az A1 fun k4 k5 =>
rP M k4 (k5 + (Int.toNat x1)) fun A6 =>
aa Tryz.prog 237 #[(.pointer A6), (iV x2)] M (fun v7 M8 =>
∃ n9 gA fA : Int, ∃ t12 : Bool, ∃ gG : Int, (v7 = (.tuple #[(.agg #[(iV n9), (iV gA), (iV fA)]), (.bool t12), (iV gG)])) ∧
aX M8 ij fun gS pK =>
G6 pK gS (iV n9) (iV gA) (iV fA) fun kP =>
aK (gG == 10)
 (Kp [{ v := (.iface 340 (iV (-1))), recovered := false }] kP)
 (aK t12
 (rI kP gS 0 fun iS =>
 rI kP gS 1 fun eP =>
 rI kP gS 2 fun jY =>
 aa Tryz.prog 238 #[(.pointer (some ⟨b0, o0, none⟩)), (.agg #[(iV iS), (iV eP), (iV jY)]), (iV 1)] kP (fun E6 jZ =>
 (E6 = (.tuple #[])) ∧
 K (.bool (gG == 0)) jZ) Kp)
 (K (.bool (gG == 0)) kP))) Kp) :
 aa Tryz.prog 209 #[.pointer (some ⟨b0, o0, none⟩), .int .i64 x1, .int .i64 x2] M K Kp := vw [] Tryz.func209 h
theorem oV {b0 o0 : Nat} {x1 : Int} (h :
rS M b0 (o0 + 6) fun A1 k2 k3 =>
((0 : Int) ≤ x1) ∧
((x1 : Int) < k2) ∧
az A1 fun k4 k5 =>
rP M k4 (k5 + (Int.toNat x1)) fun A6 =>
aa Tryz.prog 239 #[(.pointer A6)] M (fun v7 M8 =>
∃ n9 : Int, ∃ t10 : Bool, ∃ fA ek gG : Int, ∃ t14 : Bool, ∃ fk : Int, (v7 = (.tuple #[(.agg #[(iV n9), (.bool t10), (iV fA), (iV ek), (iV gG), (.bool t14)]), (iV fk)])) ∧
aX M8 kj fun dk l6 =>
Sq l6 dk (iV n9) (.bool t10) (iV fA) (iV ek) (iV gG) (.bool t14) fun jZ =>
rB jZ dk 5 fun t24 =>
aK t24
 (rI jZ dk 2 fun m7 =>
 rI jZ dk (2 + 1) fun m8 =>
 rI jZ dk (2 + 2) fun tF =>
 aa Tryz.prog 240 #[(.pointer (some ⟨b0, o0, none⟩)), (.agg #[(iV m7), (iV m8), (iV tF)])] jZ (fun J7 iR =>
 (J7 = (.tuple #[])) ∧
 rB iR dk 1 fun t30 =>
 aK t30
 (rI iR dk 0 fun sP =>
 K (.tuple #[(iV sP), (iV 1), (.bool true)]) iR)
 (K (.tuple #[(iV 0), (iV 0), (.bool (fk == 0))]) iR)) Kp)
 (rB jZ dk 1 fun t32 =>
 aK t32
 (rI jZ dk 0 fun sQ =>
 K (.tuple #[(iV sQ), (iV 1), (.bool true)]) jZ)
 (K (.tuple #[(iV 0), (iV 0), (.bool (fk == 0))]) jZ))) Kp) :
 aa Tryz.prog 210 #[.pointer (some ⟨b0, o0, none⟩), .int .i64 x1] M K Kp := vw [] Tryz.func210 h
theorem nB {b0 o0 : Nat} {x1 : Int} {b2 o2 : Nat} {da : Int} {dc : Int} {de : Int} {dg : Int} (h :
aX M (cl [(iV da), (iV dc), (iV de), (iV dg)] 27) fun k1 M2 =>
rS M2 b0 (o0 + 4) fun A3 k4 k5 =>
((0 : Int) ≤ x1) ∧
((x1 : Int) < k4) ∧
az A3 fun k6 k7 =>
rP M2 k6 (k7 + (Int.toNat x1)) fun A8 =>
az A8 fun k9 cX =>
rS M2 k9 (cX + 1) fun yY di cI =>
rI M2 k1 1 fun ot =>
rI M2 k1 2 fun fk =>
(0 ≤ fk) ∧
(fk < 8) ∧
rI M2 b2 ((o2 + 2) + (Int.toNat fk)) fun jf =>
rI M2 k1 3 fun fB =>
aa Tryz.prog 241 #[(.slice yY di cI), (iV ot), (iV jf), (iV fB)] M2 (fun E1 jA =>
∃ D3 : Option Addr, ∃ cU eX : Nat, ∃ t23 : Bool, (E1 = (.tuple #[(.slice D3 cU eX), (.bool t23)])) ∧
aK (!t23)
 (Kp [{ v := (.iface 340 (iV (-4))), recovered := false }] jA)
 (rS jA b0 (o0 + 4) fun Hw oq oN =>
 ((0 : Int) ≤ x1) ∧
 ((x1 : Int) < oq) ∧
 az Hw fun qd nv =>
 rP jA qd (nv + (Int.toNat x1)) fun Jq =>
 az Jq fun jL nt =>
 sT jA jL (nt + 1) (.slice D3 cU eX) fun m6 =>
 K (.tuple #[]) m6)) Kp) :
 aa Tryz.prog 211 #[.pointer (some ⟨b0, o0, none⟩), .int .i64 x1, .pointer (some ⟨b2, o2, none⟩), .agg #[.int .i64 da, .int .i64 dc, .int .i64 de, .int .i64 dg]] M K Kp := vw [(1, .bL [0, 1, 3, 7, 0, 31, 63, 127, 255, 511, 0, 1024, 0, 0, 8192, 4096, 36864, 126976, 258048, 0, 524288, 2097151, 4194303, 8388607, 8388607, 16777215, 67108863] (sy [0, 1, 2, 4, 10, 12, 13, 15, 16, 19, 3, 5, 6, 7, 8, 9, 11, 14, 17, 18, 20, 21, 22, 23, 24, 25, 26] .done))] Tryz.func211 h
theorem nC {b0 o0 : Nat} {x1 : Int} {b2 o2 : Nat} {da : Int} {dc : Int} {de : Int} {dg : Int} (h :
aX M (cl [(iV da), (iV dc), (iV de), (iV dg)] 27) fun k1 M2 =>
rS M2 b0 (o0 + 4) fun A3 k4 k5 =>
((0 : Int) ≤ x1) ∧
((x1 : Int) < k4) ∧
az A3 fun k6 k7 =>
rP M2 k6 (k7 + (Int.toNat x1)) fun A8 =>
az A8 fun k9 cX =>
rS M2 k9 (cX + 1) fun yY di cI =>
rI M2 k1 1 fun ot =>
(0 ≤ ot) ∧
(ot < 8) ∧
rI M2 b2 ((o2 + 2) + (Int.toNat ot)) fun fk =>
aa Tryz.prog 242 #[(.slice yY di cI), (iV fk)] M2 (fun Kb l6 =>
∃ Js : Option Addr, ∃ gN iT : Nat, ∃ t21 : Bool, (Kb = (.tuple #[(.slice Js gN iT), (.bool t21)])) ∧
aK t21
 (rS l6 b0 (o0 + 4) fun Pz hO kU =>
 ((0 : Int) ≤ x1) ∧
 ((x1 : Int) < hO) ∧
 az Pz fun oq oN =>
 rP l6 oq (oN + (Int.toNat x1)) fun Nf =>
 az Nf fun nv m5 =>
 sT l6 nv (m5 + 1) (.slice Js gN iT) fun mZ =>
 K (.tuple #[]) mZ)
 (rS l6 b0 (o0 + 4) fun wD l8 kX =>
 ((0 : Int) ≤ x1) ∧
 ((x1 : Int) < l8) ∧
 az wD fun sR pH =>
 rP l6 sR (pH + (Int.toNat x1)) fun HC =>
 az HC fun sX fC =>
 sT l6 sX fC (iV 4) fun Sy =>
 aK (x1 == 0)
 (sT Sy b0 (o0 + 11) (iV 1) fun Nh =>
 K (.tuple #[]) Nh)
 (K (.tuple #[]) Sy))) Kp) :
 aa Tryz.prog 212 #[.pointer (some ⟨b0, o0, none⟩), .int .i64 x1, .pointer (some ⟨b2, o2, none⟩), .agg #[.int .i64 da, .int .i64 dc, .int .i64 de, .int .i64 dg]] M K Kp := vw [(1, .bL [0, 1, 3, 7, 0, 31, 63, 127, 255, 511, 0, 0, 2048, 1024, 9216, 31744, 64512, 131071, 262143, 524287, 524287, 1048575, 4194303] (sy [0, 1, 2, 4, 10, 11, 13, 14, 3, 5, 6, 7, 8, 9, 12, 15, 16, 17, 18, 19, 20, 21, 22] .done))] Tryz.func212 h
theorem mh {b0 o0 : Nat} {x1 : Int} {b2 o2 : Nat} {da : Int} {dc : Int} {de : Int} {dg : Int} (h :
aX M (cl [(iV da), (iV dc), (iV de), (iV dg)] 27) fun k1 M2 =>
rS M2 b0 (o0 + 4) fun A3 k4 k5 =>
aK (decide ((k4 : Int) ≥ 100))
 (Kp [{ v := (.iface 340 (iV (-5))), recovered := false }] M2)
 (rS M2 b0 (o0 + 4) fun A6 k7 k8 =>
 ∃ J9 : List Value → Mem → Prop, (rI M2 k1 1 fun gA =>
 rI M2 k1 2 fun fA =>
 (0 ≤ fA) ∧
 (fA < 8) ∧
 rI M2 b2 ((o2 + 2) + (Int.toNat fA)) fun ek =>
 (rS M2 b0 (o0 + 4) fun F3 gS eV =>
 aa Tryz.prog 112 #[(iV gA), (iV ek)] M2 (fun Kb l6 =>
 ay (some Kb) fun Js gN iT =>
 aX l6 (cl [(iV 0), (.slice Js gN iT), (iV 0), (iV 0), (iV 0), (iV 0)] 229) fun cU kx =>
 aX kx (cl [(.pointer (some ⟨cU, 0, none⟩))] 224) fun hO iH =>
 aA 155 F3 gS eV (some ⟨hO, 0, none⟩) 1 1 iH (fun Nd uf =>
 ay (some Nd) fun Nf nv m5 =>
 sT uf b0 (o0 + 4) (.slice Nf nv m5) fun mZ =>
 J9 [] mZ) Kp) Kp) ∧
 (aa Tryz.prog 112 #[(iV gA), (iV ek)] M2 (fun J4 m6 =>
 ay (some J4) fun Hs sR pH =>
 rS m6 b0 (o0 + 4) fun HC sX fC =>
 aX m6 (cl [(iV 0), (.slice Hs sR pH), (iV 0), (iV 0), (iV 0), (iV 0)] 229) fun lG Nh =>
 aX Nh (cl [(.pointer (some ⟨lG, 0, none⟩))] 224) fun xP Kf =>
 aA 155 HC sX fC (some ⟨xP, 0, none⟩) 1 1 Kf (fun QI ug =>
 ay (some QI) fun A45 E3 Qu =>
 sT ug b0 (o0 + 4) (.slice A45 E3 Qu) fun Pv =>
 J9 [] Pv) Kp) Kp) ∧
 True) ∧
 ∀ T4 : Nat → Value, ∀ uc : Mem, (J9 [] uc) → aa Tryz.prog 158 #[(.pointer (some ⟨b0, o0, none⟩)), (iV (k7 : Int))] uc (fun T5 QJ =>
 (T5 = (.tuple #[])) ∧
 rI QJ k1 3 fun Gc =>
 (0 ≤ Gc) ∧
 (Gc < 8) ∧
 sT QJ b2 ((o2 + 2) + (Int.toNat Gc)) (iV (k7 : Int)) fun BT =>
 K (.tuple #[]) BT) Kp)) :
 aa Tryz.prog 213 #[.pointer (some ⟨b0, o0, none⟩), .int .i64 x1, .pointer (some ⟨b2, o2, none⟩), .agg #[.int .i64 da, .int .i64 dc, .int .i64 de, .int .i64 dg]] M K Kp := vw [(4, .EN [0, 0, 2, 6, 14, 0, 32, 0, 0, 256, 128, 1152, 3968, 8064, 16352, 32736, 65504, 131040, 262142, 524287, 1048575, 2097151] (sy [0, 1, 2, 3, 5, 7, 8, 10, 11, 6, 9, 12, 13] (.fork 4 (sy [14, 15, 16, 17, 18, 19, 20, 21] .done) (.fork 14 (sy [15, 4, 16, 17, 18, 19, 20, 21] .done) .dead))) []), (6, .bL [0, 0, 2, 0, 1, 17, 63, 127] (sy [0, 1, 3, 4, 5, 2, 6, 7] .done))] Tryz.func213 h
theorem mj {b0 o0 : Nat} {x1 : Int} {b2 o2 : Nat} {da : Int} {dc : Int} {de : Int} {dg : Int} (h :
aX M (cl [(iV da), (iV dc), (iV de), (iV dg)] 27) fun k1 M2 =>
K (.tuple #[]) M2) :
 aa Tryz.prog 214 #[.pointer (some ⟨b0, o0, none⟩), .int .i64 x1, .pointer (some ⟨b2, o2, none⟩), .agg #[.int .i64 da, .int .i64 dc, .int .i64 de, .int .i64 dg]] M K Kp := vw [] Tryz.func214 h
theorem nD {b0 o0 : Nat} {x1 : Int} {b2 o2 : Nat} {da : Int} {dc : Int} {de : Int} {dg : Int} (h :
aX M (cl [(iV da), (iV dc), (iV de), (iV dg)] 27) fun k1 M2 =>
rI M2 k1 1 fun n3 =>
rI M2 k1 2 fun n4 =>
(0 ≤ n4) ∧
(n4 < 8) ∧
rI M2 b2 ((o2 + 2) + (Int.toNat n4)) fun n5 =>
aa Tryz.prog 209 #[(.pointer (some ⟨b0, o0, none⟩)), (iV n3), (iV n5)] M2 (fun v6 M7 =>
cY (some v6) fun t8 =>
aK (!t8)
 (rS M7 b0 (o0 + 6) fun A9 cX cN =>
 rI M7 k1 1 fun ek =>
 (0 ≤ ek) ∧
 (ek < cX) ∧
 az A9 fun cI gS =>
 rP M7 cI (gS + (Int.toNat ek)) fun oK =>
 rI M7 k1 2 fun jf =>
 (0 ≤ jf) ∧
 (jf < 8) ∧
 rI M7 b2 ((o2 + 2) + (Int.toNat jf)) fun fB =>
 aa Tryz.prog 236 #[(.pointer oK), (.agg #[(iV x1), (iV 0), (iV fB)])] M7 (fun E1 jA =>
 (E1 = (.tuple #[])) ∧
 gM jA k1 0 fun eP jY kT uQ =>
 aa Tryz.prog 208 #[(.pointer (some ⟨b0, o0, none⟩)), (iV x1), (.agg #[(iV eP), (iV jY), (iV kT), (iV uQ)])] jA (fun HD ud =>
 (HD = (.tuple #[])) ∧
 K (.tuple #[]) ud) Kp) Kp)
 (K (.tuple #[]) M7)) Kp) :
 aa Tryz.prog 215 #[.pointer (some ⟨b0, o0, none⟩), .int .i64 x1, .pointer (some ⟨b2, o2, none⟩), .agg #[.int .i64 da, .int .i64 dc, .int .i64 de, .int .i64 dg]] M K Kp := vw [(1, .bL [0, 0, 2, 0, 0, 16, 8, 72, 248, 504, 1023, 2047] (sy [0, 1, 3, 4, 6, 7, 2, 5, 8, 9, 10, 11] .done)), (2, .bL [0, 1, 3, 7, 0, 16, 63, 127, 0, 0, 0, 1024, 512, 4608, 15872, 32256, 65280, 131071] (sy [0, 1, 2, 4, 8, 9, 10, 12, 13, 3, 5, 6, 7, 11, 14, 15, 16, 17] .done))] Tryz.func215 h
theorem nE {b0 o0 : Nat} {x1 : Int} {b2 o2 : Nat} {da : Int} {dc : Int} {de : Int} {dg : Int} (h :
aX M (cl [(iV da), (iV dc), (iV de), (iV dg)] 27) fun k1 M2 =>
rI M2 k1 1 fun n3 =>
aa Tryz.prog 210 #[(.pointer (some ⟨b0, o0, none⟩)), (iV n3)] M2 (fun v4 M5 =>
∃ n6 n7 : Int, ∃ t8 : Bool, (v4 = (.tuple #[(iV n6), (iV n7), (.bool t8)])) ∧
aK (!t8)
 (rS M5 b0 (o0 + 6) fun A9 cX cN =>
 rI M5 k1 1 fun ek =>
 (0 ≤ ek) ∧
 (ek < cX) ∧
 az A9 fun cI gS =>
 rP M5 cI (gS + (Int.toNat ek)) fun oK =>
 aa Tryz.prog 235 #[(.pointer oK), (.agg #[(iV x1), (iV 0), (iV 0)])] M5 (fun Kb l6 =>
 (Kb = (.tuple #[])) ∧
 gM l6 k1 0 fun fy iS eP jY =>
 aa Tryz.prog 208 #[(.pointer (some ⟨b0, o0, none⟩)), (iV x1), (.agg #[(iV fy), (iV iS), (iV eP), (iV jY)])] l6 (fun E6 jZ =>
 (E6 = (.tuple #[])) ∧
 K (.tuple #[]) jZ) Kp) Kp)
 (rI M5 k1 2 fun zD =>
 (0 ≤ zD) ∧
 (zD < 8) ∧
 rI M5 k1 3 fun m7 =>
 sT M5 b2 ((o2 + 2) + (Int.toNat zD)) (iV n6) fun uf =>
 eI uf k1 3 m7 ∧
 (0 ≤ m7) ∧
 (m7 < 8) ∧
 sT uf b2 ((o2 + 2) + (Int.toNat m7)) (iV n7) fun ou =>
 eI ou k1 3 m7 ∧
 K (.tuple #[]) ou)) Kp) :
 aa Tryz.prog 216 #[.pointer (some ⟨b0, o0, none⟩), .int .i64 x1, .pointer (some ⟨b2, o2, none⟩), .agg #[.int .i64 da, .int .i64 dc, .int .i64 de, .int .i64 dg]] M K Kp := vw [(3, .bL [0, 1, 3, 7, 0, 16, 63, 127, 0, 256, 1023] (sy [0, 1, 2, 4, 8, 9, 3, 5, 6, 7, 10] .done)), (5, .bL [0, 0, 2, 0, 0, 16, 0, 0, 1, 257, 839, 1863, 8, 4104, 16383, 32767] (sy [0, 1, 3, 4, 6, 7, 8, 9, 12, 13, 2, 10] (.eo 5 (sy [11, 14, 15] .done))))] Tryz.func216 h
theorem nF {b0 o0 : Nat} {x1 : Int} {b2 o2 : Nat} {da : Int} {dc : Int} {de : Int} {dg : Int} (h :
aX M (cl [(iV da), (iV dc), (iV de), (iV dg)] 27) fun k1 M2 =>
rS M2 b0 (o0 + 6) fun A3 k4 k5 =>
rI M2 k1 1 fun n6 =>
(0 ≤ n6) ∧
(n6 < k4) ∧
az A3 fun k7 k8 =>
rP M2 k7 (k8 + (Int.toNat n6)) fun A9 =>
aa Tryz.prog 243 #[(.pointer A9)] M2 (fun v10 iW =>
∃ wO : Option Addr, ∃ cI gS : Nat, ∃ oK : Option Addr, ∃ dk dm : Nat, ∃ fy : Int, (v10 = (.tuple #[(.slice wO cI gS), (.slice oK dk dm), (iV fy)])) ∧
aK (fy != 0)
 (Kp [{ v := (.iface 340 (iV (-2))), recovered := false }] iW)
 (aK (decide ((dk : Int) > 0))
 (Kp [{ v := (.iface 340 (iV (-1))), recovered := false }] iW)
 (∃ Sz : IT, (∃ iT, Sz iT [(iV 0)] iW) ∧
 ∀ (cU : Nat) (_ : Nat → Value) (uQ : Int) (iH : Mem), (Sz cU [(iV uQ)] iH) → aK (decide (uQ < cI))
 ((0 ≤ uQ) ∧
 (uQ < cI) ∧
 az wO fun oq oN =>
 lY iH oq (oN + ((Int.toNat uQ) * 3)) fun tF oO tE =>
 aX iH ij fun jL QK =>
 G6 QK jL (iV tF) (iV oO) (iV tE) fun kQ =>
 rS kQ b0 (o0 + 4) fun SB wC sX =>
 rI kQ jL 0 fun uN =>
 (0 ≤ uN) ∧
 (uN < wC) ∧
 az SB fun lG wB =>
 rP kQ lG (wB + (Int.toNat uN)) fun Ni =>
 az Ni fun Ap yP =>
 rI kQ Ap yP fun sW =>
 aK (sW == 2)
 (sT kQ jL 2 (iV 0) fun sY =>
 lY sY jL 0 fun wX ru BX =>
 aa Tryz.prog 238 #[(.pointer (some ⟨b0, o0, none⟩)), (.agg #[(iV wX), (iV ru), (iV BX)]), (iV 0)] sY (fun E4 uc =>
 (E4 = (.tuple #[])) ∧
 ∃ HE : Nat, (HE < cU) ∧
 Sz HE [(iV (IntKind.wrap .i64 (uQ + 1)))] uc) Kp)
 (∃ nm : Nat, (nm < cU) ∧
 Sz nm [(iV (IntKind.wrap .i64 (uQ + 1)))] kQ))
 (K (.tuple #[]) iH)))) Kp) :
 aa Tryz.prog 217 #[.pointer (some ⟨b0, o0, none⟩), .int .i64 x1, .pointer (some ⟨b2, o2, none⟩), .agg #[.int .i64 da, .int .i64 dc, .int .i64 de, .int .i64 dg]] M K Kp := vw [(1, .bL [0, 1, 3, 7, 0, 16, 63, 127, 255, 511, 1023, 1023, 1023, 2047, 12287, 32767] (sy [0, 1, 2, 4, 3, 5, 6, 7, 8, 9, 10, 11, 12, 13, 14, 15] .done)), (2000001, .loop [(37, .c (.int .i64))]), (9, .bL [0, 1, 3, 7, 0, 16, 63, 127, 255, 511, 1023, 2047] (sy [0, 1, 2, 4, 3, 5, 6, 7, 8, 9, 10, 11] .done))] Tryz.func217 h
theorem mo {b0 o0 : Nat} {x1 : Int} {b2 o2 : Nat} {da : Int} {dc : Int} {de : Int} {dg : Int} (h :
aX M (cl [(iV da), (iV dc), (iV de), (iV dg)] 27) fun k1 M2 =>
rI M2 k1 1 fun n3 =>
(0 ≤ n3) ∧
(n3 < 8) ∧
rI M2 b2 ((o2 + 2) + (Int.toNat n3)) fun n4 =>
aK (decide (((if (1048576 : Int) < n4 then 1048576 else n4) : Int) > 0))
 (rU M2 b0 (o0 + 5) fun n5 =>
 aa Tryz.prog 244 #[(.pointer (some ⟨b0, (o0 + 8), none⟩)), (.int .u64 (IntKind.wrap .u64 (n5 + (IntKind.wrap .u64 (if (1048576 : Int) < n4 then 1048576 else n4))))), (iV x1)] M2 (fun v6 M7 =>
 aE (some v6) .u64 fun n8 =>
 rS M7 b0 (o0 + 4) fun A9 cX cN =>
 ((0 : Int) ≤ x1) ∧
 ((x1 : Int) < cX) ∧
 az A9 fun di cI =>
 rP M7 di (cI + (Int.toNat x1)) fun gz =>
 az gz fun eV dk =>
 sT M7 eV dk (iV 3) fun l6 =>
 K (.tuple #[]) l6) Kp)
 (K (.tuple #[]) M2)) :
 aa Tryz.prog 218 #[.pointer (some ⟨b0, o0, none⟩), .int .i64 x1, .pointer (some ⟨b2, o2, none⟩), .agg #[.int .i64 da, .int .i64 dc, .int .i64 de, .int .i64 dg]] M K Kp := vw [(1, .bL [0, 0, 2, 1, 9, 31, 63, 127, 255] (sy [0, 1, 3, 4, 2, 5, 6, 7, 8] .done)), (3, .bL [0, 1, 3, 0, 8, 24, 56, 0, 128, 504, 0, 2047] (sy [0, 1, 2, 3, 4, 5, 7, 8, 10, 6, 9, 11] .done))] Tryz.func218 h
theorem nG {b0 o0 : Nat} {x1 : Int} {b2 o2 : Nat} {da : Int} {dc : Int} {de : Int} {dg : Int} (h :
aX M (cl [(iV da), (iV dc), (iV de), (iV dg)] 27) fun k1 M2 =>
rS M2 b0 (o0 + 7) fun A3 k4 k5 =>
rI M2 k1 1 fun n6 =>
(0 ≤ n6) ∧
(n6 < k4) ∧
az A3 fun k7 k8 =>
rP M2 k7 (k8 + (Int.toNat n6)) fun A9 =>
aa Tryz.prog 245 #[(.pointer A9), (iV x1)] M2 (fun v10 iW =>
cY (some v10) fun t12 =>
aK (!t12)
 (rI iW k1 0 fun gG =>
 rI iW k1 1 fun ot =>
 rI iW k1 2 fun fk =>
 rI iW k1 3 fun jf =>
 aa Tryz.prog 208 #[(.pointer (some ⟨b0, o0, none⟩)), (iV x1), (.agg #[(iV gG), (iV ot), (iV fk), (iV jf)])] iW (fun Nj kP =>
 (Nj = (.tuple #[])) ∧
 K (.tuple #[]) kP) Kp)
 (K (.tuple #[]) iW)) Kp) :
 aa Tryz.prog 219 #[.pointer (some ⟨b0, o0, none⟩), .int .i64 x1, .pointer (some ⟨b2, o2, none⟩), .agg #[.int .i64 da, .int .i64 dc, .int .i64 de, .int .i64 dg]] M K Kp := vw [(1, .bL [0, 1, 3, 7, 0, 16, 63, 127, 0, 511, 1023] (sy [0, 1, 2, 4, 8, 3, 5, 6, 7, 9, 10] .done))] Tryz.func219 h
theorem lg {b0 o0 : Nat} {x1 : Int} {b2 o2 : Nat} {da : Int} {dc : Int} {de : Int} {dg : Int} (h :
aX M (cl [(iV da), (iV dc), (iV de), (iV dg)] 27) fun k1 M2 =>
rS M2 b0 (o0 + 7) fun A3 k4 k5 =>
rI M2 k1 1 fun n6 =>
(0 ≤ n6) ∧
(n6 < k4) ∧
az A3 fun k7 k8 =>
rP M2 k7 (k8 + (Int.toNat n6)) fun A9 =>
aa Tryz.prog 246 #[(.pointer A9), (iV x1)] M2 (fun v10 iW =>
∃ ek gG : Int, (v10 = (.tuple #[(iV ek), (iV gG)])) ∧
aK (gG != 0)
 (Kp [{ v := (.iface 340 (iV (-3))), recovered := false }] iW)
 (aK (ek != (-1))
 (aa Tryz.prog 158 #[(.pointer (some ⟨b0, o0, none⟩)), (iV ek)] iW (fun QL pK =>
 (QL = (.tuple #[])) ∧
 K (.tuple #[]) pK) Kp)
 (K (.tuple #[]) iW))) Kp) :
 aa Tryz.prog 220 #[.pointer (some ⟨b0, o0, none⟩), .int .i64 x1, .pointer (some ⟨b2, o2, none⟩), .agg #[.int .i64 da, .int .i64 dc, .int .i64 de, .int .i64 dg]] M K Kp := vw [(1, .bL [0, 1, 3, 7, 0, 16, 63, 127, 0, 511, 1023, 2047, 2047, 4095, 16383] (sy [0, 1, 2, 4, 8, 3, 5, 6, 7, 9, 10, 11, 12, 13, 14] .done))] Tryz.func220 h
theorem nH {b0 o0 : Nat} {x1 : Int} {b2 o2 : Nat} {da : Int} {dc : Int} {de : Int} {dg : Int} (h :
aX M (cl [(iV da), (iV dc), (iV de), (iV dg)] 27) fun k1 M2 =>
rS M2 b0 (o0 + 10) fun A3 k4 k5 =>
aK (decide ((k4 : Int) ≥ 1000))
 (Kp [{ v := (.iface 340 (iV (-6))), recovered := false }] M2)
 (rS M2 b0 (o0 + 10) fun A6 k7 k8 =>
 rI M2 k1 1 fun n9 =>
 (0 ≤ n9) ∧
 (n9 < 8) ∧
 rI M2 b2 ((o2 + 2) + (Int.toNat n9)) fun gA =>
 aX M2 (cl [(iV gA)] 2) fun cN ri =>
 aA 53 A6 k7 k8 (some ⟨cN, 0, none⟩) 1 1 ri (fun BS jz =>
 ay (some BS) fun oK dk dm =>
 sT jz b0 (o0 + 10) (.slice oK dk dm) fun kP =>
 K (.tuple #[]) kP) Kp)) :
 aa Tryz.prog 221 #[.pointer (some ⟨b0, o0, none⟩), .int .i64 x1, .pointer (some ⟨b2, o2, none⟩), .agg #[.int .i64 da, .int .i64 dc, .int .i64 de, .int .i64 dg]] M K Kp := vw [(3, .bL [0, 0, 2, 6, 14, 0, 0, 64, 32, 288, 992, 2016, 4064, 8190, 16383, 32767, 65535] (sy [0, 1, 2, 3, 5, 6, 8, 9, 4, 7, 10, 11, 12, 13, 14, 15, 16] .done))] Tryz.func221 h
theorem nI {b0 o0 : Nat} {x1 : Int} {b2 o2 : Nat} {da : Int} {dc : Int} {de : Int} {dg : Int} (h :
aX M (cl [(iV da), (iV dc), (iV de), (iV dg)] 27) fun k1 M2 =>
rI M2 k1 1 fun n3 =>
Kp [{ v := (.iface 340 (iV n3)), recovered := false }] M2) :
 aa Tryz.prog 222 #[.pointer (some ⟨b0, o0, none⟩), .int .i64 x1, .pointer (some ⟨b2, o2, none⟩), .agg #[.int .i64 da, .int .i64 dc, .int .i64 de, .int .i64 dg]] M K Kp := vw [] Tryz.func222 h
theorem qn {b0 o0 : Nat} {x1 : Int} {x2 : Int} (h :
ay (Mem.ld M ⟨b0, o0, none⟩) fun A1 k2 k3 =>
ay (Mem.ld M ⟨b0, o0, none⟩) fun A4 k5 k6 =>
ay (Mem.ld M ⟨b0, o0, none⟩) fun A7 k8 k9 =>
((0 : Int) ≤ x2) ∧
((x2 : Int) < ((k8 : Nat) : Int)) ∧
az A7 fun cX cN =>
aE (Mem.ld M ⟨cX, (cN + ((Int.toNat x2) * 3)), none⟩) .u64 fun ek =>
aE (Mem.ld M ⟨cX, ((cN + ((Int.toNat x2) * 3)) + 1), none⟩) .u64 fun gG =>
aE (Mem.ld M ⟨cX, ((cN + ((Int.toNat x2) * 3)) + 2), none⟩) .i64 fun ot =>
ay (Mem.ld M ⟨b0, o0, none⟩) fun oK dk dm =>
((0 : Int) ≤ x1) ∧
((x1 : Int) < ((dk : Nat) : Int)) ∧
az oK fun dK gN =>
aE (Mem.ld M ⟨dK, (gN + ((Int.toNat x1) * 3)), none⟩) .u64 fun eP =>
aE (Mem.ld M ⟨dK, ((gN + ((Int.toNat x1) * 3)) + 1), none⟩) .u64 fun jY =>
aE (Mem.ld M ⟨dK, ((gN + ((Int.toNat x1) * 3)) + 2), none⟩) .i64 fun kT =>
((0 : Int) ≤ x1) ∧
((x1 : Int) < ((k2 : Nat) : Int)) ∧
az A1 fun hO kU =>
aF M ⟨hO, (kU + ((Int.toNat x1) * 3)), none⟩ (.int .u64 ek) fun ud =>
aF ud ⟨hO, ((kU + ((Int.toNat x1) * 3)) + 1), none⟩ (.int .u64 gG) fun uf =>
aF uf ⟨hO, ((kU + ((Int.toNat x1) * 3)) + 2), none⟩ (.int .i64 ot) fun ou =>
((0 : Int) ≤ x2) ∧
((x2 : Int) < ((k5 : Nat) : Int)) ∧
az A4 fun nv m5 =>
aF ou ⟨nv, (m5 + ((Int.toNat x2) * 3)), none⟩ (.int .u64 eP) fun mZ =>
aF mZ ⟨nv, ((m5 + ((Int.toNat x2) * 3)) + 1), none⟩ (.int .u64 jY) fun QK =>
aF QK ⟨nv, ((m5 + ((Int.toNat x2) * 3)) + 2), none⟩ (.int .i64 kT) fun m6 =>
K (.tuple #[]) m6) :
 aa Tryz.prog 154 ([.pointer (some ⟨b0, o0, none⟩), .int .i64 x1, .int .i64 x2] : List Value).toArray M K Kp :=
 bV (C := Cx) good [(0, .bL [0, 1, 3, 7, 0, 0, 32, 96, 224, 0, 0, 1024, 3072, 7168, 0, 31744, 64512, 0, 131072, 393216, 917504, 0, 4063232, 8257536, 16776703, 33553919, 67108863, 134217727] (.step 0 (.step 1 (.step 2 (.step 4 (.step 5 (.step 6 (.step 7 (.step 9 (.step 10 (.step 11 (.step 12 (.step 14 (.step 17 (.step 18 (.step 19 (.step 21 (.step 3 (.step 8 (.step 13 (.step 15 (.step 16 (.step 20 (.step 22 (.step 23 (.step 24 (.step 25 (.step 26 (.step 27 .done)))))))))))))))))))))))))))))] Tryz.func154 (by kernel_rfl) (by kernel_rfl) h
theorem qo {b0 o0 : Nat} {x1 : Int} (h :
aa Tryz.prog 186 #[(.pointer (some ⟨b0, o0, none⟩)), (iV x1)] M (fun v1 M2 =>
aE (some v1) .i64 fun n3 =>
∃ I4 : IT, (∃ k5, I4 k5 [(iV x1), (iV n3)] M2) ∧
∀ (k6 : Nat) (_ : Nat → Value) (n8 : Int) (n9 : Int) (iQ : Mem), (I4 k6 [(iV n8), (iV n9)] iQ) → aK (n9 != n8)
 (aa Tryz.prog 154 #[(.pointer (some ⟨b0, o0, none⟩)), (iV n8), (iV n9)] iQ (fun v11 ri =>
 (v11 = (.tuple #[])) ∧
 aa Tryz.prog 186 #[(.pointer (some ⟨b0, o0, none⟩)), (iV n9)] ri (fun BS jz =>
 aE (some BS) .i64 fun fk =>
 ∃ dk : Nat, (dk < k6) ∧
 I4 dk [(iV n9), (iV fk)] jz) Kp) Kp)
 (K (.tuple #[]) iQ)) Kp) :
 aa Tryz.prog 155 #[.pointer (some ⟨b0, o0, none⟩), .int .i64 x1] M K Kp := vw [(2000000, .loop [(1, .c (.int .i64)), (4, .c (.int .i64))])] Tryz.func155 h
theorem tI {b0 o0 : Nat} {x1 : Int} (h :
∃ I1 : Nat → List Value → Mem → Prop, (∃ k2 : Nat, I1 k2 [(.int .i64 x1)] M) ∧
∀ k3 : Nat, ∀ LM : Nat → Value, ∀ n5 : Int, ∀ M6 : Mem, (I1 k3 [(.int .i64 n5)] M6) → aK (decide ((n5 : Int) > 0))
 (((4 : Int) ≠ 0) ∧
 ay (Mem.ld M6 ⟨b0, o0, none⟩) fun A7 k8 k9 =>
 ((0 : Int) ≤ n5) ∧
 ((n5 : Int) < ((k8 : Nat) : Int)) ∧
 az A7 fun cX cN =>
 aE (Mem.ld M6 ⟨cX, (cN + ((Int.toNat n5) * 3)), none⟩) .u64 fun ek =>
 aE (Mem.ld M6 ⟨cX, ((cN + ((Int.toNat n5) * 3)) + 1), none⟩) .u64 fun gG =>
 aE (Mem.ld M6 ⟨cX, ((cN + ((Int.toNat n5) * 3)) + 2), none⟩) .i64 fun ot =>
 ay (Mem.ld M6 ⟨b0, o0, none⟩) fun oK dk dm =>
 ((0 : Int) ≤ (IntKind.wrap .i64 (Int.tdiv (IntKind.wrap .i64 (n5 - 1)) 4))) ∧
 (((IntKind.wrap .i64 (Int.tdiv (IntKind.wrap .i64 (n5 - 1)) 4)) : Int) < ((dk : Nat) : Int)) ∧
 az oK fun dK gN =>
 aE (Mem.ld M6 ⟨dK, (gN + ((Int.toNat (IntKind.wrap .i64 (Int.tdiv (IntKind.wrap .i64 (n5 - 1)) 4))) * 3)), none⟩) .u64 fun eP =>
 aE (Mem.ld M6 ⟨dK, ((gN + ((Int.toNat (IntKind.wrap .i64 (Int.tdiv (IntKind.wrap .i64 (n5 - 1)) 4))) * 3)) + 1), none⟩) .u64 fun jY =>
 aE (Mem.ld M6 ⟨dK, ((gN + ((Int.toNat (IntKind.wrap .i64 (Int.tdiv (IntKind.wrap .i64 (n5 - 1)) 4))) * 3)) + 2), none⟩) .i64 fun kT =>
 aa Tryz.prog 187 #[(.agg #[(.int .u64 ek), (.int .u64 gG), (.int .i64 ot)]), (.agg #[(.int .u64 eP), (.int .u64 jY), (.int .i64 kT)])] M6 (fun QA iH =>
 cY (some QA) fun t25 =>
 aK t25
  (((4 : Int) ≠ 0) ∧
  aa Tryz.prog 154 #[(.pointer (some ⟨b0, o0, none⟩)), (.int .i64 n5), (.int .i64 (IntKind.wrap .i64 (Int.tdiv (IntKind.wrap .i64 (n5 - 1)) 4)))] iH (fun MY ou =>
  (MY = (.tuple #[])) ∧
  ((4 : Int) ≠ 0) ∧
  ∃ nv : Nat, (nv < k3) ∧
  I1 nv [(.int .i64 (IntKind.wrap .i64 (Int.tdiv (IntKind.wrap .i64 (n5 - 1)) 4)))] ou) Kp)
  (K (.tuple #[]) iH)) Kp)
 (K (.tuple #[]) M6)) :
 aa Tryz.prog 156 ([.pointer (some ⟨b0, o0, none⟩), .int .i64 x1] : List Value).toArray M K Kp :=
 bV (C := Cx) good [(2000000, .loop [(1, .c (.int .i64))]), (0, .bL [0, 1, 3, 7, 15, 31, 63, 7, 255, 511, 7, 1031, 3079, 7175, 7, 16391, 49159, 130055, 261127, 524287, 1048575] (.step 0 (.step 1 (.step 2 (.step 3 (.step 4 (.step 5 (.step 7 (.step 10 (.step 11 (.step 12 (.step 14 (.step 15 (.step 16 (.step 6 (.step 8 (.step 9 (.step 13 (.step 17 (.step 18 (.step 19 (.step 20 .done))))))))))))))))))))))] Tryz.func156 (by kernel_rfl) (by kernel_rfl) h
theorem oW {b0 o0 : Nat} {bP : Int} {bQ : Int} {bR : Int} {c9 : Int} (h :
aX M (cl [(iV bP), (iV bQ), (iV bR), (iV c9)] 27) fun k1 M2 =>
K (.tuple #[]) M2) :
 aa Tryz.prog 225 #[.pointer (some ⟨b0, o0, none⟩), .agg #[.int .i64 bP, .int .i64 bQ, .int .i64 bR, .int .i64 c9]] M K Kp := vw [] Tryz.func225 h
theorem jP {b0 o0 : Nat} {bP : Int} {bQ : Int} {bR : Int} {c9 : Int} (h :
aX M (cl [(iV bP), (iV bQ), (iV bR), (iV c9)] 27) fun k1 M2 =>
rI M2 k1 1 fun n3 =>
rI M2 k1 2 fun n4 =>
(0 ≤ n3) ∧
(n3 < 8) ∧
sT M2 b0 ((o0 + 2) + (Int.toNat n3)) (iV n4) fun M5 =>
K (.tuple #[]) M5) :
 aa Tryz.prog 226 #[.pointer (some ⟨b0, o0, none⟩), .agg #[.int .i64 bP, .int .i64 bQ, .int .i64 bR, .int .i64 c9]] M K Kp := vw [(1, .bL [0, 0, 2, 0, 8, 1, 33, 127, 255] (sy [0, 1, 3, 5, 6, 2, 4, 7, 8] .done))] Tryz.func226 h
theorem nJ {b0 o0 : Nat} {bP : Int} {bQ : Int} {bR : Int} {c9 : Int} (h :
aX M (cl [(iV bP), (iV bQ), (iV bR), (iV c9)] 27) fun k1 M2 =>
rI M2 k1 1 fun n3 =>
rI M2 k1 2 fun n4 =>
(0 ≤ n4) ∧
(n4 < 8) ∧
rI M2 b0 ((o0 + 2) + (Int.toNat n4)) fun n5 =>
(0 ≤ n3) ∧
(n3 < 8) ∧
sT M2 b0 ((o0 + 2) + (Int.toNat n3)) (iV n5) fun M6 =>
K (.tuple #[]) M6) :
 aa Tryz.prog 227 #[.pointer (some ⟨b0, o0, none⟩), .agg #[.int .i64 bP, .int .i64 bQ, .int .i64 bR, .int .i64 c9]] M K Kp := vw [(1, .bL [0, 0, 2, 0, 0, 16, 8, 72, 248, 504, 1, 1025, 4095, 8191] (sy [0, 1, 3, 4, 6, 7, 10, 11, 2, 5, 8, 9, 12, 13] .done))] Tryz.func227 h
theorem oX {b0 o0 : Nat} {bP : Int} {bQ : Int} {bR : Int} {c9 : Int} (h :
aX M (cl [(iV bP), (iV bQ), (iV bR), (iV c9)] 27) fun k1 M2 =>
rI M2 k1 1 fun n3 =>
rI M2 k1 2 fun n4 =>
(0 ≤ n4) ∧
(n4 < 8) ∧
rI M2 b0 ((o0 + 2) + (Int.toNat n4)) fun n5 =>
rI M2 k1 3 fun n6 =>
(0 ≤ n6) ∧
(n6 < 8) ∧
rI M2 b0 ((o0 + 2) + (Int.toNat n6)) fun n7 =>
(0 ≤ n3) ∧
(n3 < 8) ∧
sT M2 b0 ((o0 + 2) + (Int.toNat n3)) (iV (IntKind.wrap .i64 (n5 + n7))) fun M8 =>
K (.tuple #[]) M8) :
 aa Tryz.prog 228 #[.pointer (some ⟨b0, o0, none⟩), .agg #[.int .i64 bP, .int .i64 bQ, .int .i64 bR, .int .i64 c9]] M K Kp := vw [(1, .bL [0, 0, 2, 0, 0, 16, 8, 72, 248, 504, 0, 0, 2048, 1024, 9216, 31744, 64512, 131064, 1, 262145, 1048575, 2097151] (sy [0, 1, 3, 4, 6, 7, 10, 11, 13, 14, 18, 19, 2, 5, 8, 9, 12, 15, 16, 17, 20, 21] .done))] Tryz.func228 h
theorem oY {b0 o0 : Nat} {bP : Int} {bQ : Int} {bR : Int} {c9 : Int} (h :
aX M (cl [(iV bP), (iV bQ), (iV bR), (iV c9)] 27) fun k1 M2 =>
rI M2 k1 1 fun n3 =>
rI M2 k1 2 fun n4 =>
(0 ≤ n4) ∧
(n4 < 8) ∧
rI M2 b0 ((o0 + 2) + (Int.toNat n4)) fun n5 =>
rI M2 k1 3 fun n6 =>
(0 ≤ n6) ∧
(n6 < 8) ∧
rI M2 b0 ((o0 + 2) + (Int.toNat n6)) fun n7 =>
(0 ≤ n3) ∧
(n3 < 8) ∧
sT M2 b0 ((o0 + 2) + (Int.toNat n3)) (iV (IntKind.wrap .i64 (n5 - n7))) fun M8 =>
K (.tuple #[]) M8) :
 aa Tryz.prog 229 #[.pointer (some ⟨b0, o0, none⟩), .agg #[.int .i64 bP, .int .i64 bQ, .int .i64 bR, .int .i64 c9]] M K Kp := vw [(1, .bL [0, 0, 2, 0, 0, 16, 8, 72, 248, 504, 0, 0, 2048, 1024, 9216, 31744, 64512, 131064, 1, 262145, 1048575, 2097151] (sy [0, 1, 3, 4, 6, 7, 10, 11, 13, 14, 18, 19, 2, 5, 8, 9, 12, 15, 16, 17, 20, 21] .done))] Tryz.func229 h
theorem oZ {b0 o0 : Nat} {bP : Int} {bQ : Int} {bR : Int} {c9 : Int} (h :
aX M (cl [(iV bP), (iV bQ), (iV bR), (iV c9)] 27) fun k1 M2 =>
rI M2 k1 1 fun n3 =>
rI M2 k1 2 fun n4 =>
(0 ≤ n4) ∧
(n4 < 8) ∧
rI M2 b0 ((o0 + 2) + (Int.toNat n4)) fun n5 =>
rI M2 k1 3 fun n6 =>
(0 ≤ n6) ∧
(n6 < 8) ∧
rI M2 b0 ((o0 + 2) + (Int.toNat n6)) fun n7 =>
(0 ≤ n3) ∧
(n3 < 8) ∧
sT M2 b0 ((o0 + 2) + (Int.toNat n3)) (iV (IntKind.wrap .i64 (n5 * n7))) fun M8 =>
K (.tuple #[]) M8) :
 aa Tryz.prog 230 #[.pointer (some ⟨b0, o0, none⟩), .agg #[.int .i64 bP, .int .i64 bQ, .int .i64 bR, .int .i64 c9]] M K Kp := vw [(1, .bL [0, 0, 2, 0, 0, 16, 8, 72, 248, 504, 0, 0, 2048, 1024, 9216, 31744, 64512, 131064, 1, 262145, 1048575, 2097151] (sy [0, 1, 3, 4, 6, 7, 10, 11, 13, 14, 18, 19, 2, 5, 8, 9, 12, 15, 16, 17, 20, 21] .done))] Tryz.func230 h
theorem nK {b0 o0 : Nat} {bP : Int} {bQ : Int} {bR : Int} {c9 : Int} (h :
aX M (cl [(iV bP), (iV bQ), (iV bR), (iV c9)] 27) fun k1 M2 =>
rI M2 k1 2 fun n3 =>
(0 ≤ n3) ∧
(n3 < 8) ∧
rI M2 b0 ((o0 + 2) + (Int.toNat n3)) fun n4 =>
rI M2 k1 3 fun n5 =>
(0 ≤ n5) ∧
(n5 < 8) ∧
rI M2 b0 ((o0 + 2) + (Int.toNat n5)) fun n6 =>
rI M2 k1 1 fun n7 =>
(0 ≤ n7) ∧
(n7 < 8) ∧
sT M2 b0 ((o0 + 2) + (Int.toNat n7)) (iV 0) fun M8 =>
aK (decide (n4 < n6))
 (rI M8 k1 1 fun n9 =>
 (0 ≤ n9) ∧
 (n9 < 8) ∧
 sT M8 b0 ((o0 + 2) + (Int.toNat n9)) (iV 1) fun iQ =>
 K (.tuple #[]) iQ)
 (K (.tuple #[]) M8)) :
 aa Tryz.prog 231 #[.pointer (some ⟨b0, o0, none⟩), .agg #[.int .i64 bP, .int .i64 bQ, .int .i64 bR, .int .i64 c9]] M K Kp := vw [(1, .bL [0, 0, 2, 1, 9, 31, 63, 0, 0, 256, 128, 1152, 3968, 8064, 16383, 32767] (sy [0, 1, 3, 4, 7, 8, 10, 11, 2, 5, 6, 9, 12, 13, 14, 15] .done)), (2, .bL [0, 0, 2, 1, 9, 31, 63] (sy [0, 1, 3, 4, 2, 5, 6] .done)), (4, .bL [0, 0, 2, 1, 9, 31, 63] (sy [0, 1, 3, 4, 2, 5, 6] .done))] Tryz.func231 h
theorem nL {b0 o0 : Nat} {bP : Int} {bQ : Int} {bR : Int} {c9 : Int} (h :
aX M (cl [(iV bP), (iV bQ), (iV bR), (iV c9)] 27) fun k1 M2 =>
rI M2 k1 1 fun n3 =>
sT M2 b0 (o0 + 1) (iV n3) fun M4 =>
K (.tuple #[]) M4) :
 aa Tryz.prog 232 #[.pointer (some ⟨b0, o0, none⟩), .agg #[.int .i64 bP, .int .i64 bQ, .int .i64 bR, .int .i64 c9]] M K Kp := vw [] Tryz.func232 h
theorem lj {b0 o0 : Nat} {bP : Int} {bQ : Int} {bR : Int} {c9 : Int} (h :
aX M (cl [(iV bP), (iV bQ), (iV bR), (iV c9)] 27) fun k1 M2 =>
rI M2 k1 1 fun n3 =>
(0 ≤ n3) ∧
(n3 < 8) ∧
rI M2 b0 ((o0 + 2) + (Int.toNat n3)) fun n4 =>
aK (n4 != 0)
 (rI M2 k1 2 fun n5 =>
 sT M2 b0 (o0 + 1) (iV n5) fun M6 =>
 K (.tuple #[]) M6)
 (K (.tuple #[]) M2)) :
 aa Tryz.prog 233 #[.pointer (some ⟨b0, o0, none⟩), .agg #[.int .i64 bP, .int .i64 bQ, .int .i64 bR, .int .i64 c9]] M K Kp := vw [(1, .bL [0, 0, 2, 1, 9, 31, 63, 127] (sy [0, 1, 3, 4, 2, 5, 6, 7] .done))] Tryz.func233 h
theorem jQ {b0 o0 : Nat} {bP : Int} {bQ : Int} {bR : Int} {x2 : Int} (h :
aX M (cl [(iV bP), (iV bQ), (iV bR)] 280) fun k1 M2 =>
rS M2 b0 (o0 + 4) fun A3 k4 k5 =>
rI M2 k1 0 fun n6 =>
(0 ≤ n6) ∧
(n6 < k4) ∧
az A3 fun k7 k8 =>
rP M2 k7 (k8 + (Int.toNat n6)) fun A9 =>
az A9 fun cX cN =>
rS M2 cX (cN + 1) fun wO cI gS =>
rS M2 b0 (o0 + 4) fun oK dk dm =>
rI M2 k1 0 fun fy =>
(0 ≤ fy) ∧
(fy < dk) ∧
az oK fun gN iT =>
rP M2 gN (iT + (Int.toNat fy)) fun wT =>
az wT fun eX hO =>
gM M2 eX (hO + 2) fun zD m7 m8 tF =>
(True) ∧
aa Tryz.prog 189 #[(.slice wO cI gS)] M2 (fun J7 iR =>
cz (some J7) fun QB =>
((Mem.dP iR ⟨eX, (hO + 2), none⟩ 0 4) = some [(iV zD), (iV m7), (iV m8), (iV tF)]) ∧
((Mem.ld iR ⟨gN, (iT + (Int.toNat fy)), none⟩) = (some (.pointer wT))) ∧
eI iR k1 0 fy ∧
((Mem.ld iR ⟨b0, (o0 + 4), none⟩) = (some (.slice oK dk dm))) ∧
az QB fun nt l8 =>
aX iR rQ fun kX kQ =>
MT kQ kX (iV zD) (iV m7) (iV m8) (iV tF) fun kO =>
((Mem.dP kO ⟨eX, (hO + 2), none⟩ 0 4) = some [(iV zD), (iV m7), (iV m8), (iV tF)]) ∧
((Mem.ld kO ⟨gN, (iT + (Int.toNat fy)), none⟩) = (some (.pointer wT))) ∧
eI kO k1 0 fy ∧
((Mem.ld kO ⟨b0, (o0 + 4), none⟩) = (some (.slice oK dk dm))) ∧
rI kO kX 0 fun yM =>
aK (yM == 16)
 (rS kO b0 (o0 + 3) fun LB xP Ap =>
 rI kO kX 1 fun pF =>
 rI kO k1 1 fun sW =>
 ((0 : Int) ≤ (IntKind.wrap .i64 (pF + sW))) ∧
 (((IntKind.wrap .i64 (pF + sW)) : Int) < (xP : Int)) ∧
 az LB fun E2 E3 =>
 rI kO E2 ((E3 + ((Int.toNat (IntKind.wrap .i64 (pF + sW))) * 3)) + 2) fun ru =>
 rI kO k1 2 fun BX =>
 (0 ≤ ru) ∧
 (ru < 8) ∧
 sT kO nt ((l8 + 2) + (Int.toNat ru)) (iV BX) fun tC =>
 rII tC k1 0 fun HB zE =>
 aa Tryz.prog 251 #[(.pointer (some ⟨b0, o0, none⟩)), (iV HB), (iV zE)] tC (fun v52 E9 =>
 (v52 = (.tuple #[])) ∧
 rI E9 k1 0 fun Jt =>
 aa Tryz.prog 158 #[(.pointer (some ⟨b0, o0, none⟩)), (iV Jt)] E9 (fun Qw Qx =>
 (Qw = (.tuple #[])) ∧
 K (.tuple #[]) Qx) Kp) Kp)
 (rI kO kX 2 fun BY =>
 rI kO k1 2 fun zC =>
 (0 ≤ BY) ∧
 (BY < 8) ∧
 rI kO kX 3 fun yN =>
 sT kO nt ((l8 + 2) + (Int.toNat BY)) (iV zC) fun Aq =>
 eI Aq kX 3 yN ∧
 (0 ≤ yN) ∧
 (yN < 8) ∧
 sT Aq nt ((l8 + 2) + (Int.toNat yN)) (iV x2) fun yO =>
 eI yO kX 3 yN ∧
 rI yO k1 0 fun Kg =>
 aa Tryz.prog 158 #[(.pointer (some ⟨b0, o0, none⟩)), (iV Kg)] yO (fun v63 HF =>
 (v63 = (.tuple #[])) ∧
 K (.tuple #[]) HF) Kp)) Kp) :
 aa Tryz.prog 238 #[.pointer (some ⟨b0, o0, none⟩), .agg #[.int .i64 bP, .int .i64 bQ, .int .i64 bR], .int .i64 x2] M K Kp := vw [(1, .bL [0, 1, 3, 7, 0, 16, 63, 127, 255, 511, 1023, 0, 2048, 6144, 14336, 0, 32768, 129024, 260096, 522240, 1046528, 2095104, 4192256, 8386560, 16775168, 0, 41943039, 134217727] (sy [0, 1, 2, 4, 11, 12, 13, 15, 14, 16, 17, 18, 19, 20, 21] (.eo 3 (.eo 5 (sy [6] (.eo 7 (sy [8, 9] (.eo 10 (.late 22 (sy [23, 24, 25, 26, 27] .done)))))))))), (3, .bL [0, 0, 2, 6, 14, 30, 0, 64, 0, 256, 960, 2046, 4094, 8190, 0, 16384, 1, 131071, 262143] (sy [0, 1, 2, 3, 4, 6, 8, 14, 16, 5, 7, 9, 10, 11, 12, 13, 15, 17, 18] .done)), (5, .bL [0, 0, 2, 0, 0, 16, 0, 64, 0, 1, 711, 1735, 8, 8191, 16383] (sy [0, 1, 3, 4, 6, 8, 9, 12, 2, 7, 10] (.eo 5 (sy [11, 13, 14] .done))))] Tryz.func238 h
theorem nN {b0 o0 : Nat} {bP : Int} {bQ : Int} {bR : Int} (h :
aX M (cl [(iV bP), (iV bQ), (iV bR)] 280) fun k1 M2 =>
rS M2 b0 (o0 + 4) fun A3 k4 k5 =>
rI M2 k1 0 fun n6 =>
(0 ≤ n6) ∧
(n6 < k4) ∧
az A3 fun k7 k8 =>
rP M2 k7 (k8 + (Int.toNat n6)) fun A9 =>
az A9 fun cX cN =>
rI M2 cX (cN + 2) fun ek =>
aK (ek == 16)
 (rI M2 k1 0 fun gG =>
 rI M2 k1 1 fun ot =>
 aa Tryz.prog 251 #[(.pointer (some ⟨b0, o0, none⟩)), (iV gG), (iV ot)] M2 (fun E7 dG =>
 (E7 = (.tuple #[])) ∧
 rI dG k1 0 fun fB =>
 aa Tryz.prog 158 #[(.pointer (some ⟨b0, o0, none⟩)), (iV fB)] dG (fun E1 jA =>
 (E1 = (.tuple #[])) ∧
 K (.tuple #[]) jA) Kp) Kp)
 (rI M2 k1 0 fun eP =>
 aa Tryz.prog 158 #[(.pointer (some ⟨b0, o0, none⟩)), (iV eP)] M2 (fun QM kx =>
 (QM = (.tuple #[])) ∧
 K (.tuple #[]) kx) Kp)) :
 aa Tryz.prog 240 #[.pointer (some ⟨b0, o0, none⟩), .agg #[.int .i64 bP, .int .i64 bQ, .int .i64 bR]] M K Kp := vw [(1, .bL [0, 1, 3, 7, 0, 16, 63, 127, 255, 511, 1023, 2047, 4095] (sy [0, 1, 2, 4, 3, 5, 6, 7, 8, 9, 10, 11, 12] .done))] Tryz.func240 h
theorem nO {B0 : Option Addr} {m0 c0 : Nat} {x1 : Int} {x2 : Int} {x3 : Int} (h :
aK (decide ((m0 : Int) ≥ 16))
 (K (.tuple #[(.slice B0 m0 c0), (.bool false)]) M)
 (((0 : Int) ≤ m0) ∧
 ((m0 : Int) ≤ c0) ∧
 ((0 : Int) ≤ m0) ∧
 ((m0 : Int) ≤ m0) ∧
 ((0 : Int) ≤ 0) ∧
 ((0 : Int) ≤ m0) ∧
 aX M (cl [(iV x1), (iV 0), (iV x2), (iV 0), (iV 0), (iV 0), (iV 0), (iV 0), (iV 0), (iV 0), (iV x3)] 275) fun k1 M2 =>
 bh Tryz.prog (Go.Builtin.append_ #[226, 226] 226 #[(.slice (iO B0 0 (Int.toNat (m0 : Int)) 11) ((Int.toNat (m0 : Int)) - 0) ((Int.toNat (m0 : Int)) - 0)), (.slice (some ⟨k1, 0, none⟩) 1 1)]) M2 (fun v3 M4 =>
 ay (some v3) fun A5 k6 k7 =>
 K (.tuple #[(.slice A5 k6 k7), (.bool true)]) M4) Kp)) :
 aa Tryz.prog 241 #[.slice B0 m0 c0, .int .i64 x1, .int .i64 x2, .int .i64 x3] M K Kp := vw [] Tryz.func241 h
theorem lp {B0 : Option Addr} {m0 c0 : Nat} {x1 : Int} (h :
aK (decide ((m0 : Int) < 2))
 (K (.tuple #[(.slice none 0 0), (.bool false)]) M)
 (aX M (cl [] 275) fun k1 M2 =>
 ((0 : Int) ≤ c0) ∧
 ((c0 : Int) ≤ c0) ∧
 ((0 : Int) ≤ (IntKind.wrap .i64 ((m0 : Int) - 1))) ∧
 (((IntKind.wrap .i64 ((m0 : Int) - 1)) : Int) ≤ (c0 : Int)) ∧
 ((0 : Int) ≤ 0) ∧
 ((0 : Int) ≤ (IntKind.wrap .i64 ((m0 : Int) - 1))) ∧
 bh Tryz.prog (Go.Builtin.append_ #[226, 226] 226 #[(.slice (some ⟨k1, 0, none⟩) 0 0), (.slice (iO B0 0 (Int.toNat (c0 : Int)) 11) ((Int.toNat (IntKind.wrap .i64 ((m0 : Int) - 1))) - 0) ((Int.toNat (c0 : Int)) - 0))]) M2 (fun v3 M4 =>
 ay (some v3) fun A5 k6 k7 =>
 aa Tryz.prog 189 #[(.slice A5 k6 k7)] M4 (fun v8 M9 =>
 cz (some v8) fun wz =>
 az wz fun cN di =>
 aa Tryz.prog 189 #[(.slice B0 m0 c0)] M9 (fun BS jz =>
 cz (some BS) fun oK =>
 az oK fun dk dm =>
 rI jz dk (dm + 10) fun fy =>
 (0 ≤ fy) ∧
 (fy < 8) ∧
 sT jz cN ((di + 2) + (Int.toNat fy)) (iV x1) fun jA =>
 K (.tuple #[(.slice A5 k6 k7), (.bool true)]) jA) Kp) Kp) Kp)) :
 aa Tryz.prog 242 #[.slice B0 m0 c0, .int .i64 x1] M K Kp := vw [(4, .bL [0, 1, 0, 7, 15, 31, 63, 0, 3, 259, 1023, 2047] (sy [0, 2, 7, 1, 8, 9, 3, 4, 5, 6, 10, 11] .done))] Tryz.func242 h
theorem qp {b0 o0 : Nat} {x1 : Int} {x2 : Int} (h :
ay (Mem.ld M ⟨b0, o0, none⟩) fun A1 k2 k3 =>
aE (Mem.ld M ⟨b0, (o0 + 1), none⟩) .u64 fun n4 =>
aX M (.cells #[(.int .u64 x1), (.int .u64 n4), (.int .i64 x2)] 203 (0, 0)) fun k5 M6 =>
bh Tryz.prog (Go.Builtin.append_ #[46, 46] 46 #[(.slice A1 k2 k3), (.slice (some ⟨k5, 0, none⟩) 1 1)]) M6 (fun v7 M8 =>
ay (some v7) fun A9 cX cN =>
aF M8 ⟨b0, o0, none⟩ (.slice A9 cX cN) fun ri =>
aE (Mem.ld ri ⟨b0, (o0 + 1), none⟩) .u64 fun gG =>
aF ri ⟨b0, (o0 + 1), none⟩ (.int .u64 (IntKind.wrap .u64 (gG + 1))) fun jz =>
ay (Mem.ld jz ⟨b0, o0, none⟩) fun oK dk dm =>
aa Tryz.prog 156 #[(.pointer (some ⟨b0, o0, none⟩)), (.int .i64 (IntKind.wrap .i64 (((dk : Nat) : Int) - 1)))] jz (fun E1 jA =>
(E1 = (.tuple #[])) ∧
aE (Mem.ld jA ⟨b0, (o0 + 1), none⟩) .u64 fun eP =>
K (.int .u64 (IntKind.wrap .u64 (eP - 1))) jA) Kp) Kp) :
 aa Tryz.prog 244 ([.pointer (some ⟨b0, o0, none⟩), .int .u64 x1, .int .i64 x2] : List Value).toArray M K Kp :=
 bV (C := Cx) good [(1, .bL [0, 0, 2, 6, 14, 0, 0, 64, 192, 448, 0, 2016, 4064, 8190, 16383, 32767, 65535] (.step 0 (.step 1 (.step 2 (.step 3 (.step 5 (.step 6 (.step 7 (.step 8 (.step 10 (.step 4 (.step 9 (.step 11 (.step 12 (.step 13 (.step 14 (.step 15 (.step 16 .done))))))))))))))))))] Tryz.func244 (by kernel_rfl) (by kernel_rfl) h
theorem o5 {b0 o0 : Nat} {x1 : Int} (h :
rI M b0 o0 fun n1 =>
aK (n1 != (-1))
 (rS M b0 (o0 + 1) fun A2 k3 k4 =>
 aX M (cl [(iV x1)] 3) fun k5 M6 =>
 aA 36 A2 k3 k4 (some ⟨k5, 0, none⟩) 1 1 M6 (fun v7 M8 =>
 ay (some v7) fun A9 cX cN =>
 sT M8 b0 (o0 + 1) (.slice A9 cX cN) fun ri =>
 K (.bool false) ri) Kp)
 (sT M b0 o0 (iV x1) fun jB =>
 K (.bool true) jB)) :
 aa Tryz.prog 245 #[.pointer (some ⟨b0, o0, none⟩), .int .i64 x1] M K Kp := vw [] Tryz.func245 h
theorem o6 {b0 o0 : Nat} {x1 : Int} (h :
rI M b0 o0 fun n1 =>
aK (n1 == (-1))
 (K (.tuple #[(iV (-1)), (iV 5)]) M)
 (rI M b0 o0 fun n2 =>
 aK (n2 != x1)
 (K (.tuple #[(iV (-1)), (iV 5)]) M)
 (sT M b0 o0 (iV (-1)) fun M3 =>
 rS M3 b0 (o0 + 1) fun A4 k5 k6 =>
 aK (decide ((k5 : Int) > 0))
 (rS M3 b0 (o0 + 1) fun A7 k8 k9 =>
 ((0 : Int) ≤ 0) ∧
 ((0 : Int) < k8) ∧
 az A7 fun cX cN =>
 rI M3 cX (cN + 0) fun ek =>
 sT M3 b0 o0 (iV ek) fun jB =>
 aX jB (cl [] 3) fun gS pK =>
 rS pK b0 (o0 + 1) fun LN dm dK =>
 ((0 : Int) ≤ dK) ∧
 ((dK : Int) ≤ dK) ∧
 ((0 : Int) ≤ dm) ∧
 ((dm : Int) ≤ dK) ∧
 ((0 : Int) ≤ 1) ∧
 ((1 : Int) ≤ dm) ∧
 bh Tryz.prog (Go.Builtin.append_ #[36, 36] 36 #[(.slice (some ⟨gS, 0, none⟩) 0 0), (.slice (iO LN 1 (Int.toNat (dK : Int)) 1) ((Int.toNat (dm : Int)) - 1) ((Int.toNat (dK : Int)) - 1))]) pK (fun Ke oM =>
 ay (some Ke) fun wT eX hO =>
 sT oM b0 (o0 + 1) (.slice wT eX hO) fun iH =>
 rI iH b0 o0 fun m7 =>
 K (.tuple #[(iV m7), (iV 0)]) iH) Kp)
 (rI M3 b0 o0 fun m8 =>
 K (.tuple #[(iV m8), (iV 0)]) M3)))) :
 aa Tryz.prog 246 #[.pointer (some ⟨b0, o0, none⟩), .int .i64 x1] M K Kp := vw [] Tryz.func246 h
theorem o7 {b0 o0 : Nat} {x1 : Int} (h :
∃ I1 : Nat → List Value → Mem → Prop, (∃ k2 : Nat, I1 k2 [(.int .i64 x1), (.int .i64 (IntKind.wrap .i64 ((IntKind.wrap .i64 (4 * x1)) + 1)))] M) ∧
∀ k3 : Nat, ∀ LM : Nat → Value, ∀ n5 : Int, ∀ n6 : Int, ∀ M7 : Mem, (I1 k3 [(.int .i64 n5), (.int .i64 n6)] M7) → aK (decide ((n6 : Int) ≤ (IntKind.wrap .i64 ((IntKind.wrap .i64 (4 * x1)) + 4))))
 (ay (Mem.ld M7 ⟨b0, o0, none⟩) fun A8 k9 cX =>
 aK (decide ((n6 : Int) < ((k9 : Nat) : Int)))
  (ay (Mem.ld M7 ⟨b0, o0, none⟩) fun yY di cI =>
  ((0 : Int) ≤ n6) ∧
  ((n6 : Int) < ((di : Nat) : Int)) ∧
  az yY fun gS eV =>
  aE (Mem.ld M7 ⟨gS, (eV + ((Int.toNat n6) * 3)), none⟩) .u64 fun jf =>
  aE (Mem.ld M7 ⟨gS, ((eV + ((Int.toNat n6) * 3)) + 1), none⟩) .u64 fun fB =>
  aE (Mem.ld M7 ⟨gS, ((eV + ((Int.toNat n6) * 3)) + 2), none⟩) .i64 fun fy =>
  ay (Mem.ld M7 ⟨b0, o0, none⟩) fun At iT cU =>
  ((0 : Int) ≤ n5) ∧
  ((n5 : Int) < ((iT : Nat) : Int)) ∧
  az At fun eX hO =>
  aE (Mem.ld M7 ⟨eX, (hO + ((Int.toNat n5) * 3)), none⟩) .u64 fun zD =>
  aE (Mem.ld M7 ⟨eX, ((hO + ((Int.toNat n5) * 3)) + 1), none⟩) .u64 fun m7 =>
  aE (Mem.ld M7 ⟨eX, ((hO + ((Int.toNat n5) * 3)) + 2), none⟩) .i64 fun m8 =>
  aa Tryz.prog 187 #[(.agg #[(.int .u64 jf), (.int .u64 fB), (.int .i64 fy)]), (.agg #[(.int .u64 zD), (.int .u64 m7), (.int .i64 m8)])] M7 (fun Hx ua =>
  cY (some Hx) fun t29 =>
  aK t29
   (∃ jL : Nat, (jL < k3) ∧
   I1 jL [(.int .i64 n6), (.int .i64 (IntKind.wrap .i64 (n6 + 1)))] ua)
   (∃ nt : Nat, (nt < k3) ∧
   I1 nt [(.int .i64 n5), (.int .i64 (IntKind.wrap .i64 (n6 + 1)))] ua)) Kp)
  (K (.int .i64 n5) M7))
 (K (.int .i64 n5) M7)) :
 aa Tryz.prog 186 ([.pointer (some ⟨b0, o0, none⟩), .int .i64 x1] : List Value).toArray M K Kp :=
 bV (C := Cx) good [(2000000, .loop [(5, .c (.int .i64)), (6, .c (.int .i64))]), (5, .bL [0, 1, 3, 7, 0, 31, 63, 0, 128, 384, 896, 0, 3968, 8064, 16383] (.step 0 (.step 1 (.step 2 (.step 4 (.step 7 (.step 8 (.step 9 (.step 11 (.step 3 (.step 5 (.step 6 (.step 10 (.step 12 (.step 13 (.step 14 .done))))))))))))))))] Tryz.func186 (by kernel_rfl) (by kernel_rfl) h
theorem uY {jM : Int} {jN : Int} {eR : Int} {bP : Int} {bQ : Int} {bR : Int} (h :
aX M (cl [(.int .u64 jM), (.int .u64 jN), (iV eR)] 203) fun k1 M2 =>
aX M2 (cl [(.int .u64 bP), (.int .u64 bQ), (iV bR)] 203) fun k3 M4 =>
rU M4 k1 0 fun n5 =>
rU M4 k3 0 fun n6 =>
aK (decide (n5 < n6))
 (K (.bool true) M4)
 (rU M4 k1 0 fun n7 =>
 rU M4 k3 0 fun n8 =>
 aK (n7 == n8)
 (rU M4 k1 1 fun n9 =>
 rU M4 k3 1 fun gA =>
 K (.bool (decide (n9 < gA))) M4)
 (K (.bool false) M4))) :
 aa Tryz.prog 187 #[.agg #[.int .u64 jM, .int .u64 jN, .int .i64 eR], .agg #[.int .u64 bP, .int .u64 bQ, .int .i64 bR]] M K Kp := vw [] Tryz.func187 h
theorem lq {b0 o0 : Nat} {x1 : Int} {x2 : Int} (h :
rS M b0 (o0 + 4) fun A1 k2 k3 =>
((0 : Int) ≤ x1) ∧
((x1 : Int) < k2) ∧
az A1 fun k4 k5 =>
rP M k4 (k5 + (Int.toNat x1)) fun A6 =>
az A6 fun k7 k8 =>
gM M k7 (k8 + 2) fun n9 gA fA ek =>
aX M rQ fun cI jz =>
MT jz cI (iV n9) (iV gA) (iV fA) (iV ek) fun kP =>
rS kP b0 (o0 + 4) fun At iT cU =>
((0 : Int) ≤ x1) ∧
((x1 : Int) < iT) ∧
az At fun eX hO =>
rP kP eX (hO + (Int.toNat x1)) fun Hw =>
az Hw fun oq oN =>
rS kP oq (oN + 1) fun Nf nv m5 =>
rI kP cI 3 fun sV =>
aa Tryz.prog 189 #[(.slice Nf nv m5)] kP (fun J4 m6 =>
cz (some J4) fun Hs =>
eI m6 cI 3 sV ∧
az Hs fun sR pH =>
(0 ≤ sV) ∧
(sV < 8) ∧
sT m6 sR ((pH + 2) + (Int.toNat sV)) (iV x2) fun F4 =>
eI F4 cI 3 sV ∧
rS F4 b0 (o0 + 6) fun BZ fC lG =>
aa Tryz.prog 252 #[(iV x1), (.slice BZ fC lG)] F4 (fun Kc AA =>
(Kc = (.tuple #[])) ∧
K (.tuple #[]) AA) Kp) Kp) :
 aa Tryz.prog 251 #[.pointer (some ⟨b0, o0, none⟩), .int .i64 x1, .int .i64 x2] M K Kp := vw [(1, .bL [0, 1, 3, 7, 0, 31, 63, 127, 255, 511, 1023, 0, 2048, 0, 2047, 18431, 65535, 131071] (sy [0, 1, 2, 4, 11, 13, 3, 5, 6, 7, 8, 9] (.eo 12 (sy [10, 14, 15, 16, 17] .done))))] Tryz.func251 h
end Go.Proofs
namespace Go.Proofs
open Go.AF
set_option maxRecDepth 100000
theorem yZ {qq : Option Addr} {qt qu : Nat} {qv : Option Addr} {qw qx : Nat} {eR : Int} {fS : Option Addr} {fT fU : Nat} {M : Mem} {K : Value → Mem → Prop} {Kp : List PanicEntry → Mem → Prop} (h :
aX M (cl [(.slice qq qt qu), (.slice qv qw qx), (iV eR), (.slice fS fT fU)] 39) fun k1 M2 =>
uL M2 k1 0 fun A3 k4 k5 A6 k7 k8 n9 wz cN di =>
aa Tryz.prog 112 #[(iV 0), (iV 0)] M2 (fun BS jz =>
ay (some BS) fun oK dk dm =>
((Mem.dP jz ⟨k1, 0, none⟩ 0 4) = some [(.slice A3 k4 k5), (.slice A6 k7 k8), (iV n9), (.slice wz cN di)]) ∧
aX jz (cl [(iV 1), (.slice oK dk dm), (iV 0), (iV 0), (iV 0), (iV 0)] 229) fun dK jA =>
aX jA (cl [(.pointer (some ⟨dK, 0, none⟩))] 224) fun iT rq =>
aX rq (cl [(.slice A3 k4 k5), (.slice A6 k7 k8), (iV n9), (.slice wz cN di), (.slice (some ⟨iT, 0, none⟩) 1 1), (.int .u64 0), (.slice none 0 0), (.slice none 0 0), (.slice none 0 0), (.int .u64 0), (.slice none 0 0), (iV 0), (iV 0), (.slice none 0 0), .nilFunc] 161) fun eX jZ =>
rS jZ k1 1 fun Hw oq oN =>
∃ T6 : IT, (∃ nv, T6 nv [(iV 0)] jZ) ∧
∀ (m5 : Nat) (_ : Nat → Value) (sP : Int) (m6 : Mem), (T6 m5 [(iV sP)] m6) → aK (decide (sP < oq))
 ((0 ≤ sP) ∧
 (sP < oq) ∧
 az Hw fun kX sR =>
 rI m6 kX (sR + (Int.toNat sP)) fun wW =>
 ∃ T7 : List Value → Mem → Prop, ((rS m6 eX 6 fun BZ fC lG =>
 aa Tryz.prog 113 #[(iV wW)] m6 (fun Kc AA =>
 cz (some Kc) fun TY =>
 aX AA (cl [(.pointer TY)] 230) fun yP ug =>
 aA 156 BZ fC lG (some ⟨yP, 0, none⟩) 1 1 ug (fun T8 HG =>
 ay (some T8) fun T9 Pw Ga =>
 sT HG eX 6 (.slice T9 Pw Ga) fun uc =>
 T7 [] uc) Kp) Kp) ∧
 (aa Tryz.prog 113 #[(iV wW)] m6 (fun T5 QJ =>
 cz (some T5) fun SC =>
 rS QJ eX 6 fun PB Kh Ki =>
 aX QJ (cl [(.pointer SC)] 230) fun y4 LO =>
 aA 156 PB Kh Ki (some ⟨y4, 0, none⟩) 1 1 LO (fun v59 Aq =>
 ay (some v59) fun Nk wY CK =>
 sT Aq eX 6 (.slice Nk wY CK) fun HF =>
 T7 [] HF) Kp) Kp) ∧
 True) ∧
 ∀ Ua : Nat → Value, ∀ Sx : Mem, (T7 [] Sx) → ∃ wG : Nat, (wG < m5) ∧
 T6 wG [(iV (IntKind.wrap .i64 (sP + 1)))] Sx)
 (rI m6 k1 2 fun BW =>
 ∃ Ub : IT, (∃ Gd, Ub Gd [(iV 0)] m6) ∧
 ∀ (CL : Nat) (_ : Nat → Value) (F6 : Int) (xS : Mem), (Ub CL [(iV F6)] xS) → aK (decide (F6 < BW))
 (∃ Uc : List Value → Mem → Prop, ((rS xS eX 7 fun A76 k77 QN =>
 aa Tryz.prog 114 #[] xS (fun v79 wZ =>
 cz (some v79) fun Nl =>
 aX wZ (cl [(.pointer Nl)] 232) fun Ge Fa =>
 aA 157 A76 k77 QN (some ⟨Ge, 0, none⟩) 1 1 Fa (fun v84 SD =>
 ay (some v84) fun A86 QO HH =>
 sT SD eX 7 (.slice A86 QO HH) fun CM =>
 Uc [] CM) Kp) Kp) ∧
 (aa Tryz.prog 114 #[] xS (fun Kj oP =>
 cz (some Kj) fun QS =>
 rS oP eX 7 fun A93 Kk k95 =>
 aX oP (cl [(.pointer QS)] 232) fun k96 Kl =>
 aA 157 A93 Kk k95 (some ⟨k96, 0, none⟩) 1 1 Kl (fun v98 Ud =>
 ay (some v98) fun Km HI y5 =>
 sT Ud eX 7 (.slice Km HI y5) fun Nm =>
 Uc [] Nm) Kp) Kp) ∧
 True) ∧
 ∀ SE : Nat → Value, ∀ Kn : Mem, (Uc [] Kn) → ∃ nQ : Nat, (nQ < CL) ∧
 Ub nQ [(iV (IntKind.wrap .i64 (F6 + 1)))] Kn)
 (K (.pointer (some ⟨eX, 0, none⟩)) xS))) Kp) :
 aa Tryz.prog 56 #[.agg #[.slice qq qt qu, .slice qv qw qx, .int .i64 eR, .slice fS fT fU]] M K Kp := vw [(1, .bL [0, 0, 2, 6, 14, 31, 63, 127] (.eo 0 (sy [1, 2, 3, 4, 5, 6, 7] .done))), (2000000, .loop [(16, .c (.int .i64))]), (5, .EN [0, 0, 2, 6, 14, 0, 32, 96, 254, 511, 1023, 2047] (sy [0, 1, 2, 3, 5] (.fork 4 (sy [6, 7, 8, 9, 10, 11] .done) (.fork 6 (sy [4, 7, 8, 9, 10, 11] .done) .dead))) []), (2000002, .loop [(34, .c (.int .i64))]), (9, .EN [0, 0, 2, 6, 14, 0, 32, 126, 255, 511, 1023] (sy [0, 1, 2, 3] (.fork 4 (sy [5, 6, 7, 8, 9, 10] .done) (.fork 5 (sy [4, 6, 7, 8, 9, 10] .done) .dead))) [])] Tryz.func56 h
theorem gZ {b0 o0 : Nat} {x1 : Int} {u2 : Value} {M : Mem} {K : Value → Mem → Prop} {Kp : List PanicEntry → Mem → Prop} (h :
aX M (.cells #[(.bool false), (.slice none 0 0)] 250 (0, 0)) fun k1 M2 =>
aK (decide ((x1 : Int) < 0))
 (aF M2 ⟨k1, 0, none⟩ (.bool false) fun M3 =>
 aF M3 ⟨k1, (0 + 1), none⟩ (.slice none 0 0) fun M4 =>
 cY (Mem.ld M4 ⟨k1, 0, none⟩) fun t5 =>
 ay (Mem.ld M4 ⟨k1, (0 + 1), none⟩) fun A6 k7 k8 =>
 K (.agg #[(.bool t5), (.slice A6 k7 k8)]) M4)
 (ay (Mem.ld M2 ⟨b0, (o0 + 4), none⟩) fun A9 cX cN =>
 aK (decide ((x1 : Int) ≥ ((cX : Nat) : Int)))
  (aF M2 ⟨k1, 0, none⟩ (.bool false) fun ri =>
  aF ri ⟨k1, (0 + 1), none⟩ (.slice none 0 0) fun jB =>
  cY (Mem.ld jB ⟨k1, 0, none⟩) fun t14 =>
  ay (Mem.ld jB ⟨k1, (0 + 1), none⟩) fun oK dk dm =>
  K (.agg #[(.bool t14), (.slice oK dk dm)]) jB)
  (aE (Mem.ld M2 ⟨b0, (o0 + 11), none⟩) .i64 fun fy =>
  aK (fy != 0)
   (aF M2 ⟨k1, 0, none⟩ (.bool false) fun jA =>
   aF jA ⟨k1, (0 + 1), none⟩ (.slice none 0 0) fun oM =>
   cY (Mem.ld oM ⟨k1, 0, none⟩) fun t21 =>
   ay (Mem.ld oM ⟨k1, (0 + 1), none⟩) fun Pz hO kU =>
   K (.agg #[(.bool t21), (.slice Pz hO kU)]) oM)
   (ay (Mem.ld M2 ⟨b0, (o0 + 4), none⟩) fun Qv oN qd =>
   ((0 : Int) ≤ x1) ∧
   ((x1 : Int) < ((oN : Nat) : Int)) ∧
   az Qv fun nv m5 =>
   cz (Mem.ld M2 ⟨nv, (m5 + (Int.toNat x1)), none⟩) fun QB =>
   az QB fun nt l8 =>
   aE (Mem.ld M2 ⟨nt, l8, none⟩) .i64 fun sQ =>
   aK (sQ != 1)
    (aF M2 ⟨k1, 0, none⟩ (.bool false) fun kQ =>
    aF kQ ⟨k1, (0 + 1), none⟩ (.slice none 0 0) fun uZ =>
    cY (Mem.ld uZ ⟨k1, 0, none⟩) fun t36 =>
    ay (Mem.ld uZ ⟨k1, (0 + 1), none⟩) fun BZ fC lG =>
    K (.agg #[(.bool t36), (.slice BZ fC lG)]) uZ)
    (aF M2 ⟨b0, (o0 + 13), none⟩ (.slice none 0 0) fun Nh =>
    xo u2 <|
    aF Nh ⟨b0, (o0 + 14), none⟩ u2 fun AA =>
    aa Tryz.prog 159 #[(.pointer (some ⟨b0, o0, none⟩)), (.int .i64 x1)] AA (fun v42 wF =>
    cY (some v42) fun t44 =>
    aK (!t44)
     (aE (Mem.ld wF ⟨b0, (o0 + 11), none⟩) .i64 fun tG =>
     aK (tG == 0)
      (ay (Mem.ld wF ⟨b0, (o0 + 4), none⟩) fun A46 Qu Pw =>
      ((0 : Int) ≤ x1) ∧
      ((x1 : Int) < ((Qu : Nat) : Int)) ∧
      az A46 fun Ga Jn =>
      cz (Mem.ld wF ⟨Ga, (Jn + (Int.toNat x1)), none⟩) fun Jm =>
      az Jm fun nm rj =>
      aE (Mem.ld wF ⟨nm, rj, none⟩) .i64 fun Jt =>
      ay (Mem.ld wF ⟨b0, (o0 + 13), none⟩) fun Ue Ki y4 =>
      aF wF ⟨k1, 0, none⟩ (.bool (Jt == 1)) fun LO =>
      aF LO ⟨k1, (0 + 1), none⟩ (.slice Ue Ki y4) fun xT =>
      cY (Mem.ld xT ⟨k1, 0, none⟩) fun t60 =>
      ay (Mem.ld xT ⟨k1, (0 + 1), none⟩) fun Nk wY CK =>
      K (.agg #[(.bool t60), (.slice Nk wY CK)]) xT)
      (ay (Mem.ld wF ⟨b0, (o0 + 13), none⟩) fun Uf QT AB =>
      aF wF ⟨k1, 0, none⟩ (.bool false) fun Ug =>
      aF Ug ⟨k1, (0 + 1), none⟩ (.slice Uf QT AB) fun QU =>
      cY (Mem.ld QU ⟨k1, 0, none⟩) fun t69 =>
      ay (Mem.ld QU ⟨k1, (0 + 1), none⟩) fun SF CL LP =>
      K (.agg #[(.bool t69), (.slice SF CL LP)]) QU))
     (ay (Mem.ld wF ⟨b0, (o0 + 13), none⟩) fun A73 PC Uh =>
     aF wF ⟨k1, 0, none⟩ (.bool false) fun Py =>
     aF Py ⟨k1, (0 + 1), none⟩ (.slice A73 PC Uh) fun QV =>
     cY (Mem.ld QV ⟨k1, 0, none⟩) fun t78 =>
     ay (Mem.ld QV ⟨k1, (0 + 1), none⟩) fun Ju Gf AD =>
     K (.agg #[(.bool t78), (.slice Ju Gf AD)]) QV)) Kp))))) :
 aa Tryz.prog 121 ([.pointer (some ⟨b0, o0, none⟩), .int .i64 x1, u2] : List Value).toArray M K Kp :=
 bV (C := Cx) good [(5, .bL [0, 1, 3, 7, 15, 31, 63, 127, 255, 511, 1023, 2047, 4095, 8191, 1023, 32767, 65535, 131071, 262143, 524287, 1048575, 2097151, 0, 4194304, 12582912, 29360128, 67108863, 134217727] (.step 0 (.step 1 (.step 2 (.step 3 (.step 4 (.step 5 (.step 22 (.step 23 (.step 24 (.step 6 (.step 7 (.step 8 (.step 9 (.step 10 (.step 11 (.step 12 (.step 14 (.step 13 (.step 15 (.step 16 (.step 17 (.step 18 (.step 19 (.step 20 (.step 21 (.step 25 (.step 26 (.step 27 .done)))))))))))))))))))))))))))))] Tryz.func121 (by kernel_rfl) (by kernel_rfl) h
theorem mq {b0 o0 : Nat} {M : Mem} {K : Value → Mem → Prop} {Kp : List PanicEntry → Mem → Prop} (h :
aE (Mem.ld M ⟨b0, (o0 + 11), none⟩) .i64 fun n1 =>
aK (n1 != 0)
 (K (.bool false) M)
 (ay (Mem.ld M ⟨b0, (o0 + 4), none⟩) fun A2 k3 k4 =>
 ∃ I5 : Nat → List Value → Mem → Prop, (∃ k6 : Nat, I5 k6 [(.int .i64 0)] M) ∧
 ∀ k7 : Nat, ∀ junk8 : Nat → Value, ∀ n9 : Int, ∀ iQ : Mem, (I5 k7 [(.int .i64 n9)] iQ) → aK (decide ((n9 : Int) < ((k3 : Nat) : Int)))
  (((0 : Int) ≤ n9) ∧
  ((n9 : Int) < ((k3 : Nat) : Int)) ∧
  az A2 fun cN di =>
  cz (Mem.ld iQ ⟨cN, (di + (Int.toNat n9)), none⟩) fun F3 =>
  az F3 fun gS eV =>
  aE (Mem.ld iQ ⟨gS, eV, none⟩) .i64 fun jf =>
  aK (jf == 1)
   (K (.bool false) iQ)
   (az F3 fun dm dK =>
   aE (Mem.ld iQ ⟨dm, dK, none⟩) .i64 fun iS =>
   aK (iS == 3)
    (K (.bool false) iQ)
    (∃ iT : Nat, (iT < k7) ∧
    I5 iT [(.int .i64 (IntKind.wrap .i64 (n9 + 1)))] iQ)))
  (K (.bool true) iQ))) :
 aa Tryz.prog 65 ([.pointer (some ⟨b0, o0, none⟩)] : List Value).toArray M K Kp :=
 bV (C := Cx) good [(2000000, .loop [(15, .c (.int .i64))])] Tryz.func65 (by kernel_rfl) (by kernel_rfl) h
variable {M : Mem} {K : Value → Mem → Prop} {Kp : List PanicEntry → Mem → Prop}
theorem u5 {B0 : Option Addr} {m0 c0 : Nat} (h :
aX M (cl [] 95) fun k1 M2 =>
aA 149 (some ⟨k1, 0, none⟩) 0 0 B0 m0 c0 M2 (fun v3 M4 =>
ay (some v3) fun A5 k6 k7 =>
aX M4 (cl [(.slice A5 k6 k7), (iV 0)] 354) fun k8 M9 =>
aX M9 (.cells #[(.func (.func 198) #[(.pointer (some ⟨k8, 0, none⟩))] #[]), (.func (.func 199) #[(.pointer (some ⟨k8, 0, none⟩))] #[]), (.slice none 0 0), .nilFunc] 152 (0, 0)) fun cX iW =>
K (.pointer (some ⟨cX, 0, none⟩)) iW) Kp) :
 aa Tryz.prog 172 #[.slice B0 m0 c0] M K Kp := vw [] Tryz.func172 h
theorem lu {b0 o0 : Nat} {x1 : Int} {x2 : Int} (h :
aE (Mem.ld M ⟨b0, (o0 + 1), none⟩) .i64 fun n1 =>
ay (Mem.ld M ⟨b0, o0, none⟩) fun A2 k3 k4 =>
aK (decide ((n1 : Int) ≥ ((k3 : Nat) : Int)))
 (Kp [{ v := (.iface 240 (.agg #[])), recovered := false }] M)
 (aE (Mem.ld M ⟨b0, (o0 + 1), none⟩) .i64 fun n5 =>
 aF M ⟨b0, (o0 + 1), none⟩ (.int .i64 (IntKind.wrap .i64 (n5 + 1))) fun M6 =>
 ay (Mem.ld M6 ⟨b0, o0, none⟩) fun A7 k8 k9 =>
 aE (Mem.ld M6 ⟨b0, (o0 + 1), none⟩) .i64 fun gA =>
 ((0 : Int) ≤ (IntKind.wrap .i64 (gA - 1))) ∧
 (((IntKind.wrap .i64 (gA - 1)) : Int) < ((k8 : Nat) : Int)) ∧
 az A7 fun cN di =>
 aE (Mem.ld M6 ⟨cN, (di + (Int.toNat (IntKind.wrap .i64 (gA - 1)))), none⟩) .u64 fun gG =>
 (((IntKind.wrap .u64 x2) : Int) ≠ 0) ∧
 K (.int .u64 (Int.tmod gG (IntKind.wrap .u64 x2))) M6)) :
 aa Tryz.prog 59 ([.pointer (some ⟨b0, o0, none⟩), .int .i64 x1, .int .i64 x2] : List Value).toArray M K Kp :=
 bV (C := Cx) good [(1, .bL [0, 1, 3, 7, 0, 16, 48, 112, 240, 511] (.step 0 (.step 1 (.step 2 (.step 4 (.step 5 (.step 6 (.step 3 (.step 7 (.step 8 (.step 9 .done))))))))))), (4, .bL [0, 1, 3, 7, 0, 16, 48, 112, 240, 511, 1023, 0, 2048, 8191, 16383] (.step 0 (.step 1 (.step 2 (.step 4 (.step 5 (.step 6 (.step 11 (.step 12 (.step 3 (.step 7 (.step 8 (.step 9 (.step 10 (.step 13 (.step 14 .done))))))))))))))))] Tryz.func59 (by kernel_rfl) (by kernel_rfl) h
theorem tJ {u0 : Value} (h :
aX M oH fun k1 M2 =>
aX M2 G7 fun k3 M4 =>
aX M4 oH fun k5 M6 =>
sT M6 k3 0 (iV 0) fun M7 =>
TS M7 k5 (iV 0) (iV 0) (iV 0) (iV 0) (.int .u64 0) fun ri =>
aa Tryz.prog 116 #[u0, (.pointer (some ⟨k3, 0, none⟩)), (.pointer (some ⟨k5, 0, none⟩))] ri (fun BS jz =>
(BS = (.tuple #[])) ∧
rI jz k3 0 fun fk =>
Cv jz k5 0 fun jf fB fy iS eP =>
TS jz k1 (iV jf) (iV fB) (iV fy) (iV iS) (.int .u64 eP) fun ud =>
Cv ud k1 0 fun m8 tF oO tE sV =>
K (.tuple #[(iV fk), (.agg #[(iV m8), (iV tF), (iV oO), (iV tE), (.int .u64 sV)])]) ud) Kp) :
 aa Tryz.prog 61 #[u0] M K Kp := vw [(3, .bL [0, 0, 1, 7] (sy [0, 2, 1, 3] .done))] Tryz.func61 h
theorem nR {b0 o0 : Nat} {x1 : Int} {x2 : Int} (h :
aE (Mem.ld M ⟨b0, (o0 + 1), none⟩) .i64 fun n1 =>
ay (Mem.ld M ⟨b0, o0, none⟩) fun A2 k3 k4 =>
aK (decide ((n1 : Int) ≥ ((k3 : Nat) : Int)))
 (Kp [{ v := (.iface 240 (.agg #[])), recovered := false }] M)
 (ay (Mem.ld M ⟨b0, o0, none⟩) fun A5 k6 k7 =>
 aE (Mem.ld M ⟨b0, (o0 + 1), none⟩) .i64 fun n8 =>
 ((0 : Int) ≤ n8) ∧
 ((n8 : Int) < ((k6 : Nat) : Int)) ∧
 az A5 fun k9 cX =>
 aE (Mem.ld M ⟨k9, (cX + ((Int.toNat n8) * 2)), none⟩) .i64 fun fA =>
 aE (Mem.ld M ⟨k9, ((cX + ((Int.toNat n8) * 2)) + 1), none⟩) .u64 fun ek =>
 aX M (.cells #[(.int .i64 0), (.int .u64 0)] 95 (0, 0)) fun cI jz =>
 aF jz ⟨cI, 0, none⟩ (.int .i64 fA) fun pK =>
 aF pK ⟨cI, (0 + 1), none⟩ (.int .u64 ek) fun dG =>
 aE (Mem.ld dG ⟨cI, 0, none⟩) .i64 fun fB =>
 aK (fB != x1)
  (aE (Mem.ld dG ⟨b0, (o0 + 1), none⟩) .i64 fun fy =>
  aE (Mem.ld dG ⟨cI, 0, none⟩) .i64 fun iS =>
  aE (Mem.ld dG ⟨cI, (0 + 1), none⟩) .u64 fun eP =>
  Kp [{ v := (.iface 97 (.agg #[(.int .i64 fy), (.int .i64 x1), (.int .i64 x2), (.int .i64 iS), (.int .u64 eP)])), recovered := false }] dG)
  (aE (Mem.ld dG ⟨cI, (0 + 1), none⟩) .u64 fun jY =>
  aK (decide ((jY : Int) ≥ (IntKind.wrap .u64 x2)))
   (aE (Mem.ld dG ⟨b0, (o0 + 1), none⟩) .i64 fun kT =>
   aE (Mem.ld dG ⟨cI, 0, none⟩) .i64 fun uQ =>
   aE (Mem.ld dG ⟨cI, (0 + 1), none⟩) .u64 fun zD =>
   Kp [{ v := (.iface 97 (.agg #[(.int .i64 kT), (.int .i64 x1), (.int .i64 x2), (.int .i64 uQ), (.int .u64 zD)])), recovered := false }] dG)
   (aE (Mem.ld dG ⟨b0, (o0 + 1), none⟩) .i64 fun m7 =>
   aF dG ⟨b0, (o0 + 1), none⟩ (.int .i64 (IntKind.wrap .i64 (m7 + 1))) fun uf =>
   aE (Mem.ld uf ⟨cI, (0 + 1), none⟩) .u64 fun tF =>
   K (.int .u64 tF) uf)))) :
 aa Tryz.prog 198 ([.pointer (some ⟨b0, o0, none⟩), .int .i64 x1, .int .i64 x2] : List Value).toArray M K Kp :=
 bV (C := Cx) good [(1, .bL [0, 1, 3, 7, 0, 16, 48, 112, 240, 511] (.step 0 (.step 1 (.step 2 (.step 4 (.step 5 (.step 6 (.step 3 (.step 7 (.step 8 (.step 9 .done))))))))))), (3, .bL [0, 1, 3, 7, 0, 16, 48, 112, 255, 511, 0, 2047] (.step 0 (.step 1 (.step 2 (.step 4 (.step 5 (.step 6 (.step 3 (.step 7 (.step 8 (.step 9 (.step 10 (.step 11 .done))))))))))))), (5, .bL [0, 1, 3, 7, 0, 0, 0, 127, 255, 511] (.step 0 (.step 1 (.step 2 (.step 4 (.step 5 (.step 3 (.step 6 (.step 7 (.step 8 (.step 9 .done)))))))))))] Tryz.func198 (by kernel_rfl) (by kernel_rfl) h
theorem lz {b0 o0 : Nat} {x1 : Int} {x2 : Int} (h :
fL (Mem.ld M ⟨b0, o0, none⟩) fun v1 =>
gn Cx v1 [(iV x1), (iV (if (1 : Int) > x2 then 1 else x2))] M (fun v2 M3 =>
aE (some v2) .u64 fun n4 =>
aX M3 DT fun k5 M6 =>
TR M6 k5 (iV x1) (.int .u64 n4) fun M8 =>
rS M8 b0 (o0 + 2) fun A9 cX cN =>
Sr M8 k5 0 fun ek gG =>
aX M8 (cl [(iV ek), (.int .u64 gG)] 95) fun gS pK =>
aA 149 A9 cX cN (some ⟨gS, 0, none⟩) 1 1 pK (fun Kb l6 =>
ay (some Kb) fun Js gN iT =>
sT l6 b0 (o0 + 2) (.slice Js gN iT) fun rq =>
fL (Mem.ld rq ⟨b0, (o0 + 3), none⟩) fun E6 =>
DH E6 fun t23 =>
aK (!t23)
 (fL (Mem.ld rq ⟨b0, (o0 + 3), none⟩) fun HD =>
 Sr rq k5 0 fun m7 m8 =>
 gn Cx HD [(.agg #[(iV m7), (.int .u64 m8)])] rq (fun Hx ua =>
 (Hx = (.tuple #[])) ∧
 rU ua k5 1 fun tE =>
 K (iV (IntKind.wrap .i64 tE)) ua) Kp)
 (rU rq k5 1 fun sV =>
 K (iV (IntKind.wrap .i64 sV)) rq)) Kp) Kp) :
 aa Tryz.prog 107 #[.pointer (some ⟨b0, o0, none⟩), .int .i64 x1, .int .i64 x2] M K Kp := vw [(2, .bL [0, 0, 2, 6, 14, 0, 32, 126, 255, 511, 1023] (sy [0, 1, 2, 3, 4, 5, 6, 7, 8, 9, 10] .done)), (4, .bL [0, 1, 3, 7, 0, 31] (sy [0, 1, 2, 3, 4, 5] .done))] Tryz.func107 h
end Go.Proofs
namespace Go.Proofs
open Go.AF
set_option maxRecDepth 100000
variable {M : Mem} {K : Value → Mem → Prop} {Kp : List PanicEntry → Mem → Prop}
theorem y6 {x0 : Int} (h :
aa Tryz.prog 115 #[(iV x0)] M (fun v1 M2 =>
cz (some v1) fun A3 =>
aX M2 (cl [(iV (-1)), (.pointer A3)] 237) fun k4 M5 =>
K (.pointer (some ⟨k4, 0, none⟩)) M5) Kp) :
 aa Tryz.prog 57 #[.int .i64 x0] M K Kp := vw [] Tryz.func57 h
theorem nS {b0 o0 : Nat} {B1 : Option Addr} {m1 c1 : Nat} (h :
ay (Mem.ld M ⟨b0, o0, none⟩) fun A1 k2 k3 =>
bh Tryz.prog (Go.Builtin.append_ #[36, 36] 36 #[(.slice A1 k2 k3), (.slice B1 m1 c1)]) M (fun v4 M5 =>
ay (some v4) fun A6 k7 k8 =>
aF M5 ⟨b0, o0, none⟩ (.slice A6 k7 k8) fun M9 =>
K (.tuple #[]) M9) Kp) :
 aa Tryz.prog 58 ([.pointer (some ⟨b0, o0, none⟩), .slice B1 m1 c1] : List Value).toArray M K Kp :=
 bV (C := Cx) good [] Tryz.func58 (by kernel_rfl) (by kernel_rfl) h
theorem nT {b0 o0 : Nat} (h :
rI M b0 o0 fun n1 =>
K (iV n1) M) :
 aa Tryz.prog 148 #[.pointer (some ⟨b0, o0, none⟩)] M K Kp := vw [] Tryz.func148 h
theorem AE {x0 : Int} (h :
bh Tryz.prog (Go.Instr.makeSlice 36 (iV (if (1024 : Int) < (if (1 : Int) > x0 then 1 else x0) then 1024 else (if (1 : Int) > x0 then 1 else x0))) (iV (if (1024 : Int) < (if (1 : Int) > x0 then 1 else x0) then 1024 else (if (1 : Int) > x0 then 1 else x0)))) M (fun v1 M2 =>
ay (some v1) fun A3 k4 k5 =>
aX M2 (cl [(.slice A3 k4 k5), (iV 0), (iV 0)] 309) fun k6 M7 =>
K (.pointer (some ⟨k6, 0, none⟩)) M7) Kp) :
 aa Tryz.prog 115 #[.int .i64 x0] M K Kp := vw [] Tryz.func115 h
theorem o8 {b0 o0 : Nat} (h :
rI M b0 o0 fun n1 =>
aK (n1 != (-1))
 (sT M b0 o0 (iV (-1)) fun M2 =>
 K (.tuple #[(iV n1), (.bool true)]) M2)
 (rP M b0 (o0 + 1) fun A3 =>
 aa Tryz.prog 177 #[(.pointer A3)] M (fun v4 M5 =>
 ∃ n6 : Int, ∃ t7 : Bool, (v4 = (.tuple #[(iV n6), (.bool t7)])) ∧
 aK (!t7)
 (K (.tuple #[(iV (-1)), (.bool false)]) M5)
 (K (.tuple #[(iV n6), (.bool true)]) M5)) Kp)) :
 aa Tryz.prog 149 #[.pointer (some ⟨b0, o0, none⟩)] M K Kp := vw [] Tryz.func149 h
theorem gO {b0 o0 : Nat} {b1 o1 : Nat} (h :
Go.AF.ptrEq M (some ⟨b0, o0, none⟩) (some ⟨b1, o1, none⟩) fun t1 =>
aK t1
 (K (.tuple #[(iV (-1)), (.bool false)]) M)
 (rP M b1 (o1 + 1) fun A2 =>
 aa Tryz.prog 181 #[(.pointer A2)] M (fun v3 M4 =>
 aE (some v3) .i64 fun n5 =>
 aK (n5 == 0)
 (rI M4 b1 o1 fun n6 =>
 sT M4 b1 o1 (iV (-1)) fun M7 =>
 K (.tuple #[(iV n6), (.bool (n6 != (-1)))]) M7)
 (((2 : Int) ≠ 0) ∧
 rP M4 b0 (o0 + 1) fun A8 =>
 rP M4 b1 (o1 + 1) fun A9 =>
 rP M4 b0 (o0 + 1) fun wz =>
 aa Tryz.prog 183 #[(.pointer A8)] M4 (fun v11 ri =>
 aE (some v11) .i64 fun gG =>
 ((Mem.ld ri ⟨b0, (o0 + 1), none⟩) = (some (.pointer wz))) ∧
 ((Mem.ld ri ⟨b1, (o1 + 1), none⟩) = (some (.pointer A9))) ∧
 aa Tryz.prog 181 #[(.pointer wz)] ri (fun QL pK =>
 aE (some QL) .i64 fun jf =>
 ((Mem.ld pK ⟨b0, (o0 + 1), none⟩) = (some (.pointer wz))) ∧
 ((Mem.ld pK ⟨b1, (o1 + 1), none⟩) = (some (.pointer A9))) ∧
 aa Tryz.prog 182 #[(.pointer A9), (iV (if ((IntKind.wrap .i64 ((IntKind.wrap .i64 (gG - jf)) + 1)) : Int) < (IntKind.wrap .i64 (n5 - (IntKind.wrap .i64 (Int.tdiv n5 2)))) then (IntKind.wrap .i64 ((IntKind.wrap .i64 (gG - jf)) + 1)) else (IntKind.wrap .i64 (n5 - (IntKind.wrap .i64 (Int.tdiv n5 2))))))] pK (fun Nj kP =>
 ay (some Nj) fun At iT cU =>
 ((Mem.ld kP ⟨b0, (o0 + 1), none⟩) = (some (.pointer wz))) ∧
 ((Mem.ld kP ⟨b1, (o1 + 1), none⟩) = (some (.pointer A9))) ∧
 ((0 : Int) ≤ cU) ∧
 ((cU : Int) ≤ cU) ∧
 ((0 : Int) ≤ iT) ∧
 ((iT : Int) ≤ cU) ∧
 ((0 : Int) ≤ 1) ∧
 ((1 : Int) ≤ iT) ∧
 ∃ Ui : IT, (∃ hO, Ui hO [(iV 0)] kP) ∧
 ∀ (kU : Nat) (_ : Nat → Value) (m8 : Int) (ou : Mem), (Ui kU [(iV m8)] ou) → aK (decide ((m8 : Int) < ((((Int.toNat (iT : Int)) - 1) : Nat) : Int)))
 ((0 ≤ m8) ∧
 ((m8 : Int) < ((((Int.toNat (iT : Int)) - 1) : Nat) : Int)) ∧
 az (iO At 1 (Int.toNat (cU : Int)) 1) fun nv m5 =>
 rI ou nv (m5 + (Int.toNat m8)) fun sV =>
 rP ou b0 (o0 + 1) fun wD =>
 aa Tryz.prog 184 #[(.pointer wD), (iV sV)] ou (fun v32 yV =>
 cY (some v32) fun t34 =>
 ∃ pH : Nat, (pH < kU) ∧
 Ui pH [(iV (IntKind.wrap .i64 (m8 + 1)))] yV) Kp)
 (((0 : Int) ≤ 0) ∧
 ((0 : Int) < iT) ∧
 az At fun wC sX =>
 rI ou wC (sX + 0) fun uN =>
 K (.tuple #[(iV uN), (.bool true)]) ou)) Kp) Kp) Kp)) Kp)) :
 aa Tryz.prog 151 #[.pointer (some ⟨b0, o0, none⟩), .pointer (some ⟨b1, o1, none⟩)] M K Kp := vw [(8, .bL [0, 1, 3, 7, 0, 0, 32, 112, 0, 256, 768, 1792, 3840, 0, 8192, 24576, 57344, 130816, 261888, 524032, 1048560, 2097151, 4194303] (sy [0, 1, 2, 4, 5, 6, 7, 8, 9, 10, 13, 14, 15, 11] (.eo 3 (.eo 16 (sy [12, 17, 18, 19, 20, 21, 22] .done))))), (2000000, .loop [(56, .c (.int .i64))])] Tryz.func151 h
theorem mu {b0 o0 : Nat} {x1 : Int} {b2 o2 : Nat} (h :
rI M b0 o0 fun n1 =>
sT M b0 o0 (iV x1) fun M2 =>
aK (n1 == (-1))
 (K (iV 0) M2)
 (aa Tryz.prog 185 #[(.pointer (some ⟨b0, o0, none⟩)), (iV n1), (.pointer (some ⟨b2, o2, none⟩))] M2 (fun v3 M4 =>
 aE (some v3) .i64 fun n5 =>
 K (iV n5) M4) Kp)) :
 aa Tryz.prog 152 #[.pointer (some ⟨b0, o0, none⟩), .int .i64 x1, .pointer (some ⟨b2, o2, none⟩)] M K Kp := vw [] Tryz.func152 h
theorem r6 {b0 o0 : Nat} (h :
rI M b0 (o0 + 2) fun n1 =>
aK (n1 == 0)
 (K (.tuple #[(iV 0), (.bool false)]) M)
 (rS M b0 o0 fun A2 k3 k4 =>
 rI M b0 (o0 + 1) fun n5 =>
 (0 ≤ n5) ∧
 (n5 < k3) ∧
 az A2 fun k6 k7 =>
 rI M k6 (k7 + (Int.toNat n5)) fun n8 =>
 rI M b0 (o0 + 1) fun n9 =>
 rS M b0 o0 fun wz cN di =>
 ((cN : Int) ≠ 0) ∧
 sT M b0 (o0 + 1) (iV (Int.tmod (IntKind.wrap .i64 (n9 + 1)) (cN : Int))) fun jB =>
 rI jB b0 (o0 + 2) fun ot =>
 sT jB b0 (o0 + 2) (iV (IntKind.wrap .i64 (ot - 1))) fun pK =>
 K (.tuple #[(iV n8), (.bool true)]) pK)) :
 aa Tryz.prog 177 #[.pointer (some ⟨b0, o0, none⟩)] M K Kp := vw [(3, .bL [0, 1, 3, 7, 0, 16, 48, 112, 255, 511, 1023] (sy [0, 1, 2, 4, 5, 6, 3, 7, 8, 9, 10] .done)), (4, .bL [0, 0, 2, 6, 14, 30, 0, 64, 192, 448, 960, 2046, 4095, 8191, 16383] (sy [0, 1, 2, 3, 6, 7, 8, 4, 5, 9, 10, 11, 12, 13, 14] .done))] Tryz.func177 h
theorem nU {b0 o0 : Nat} {b1 o1 : Nat} (h :
rI M b0 o0 fun n1 =>
aK (n1 == (-1))
 (K (iV 0) M)
 (sT M b0 o0 (iV (-1)) fun M2 =>
 aa Tryz.prog 185 #[(.pointer (some ⟨b0, o0, none⟩)), (iV n1), (.pointer (some ⟨b1, o1, none⟩))] M2 (fun v3 M4 =>
 aE (some v3) .i64 fun n5 =>
 K (iV n5) M4) Kp)) :
 aa Tryz.prog 178 #[.pointer (some ⟨b0, o0, none⟩), .pointer (some ⟨b1, o1, none⟩)] M K Kp := vw [] Tryz.func178 h
theorem mw {b0 o0 : Nat} {x1 : Int} (h :
ay (Mem.ld M ⟨b0, o0, none⟩) fun A1 k2 k3 =>
aX M (.cells #[] 3 (0, 0)) fun k4 M5 =>
ay (Mem.ld M5 ⟨b0, o0, none⟩) fun A6 k7 k8 =>
((0 : Int) ≤ ((k8 : Nat) : Int)) ∧
((((k8 : Nat) : Int) : Int) ≤ ((k8 : Nat) : Int)) ∧
((0 : Int) ≤ (if (((k2 : Nat) : Int) : Int) < (if (0 : Int) > x1 then 0 else x1) then ((k2 : Nat) : Int) else (if (0 : Int) > x1 then 0 else x1))) ∧
(((if (((k2 : Nat) : Int) : Int) < (if (0 : Int) > x1 then 0 else x1) then ((k2 : Nat) : Int) else (if (0 : Int) > x1 then 0 else x1)) : Int) ≤ ((k8 : Nat) : Int)) ∧
((0 : Int) ≤ 0) ∧
((0 : Int) ≤ (if (((k2 : Nat) : Int) : Int) < (if (0 : Int) > x1 then 0 else x1) then ((k2 : Nat) : Int) else (if (0 : Int) > x1 then 0 else x1))) ∧
bh Tryz.prog (Go.Builtin.append_ #[36, 36] 36 #[(.slice (some ⟨k4, 0, none⟩) 0 0), (.slice (iO A6 0 (Int.toNat ((k8 : Nat) : Int)) 1) ((Int.toNat (if (((k2 : Nat) : Int) : Int) < (if (0 : Int) > x1 then 0 else x1) then ((k2 : Nat) : Int) else (if (0 : Int) > x1 then 0 else x1))) - 0) ((Int.toNat ((k8 : Nat) : Int)) - 0))]) M5 (fun v9 iQ =>
ay (some v9) fun yY di cI =>
aX iQ (.cells #[] 3 (0, 0)) fun gS pK =>
ay (Mem.ld pK ⟨b0, o0, none⟩) fun LN dm dK =>
((0 : Int) ≤ ((dK : Nat) : Int)) ∧
((((dK : Nat) : Int) : Int) ≤ ((dK : Nat) : Int)) ∧
((0 : Int) ≤ ((dm : Nat) : Int)) ∧
((((dm : Nat) : Int) : Int) ≤ ((dK : Nat) : Int)) ∧
((0 : Int) ≤ (if (((k2 : Nat) : Int) : Int) < (if (0 : Int) > x1 then 0 else x1) then ((k2 : Nat) : Int) else (if (0 : Int) > x1 then 0 else x1))) ∧
(((if (((k2 : Nat) : Int) : Int) < (if (0 : Int) > x1 then 0 else x1) then ((k2 : Nat) : Int) else (if (0 : Int) > x1 then 0 else x1)) : Int) ≤ ((dm : Nat) : Int)) ∧
bh Tryz.prog (Go.Builtin.append_ #[36, 36] 36 #[(.slice (some ⟨gS, 0, none⟩) 0 0), (.slice (iO LN (Int.toNat (if (((k2 : Nat) : Int) : Int) < (if (0 : Int) > x1 then 0 else x1) then ((k2 : Nat) : Int) else (if (0 : Int) > x1 then 0 else x1))) (Int.toNat ((dK : Nat) : Int)) 1) ((Int.toNat ((dm : Nat) : Int)) - (Int.toNat (if (((k2 : Nat) : Int) : Int) < (if (0 : Int) > x1 then 0 else x1) then ((k2 : Nat) : Int) else (if (0 : Int) > x1 then 0 else x1)))) ((Int.toNat ((dK : Nat) : Int)) - (Int.toNat (if (((k2 : Nat) : Int) : Int) < (if (0 : Int) > x1 then 0 else x1) then ((k2 : Nat) : Int) else (if (0 : Int) > x1 then 0 else x1)))))]) pK (fun Ke oM =>
ay (some Ke) fun wT eX hO =>
aF oM ⟨b0, o0, none⟩ (.slice wT eX hO) fun iH =>
K (.slice yY di cI) iH) Kp) Kp) :
 aa Tryz.prog 179 ([.pointer (some ⟨b0, o0, none⟩), .int .i64 x1] : List Value).toArray M K Kp :=
 bV (C := Cx) good [] Tryz.func179 (by kernel_rfl) (by kernel_rfl) h
theorem my {b0 o0 : Nat} {b1 o1 : Nat} {x2 : Int} (h :
rP M b0 (o0 + 1) fun A1 =>
rP M b0 (o0 + 1) fun A2 =>
aa Tryz.prog 202 #[(.pointer (some ⟨b1, o1, none⟩))] M (fun v3 M4 =>
aE (some v3) .i64 fun n5 =>
((Mem.ld M4 ⟨b0, (o0 + 1), none⟩) = (some (.pointer A2))) ∧
((Mem.ld M4 ⟨b0, (o0 + 1), none⟩) = (some (.pointer A1))) ∧
(((if (1 : Int) > x2 then 1 else x2) : Int) ≠ 0) ∧
aa Tryz.prog 183 #[(.pointer A1)] M4 (fun v6 M7 =>
aE (some v6) .i64 fun n8 =>
((Mem.ld M7 ⟨b0, (o0 + 1), none⟩) = (some (.pointer A2))) ∧
((Mem.ld M7 ⟨b0, (o0 + 1), none⟩) = (some (.pointer A1))) ∧
aa Tryz.prog 181 #[(.pointer A2)] M7 (fun v9 iQ =>
aE (some v9) .i64 fun fA =>
((Mem.ld iQ ⟨b0, (o0 + 1), none⟩) = (some (.pointer A2))) ∧
((Mem.ld iQ ⟨b0, (o0 + 1), none⟩) = (some (.pointer A1))) ∧
aK (decide ((x2 : Int) < 1))
 (aa Tryz.prog 179 #[(.pointer (some ⟨b1, o1, none⟩)), (iV 1)] iQ (fun F2 jB =>
 ay (some F2) fun gz eV dk =>
 aK ((eV : Int) == 0)
 (K (.tuple #[(iV (-1)), (.bool false)]) jB)
 (((0 : Int) ≤ dk) ∧
 ((dk : Int) ≤ dk) ∧
 ((0 : Int) ≤ eV) ∧
 ((eV : Int) ≤ dk) ∧
 ((0 : Int) ≤ 1) ∧
 ((1 : Int) ≤ eV) ∧
 ∃ Uj : IT, (∃ dK, Uj dK [(iV 0)] jB) ∧
 ∀ (gN : Nat) (_ : Nat → Value) (jY : Int) (kx : Mem), (Uj gN [(iV jY)] kx) → aK (decide ((jY : Int) < ((((Int.toNat (eV : Int)) - 1) : Nat) : Int)))
 ((0 ≤ jY) ∧
 ((jY : Int) < ((((Int.toNat (eV : Int)) - 1) : Nat) : Int)) ∧
 az (iO gz 1 (Int.toNat (dk : Int)) 1) fun hO kU =>
 rI kx hO (kU + (Int.toNat jY)) fun m7 =>
 rP kx b0 (o0 + 1) fun D4 =>
 aa Tryz.prog 184 #[(.pointer D4), (iV m7)] kx (fun Hx ua =>
 cY (some Hx) fun t29 =>
 ∃ jL : Nat, (jL < gN) ∧
 Uj jL [(iV (IntKind.wrap .i64 (jY + 1)))] ua) Kp)
 (((0 : Int) ≤ 0) ∧
 ((0 : Int) < eV) ∧
 az gz fun nt l8 =>
 rI kx nt (l8 + 0) fun sQ =>
 K (.tuple #[(iV sQ), (.bool true)]) kx))) Kp)
 (aa Tryz.prog 179 #[(.pointer (some ⟨b1, o1, none⟩)), (iV (if ((IntKind.wrap .i64 ((IntKind.wrap .i64 (n8 - fA)) + 1)) : Int) < (IntKind.wrap .i64 ((IntKind.wrap .i64 (Int.tdiv n5 (if (1 : Int) > x2 then 1 else x2))) + 1)) then (IntKind.wrap .i64 ((IntKind.wrap .i64 (n8 - fA)) + 1)) else (IntKind.wrap .i64 ((IntKind.wrap .i64 (Int.tdiv n5 (if (1 : Int) > x2 then 1 else x2))) + 1))))] iQ (fun v34 uZ =>
 ay (some v34) fun HC sX fC =>
 aK ((sX : Int) == 0)
 (K (.tuple #[(iV (-1)), (.bool false)]) uZ)
 (((0 : Int) ≤ fC) ∧
 ((fC : Int) ≤ fC) ∧
 ((0 : Int) ≤ sX) ∧
 ((sX : Int) ≤ fC) ∧
 ((0 : Int) ≤ 1) ∧
 ((1 : Int) ≤ sX) ∧
 ∃ Uk : IT, (∃ wB, Uk wB [(iV 0)] uZ) ∧
 ∀ (xP : Nat) (_ : Nat → Value) (pF : Int) (ug : Mem), (Uk xP [(iV pF)] ug) → aK (decide ((pF : Int) < ((((Int.toNat (sX : Int)) - 1) : Nat) : Int)))
 ((0 ≤ pF) ∧
 ((pF : Int) < ((((Int.toNat (sX : Int)) - 1) : Nat) : Int)) ∧
 az (iO HC 1 (Int.toNat (fC : Int)) 1) fun E2 E3 =>
 rI ug E2 (E3 + (Int.toNat pF)) fun ru =>
 rP ug b0 (o0 + 1) fun Gg =>
 aa Tryz.prog 184 #[(.pointer Gg), (iV ru)] ug (fun E4 uc =>
 cY (some E4) fun t51 =>
 ∃ nm : Nat, (nm < xP) ∧
 Uk nm [(iV (IntKind.wrap .i64 (pF + 1)))] uc) Kp)
 (((0 : Int) ≤ 0) ∧
 ((0 : Int) < sX) ∧
 az HC fun rj Ht =>
 rI ug rj (Ht + 0) fun Jv =>
 K (.tuple #[(iV Jv), (.bool true)]) ug))) Kp)) Kp) Kp) Kp) :
 aa Tryz.prog 180 #[.pointer (some ⟨b0, o0, none⟩), .pointer (some ⟨b1, o1, none⟩), .int .i64 x2] M K Kp := vw [(1, .bL [0, 1, 0, 4, 15, 31, 0, 64, 192, 448, 963, 0, 2048, 6144, 14336, 32707, 65475, 131011, 262143, 524287] (sy [0, 2, 3, 6, 7, 8, 11, 12, 13] (.eo 9 (.eo 14 (sy [1, 4, 5, 10, 15, 16, 17, 18, 19] .done))))), (2000000, .loop [(42, .c (.int .i64))])] Tryz.func180 h
theorem r7 {b0 o0 : Nat} (h :
rI M b0 (o0 + 2) fun n1 =>
K (iV n1) M) :
 aa Tryz.prog 181 #[.pointer (some ⟨b0, o0, none⟩)] M K Kp := vw [] Tryz.func181 h
theorem qy {b0 o0 : Nat} {x1 : Int} (h :
∃ I1 : IT, (∃ k2, I1 k2 [(.slice none 0 0)] M) ∧
∀ (k3 : Nat) (_ : Nat → Value) (A5 : Option Addr) (k6 : Nat) (k7 : Nat) (M8 : Mem), (I1 k3 [(.slice A5 k6 k7)] M8) → aK (decide ((k6 : Int) < x1))
 (aa Tryz.prog 177 #[(.pointer (some ⟨b0, o0, none⟩))] M8 (fun v9 iQ =>
 ∃ fA : Int, ∃ t12 : Bool, (v9 = (.tuple #[(iV fA), (.bool t12)])) ∧
 aK (!t12)
 (K (.slice A5 k6 k7) iQ)
 (aX iQ (cl [(iV fA)] 3) fun cI jz =>
 aA 36 A5 k6 k7 (some ⟨cI, 0, none⟩) 1 1 jz (fun E7 dG =>
 ay (some E7) fun BU dK gN =>
 ∃ iT : Nat, (iT < k3) ∧
 I1 iT [(.slice BU dK gN)] dG) Kp)) Kp)
 (K (.slice A5 k6 k7) M8)) :
 aa Tryz.prog 182 #[.pointer (some ⟨b0, o0, none⟩), .int .i64 x1] M K Kp := vw [(2000000, .loop [(5, .c .sl)])] Tryz.func182 h
theorem qz {b0 o0 : Nat} (h :
rS M b0 o0 fun A1 k2 k3 =>
K (iV (k2 : Int)) M) :
 aa Tryz.prog 183 #[.pointer (some ⟨b0, o0, none⟩)] M K Kp := vw [] Tryz.func183 h
theorem qA {b0 o0 : Nat} {x1 : Int} (h :
rI M b0 (o0 + 2) fun n1 =>
rS M b0 o0 fun A2 k3 k4 =>
aK (n1 == (k3 : Int))
 (K (.bool false) M)
 (rS M b0 o0 fun A5 k6 k7 =>
 rI M b0 (o0 + 1) fun n8 =>
 rI M b0 (o0 + 2) fun n9 =>
 rS M b0 o0 fun wz cN di =>
 ((cN : Int) ≠ 0) ∧
 ((0 : Int) ≤ (Int.tmod (IntKind.wrap .i64 (n8 + n9)) (cN : Int))) ∧
 (((Int.tmod (IntKind.wrap .i64 (n8 + n9)) (cN : Int)) : Int) < (k6 : Int)) ∧
 az A5 fun cI gS =>
 sT M cI (gS + (Int.toNat (Int.tmod (IntKind.wrap .i64 (n8 + n9)) (cN : Int)))) (iV x1) fun pK =>
 rI pK b0 (o0 + 2) fun jf =>
 sT pK b0 (o0 + 2) (iV (IntKind.wrap .i64 (jf + 1))) fun l6 =>
 K (.bool true) l6)) :
 aa Tryz.prog 184 #[.pointer (some ⟨b0, o0, none⟩), .int .i64 x1] M K Kp := vw [(1, .bL [0, 1, 3, 7, 0, 16, 48, 112, 240, 511] (sy [0, 1, 2, 4, 5, 6, 3, 7, 8, 9] .done)), (3, .bL [0, 1, 3, 7, 0, 16, 48, 112, 0, 256, 768, 1792, 4080, 0, 8192, 24576, 57344, 122880, 262128, 0, 1048575, 2097151] (sy [0, 1, 2, 4, 5, 6, 8, 9, 10, 13, 14, 15, 19, 3, 7, 11, 12, 16, 17, 18, 20, 21] .done))] Tryz.func184 h
theorem o9 {b0 o0 : Nat} {x1 : Int} {b2 o2 : Nat} (h :
rP M b0 (o0 + 1) fun A1 =>
aa Tryz.prog 184 #[(.pointer A1), (iV x1)] M (fun v2 M3 =>
cY (some v2) fun t4 =>
aK t4
 (K (iV 0) M3)
 (rP M3 b0 (o0 + 1) fun A5 =>
 rP M3 b0 (o0 + 1) fun A6 =>
 (True) ∧
 aa Tryz.prog 181 #[(.pointer A5)] M3 (fun v7 M8 =>
 aE (some v7) .i64 fun n9 =>
 ((Mem.ld M8 ⟨b0, (o0 + 1), none⟩) = (some (.pointer A6))) ∧
 ((2 : Int) ≠ 0) ∧
 (True) ∧
 aa Tryz.prog 182 #[(.pointer A6), (iV (IntKind.wrap .i64 (Int.tdiv n9 2)))] M8 (fun v10 iW =>
 ay (some v10) fun wO cI gS =>
 ((Mem.ld iW ⟨b0, (o0 + 1), none⟩) = (some (.pointer A6))) ∧
 aX iW (cl [(iV x1)] 3) fun eV dG =>
 aA 36 wO cI gS (some ⟨eV, 0, none⟩) 1 1 dG (fun Nj kP =>
 ay (some Nj) fun At iT cU =>
 ((Mem.ld kP ⟨b0, (o0 + 1), none⟩) = (some (.pointer A6))) ∧
 aa Tryz.prog 58 #[(.pointer (some ⟨b2, o2, none⟩)), (.slice At iT cU)] kP (fun E6 jZ =>
 (E6 = (.tuple #[])) ∧
 K (iV (iT : Int)) jZ) Kp) Kp) Kp) Kp)) Kp) :
 aa Tryz.prog 185 #[.pointer (some ⟨b0, o0, none⟩), .int .i64 x1, .pointer (some ⟨b2, o2, none⟩)] M K Kp := vw [(3, .bL [0, 1, 3, 7, 0, 16, 48, 112, 240, 496, 1023, 0, 2048, 8191, 16383] (sy [0, 1, 2, 4, 5, 6, 11, 7] (.eo 3 (.late 8 (sy [9] (.late 10 (sy [12, 13, 14] .done)))))))] Tryz.func185 h
theorem nV {b0 o0 : Nat} (h :
ay (Mem.ld M ⟨b0, o0, none⟩) fun A1 k2 k3 =>
K (.int .i64 ((k2 : Nat) : Int)) M) :
 aa Tryz.prog 202 ([.pointer (some ⟨b0, o0, none⟩)] : List Value).toArray M K Kp :=
 bV (C := Cx) good [] Tryz.func202 (by kernel_rfl) (by kernel_rfl) h
end Go.Proofs
namespace Go.Proofs
open Go.AF
set_option maxRecDepth 100000
variable {M : Mem} {K : Value → Mem → Prop} {Kp : List PanicEntry → Mem → Prop}
theorem y7 {qq : Option Addr} {qt qu : Nat} {qv : Option Addr} {qw qx : Nat} {eR : Int} {fS : Option Addr} {fT fU : Nat} {bP : Int} {bQ : Int} {bR : Int} {c9 : Int} {b2 o2 : Nat} (h :
aX M (cl [(.slice qq qt qu), (.slice qv qw qx), (iV eR), (.slice fS fT fU)] 39) fun k1 M2 =>
aX M2 (cl [(iV bP), (iV bQ), (iV bR), (iV c9)] 29) fun k3 M4 =>
uL M4 k1 0 fun A5 k6 k7 A8 k9 cX fA wO cI gS =>
gM M4 k3 0 fun fk jf fB fy =>
aa Tryz.prog 56 #[(.agg #[(.slice A5 k6 k7), (.slice A8 k9 cX), (iV fA), (.slice wO cI gS)])] M4 (fun Ke oM =>
cz (some Ke) fun wT =>
((Mem.dP oM ⟨k3, 0, none⟩ 0 4) = some [(iV fk), (iV jf), (iV fB), (iV fy)]) ∧
aX oM (cl [(.pointer wT), (iV fk), (iV jf), (iV fB), (iV fy), (.slice none 0 0), (.slice none 0 0), (.slice none 0 0), (.pointer (some ⟨b2, o2, none⟩)), (iV 0)] 137) fun eX jZ =>
rI jZ k3 0 fun zD =>
∃ Ul : IT, (∃ oN, Ul oN [(iV 0)] jZ) ∧
∀ (qd : Nat) (_ : Nat → Value) (tE : Int) (mZ : Mem), (Ul qd [(iV tE)] mZ) → aK (decide (tE < zD))
 (∃ Um : List Value → Mem → Prop, (rI mZ k3 2 fun n32 =>
 (rS mZ eX 5 fun Hs sR pH =>
 aa Tryz.prog 57 #[(iV n32)] mZ (fun Un zF =>
 cz (some Un) fun HJ =>
 aX zF (cl [(.pointer HJ), (iV 0), (iV (-1))] 141) fun lG Nh =>
 aA 132 Hs sR pH (some ⟨lG, 0, none⟩) 1 1 Nh (fun v41 Kf =>
 ay (some v41) fun Uo J5 E2 =>
 sT Kf eX 5 (.slice Uo J5 E2) fun HG =>
 Um [] HG) Kp) Kp) ∧
 (aa Tryz.prog 57 #[(iV n32)] mZ (fun v47 Pv =>
 cz (some v47) fun Up =>
 rS Pv eX 5 fun PD HE nm =>
 aX Pv (cl [(.pointer Up), (iV 0), (iV (-1))] 141) fun rj BT =>
 aA 132 PD HE nm (some ⟨rj, 0, none⟩) 1 1 BT (fun Qw Qx =>
 ay (some Qw) fun LD yQ F5 =>
 sT Qx eX 5 (.slice LD yQ F5) fun Aq =>
 Um [] Aq) Kp) Kp) ∧
 True) ∧
 ∀ Uq : Nat → Value, ∀ rm : Mem, (Um [] rm) → ∃ CK : Nat, (CK < qd) ∧
 Ul CK [(iV (IntKind.wrap .i64 (tE + 1)))] rm)
 (rI mZ k3 1 fun n64 =>
 ∃ Ur : IT, (∃ AB, Ur AB [(iV 0)] mZ) ∧
 ∀ (wG : Nat) (_ : Nat → Value) (Jw : Int) (D2 : Mem), (Ur wG [(iV Jw)] D2) → aK (decide (Jw < n64))
 (rS D2 eX 6 fun QW LP k73 =>
 aX D2 (cl [(iV (-1)), (iV (-1)), (iV 0)] 143) fun PC w5 =>
 aA 133 QW LP k73 (some ⟨PC, 0, none⟩) 1 1 w5 (fun v76 QV =>
 ay (some v76) fun A78 Jx Gf =>
 sT QV eX 6 (.slice A78 Jx Gf) fun PE =>
 ∃ Ge : Nat, (Ge < wG) ∧
 Ur Ge [(iV (IntKind.wrap .i64 (Jw + 1)))] PE) Kp)
 (aX D2 G7 fun Nn No =>
 aa Tryz.prog 58 #[(.pointer (some ⟨eX, 7, none⟩)), (.slice (some ⟨Nn, 0, none⟩) 1 1)] No (fun QX Ko =>
 (QX = (.tuple #[])) ∧
 K (.pointer (some ⟨eX, 0, none⟩)) Ko) Kp))) Kp) :
 aa Tryz.prog 15 #[.agg #[.slice qq qt qu, .slice qv qw qx, .int .i64 eR, .slice fS fT fU], .agg #[.int .i64 bP, .int .i64 bQ, .int .i64 bR, .int .i64 c9], .pointer (some ⟨b2, o2, none⟩)] M K Kp := vw [(1, .bL [0, 1, 0, 0, 15, 31, 63] (sy [3, 0] (.eo 2 (sy [1, 4, 5, 6] .done)))), (2000000, .loop [(16, .c (.int .i64))]), (4, .EN [0, 0, 2, 6, 14, 0, 32, 96, 224, 480, 1022, 2047, 4095, 8191] (sy [0, 1, 2, 3, 5, 6] (.fork 4 (sy [7, 8, 9, 10, 11, 12, 13] .done) (.fork 7 (sy [8, 4, 9, 10, 11, 12, 13] .done) .dead))) []), (2000002, .loop [(34, .c (.int .i64))])] Tryz.func15 h
theorem mz {b0 o0 : Nat} (h :
rP M b0 o0 fun A1 =>
K (.pointer A1) M) :
 aa Tryz.prog 18 #[.pointer (some ⟨b0, o0, none⟩)] M K Kp := vw [] Tryz.func18 h
theorem lA {b0 o0 : Nat} (h :
rP M b0 o0 fun A1 =>
aa Tryz.prog 28 #[(.pointer A1)] M (fun v2 M3 =>
∃ n4 n5 : Int, (v2 = (.tuple #[(iV n4), (iV n5)])) ∧
aK (n4 == 1)
 (K (iV 1) M3)
 (aK (n4 == 2)
 (K (iV 2) M3)
 (rP M3 b0 o0 fun A6 =>
 aa Tryz.prog 65 #[(.pointer A6)] M3 (fun v7 M8 =>
 cY (some v7) fun t9 =>
 aK t9
 (K (iV 3) M8)
 (K (iV 0) M8)) Kp))) Kp) :
 aa Tryz.prog 22 #[.pointer (some ⟨b0, o0, none⟩)] M K Kp := vw [] Tryz.func22 h
theorem mA {b0 o0 : Nat} (h :
rI M b0 (o0 + 9) fun n1 =>
K (iV n1) M) :
 aa Tryz.prog 35 #[.pointer (some ⟨b0, o0, none⟩)] M K Kp := vw [] Tryz.func35 h
theorem nW {b0 o0 : Nat} (h :
aX M (.cells #[(.int .i64 0), (.int .i64 0), (.int .i64 0), (.slice none 0 0)] 43 (0, 0)) fun k1 M2 =>
aa Tryz.prog 22 #[(.pointer (some ⟨b0, o0, none⟩))] M2 (fun v3 M4 =>
aE (some v3) .i64 fun n5 =>
aK (n5 != 0)
 (aF M4 ⟨k1, 0, none⟩ (.int .i64 0) fun M6 =>
 aF M6 ⟨k1, (0 + 1), none⟩ (.int .i64 0) fun M7 =>
 aF M7 ⟨k1, (0 + 2), none⟩ (.int .i64 0) fun M8 =>
 aF M8 ⟨k1, (0 + 3), none⟩ (.slice none 0 0) fun M9 =>
 aE (Mem.ld M9 ⟨k1, 0, none⟩) .i64 fun gA =>
 aE (Mem.ld M9 ⟨k1, (0 + 1), none⟩) .i64 fun fA =>
 aE (Mem.ld M9 ⟨k1, (0 + 2), none⟩) .i64 fun ek =>
 ay (Mem.ld M9 ⟨k1, (0 + 3), none⟩) fun F3 gS eV =>
 K (.agg #[(.int .i64 gA), (.int .i64 fA), (.int .i64 ek), (.slice F3 gS eV)]) M9)
 (cz (Mem.ld M4 ⟨b0, (o0 + 8), none⟩) fun LN =>
 aE (Mem.ld M4 ⟨b0, ((o0 + 1) + 1), none⟩) .i64 fun fB =>
 aa Tryz.prog 107 #[(.pointer LN), (.int .i64 1), (.int .i64 (IntKind.wrap .i64 (fB + 1)))] M4 (fun E1 jA =>
 aE (some E1) .i64 fun eP =>
 aX jA (.cells #[(.int .i64 0), (.int .i64 0), (.int .i64 0), (.slice none 0 0)] 43 (0, 0)) fun cU kx =>
 aE (Mem.ld kx ⟨b0, ((o0 + 1) + 1), none⟩) .i64 fun uQ =>
 aK (eP == uQ)
  (aa Tryz.prog 108 #[(.pointer (some ⟨b0, o0, none⟩))] kx (fun HD ud =>
  ∃ m8 : Int, ∃ tF : Int, ∃ oO : Int, ∃ Jq : Option Addr, ∃ jL : Nat, ∃ nt : Nat, (HD = (.agg #[(.int .i64 m8), (.int .i64 tF), (.int .i64 oO), (.slice Jq jL nt)])) ∧
  aF ud ⟨cU, 0, none⟩ (.int .i64 m8) fun m6 =>
  aF m6 ⟨cU, (0 + 1), none⟩ (.int .i64 tF) fun yV =>
  aF yV ⟨cU, (0 + 2), none⟩ (.int .i64 oO) fun kQ =>
  aF kQ ⟨cU, (0 + 3), none⟩ (.slice Jq jL nt) fun uZ =>
  aE (Mem.ld uZ ⟨b0, (o0 + 9), none⟩) .i64 fun r5 =>
  aF uZ ⟨b0, (o0 + 9), none⟩ (.int .i64 (IntKind.wrap .i64 (r5 + 1))) fun zF =>
  aE (Mem.ld zF ⟨cU, 0, none⟩) .i64 fun uN =>
  aE (Mem.ld zF ⟨cU, (0 + 1), none⟩) .i64 fun yM =>
  aE (Mem.ld zF ⟨cU, (0 + 2), none⟩) .i64 fun CJ =>
  ay (Mem.ld zF ⟨cU, (0 + 3), none⟩) fun Ni Ap yP =>
  aF zF ⟨k1, 0, none⟩ (.int .i64 uN) fun ug =>
  aF ug ⟨k1, (0 + 1), none⟩ (.int .i64 yM) fun sY =>
  aF sY ⟨k1, (0 + 2), none⟩ (.int .i64 CJ) fun HG =>
  aF HG ⟨k1, (0 + 3), none⟩ (.slice Ni Ap yP) fun tH =>
  aE (Mem.ld tH ⟨k1, 0, none⟩) .i64 fun BX =>
  aE (Mem.ld tH ⟨k1, (0 + 1), none⟩) .i64 fun LQ =>
  aE (Mem.ld tH ⟨k1, (0 + 2), none⟩) .i64 fun HB =>
  ay (Mem.ld tH ⟨k1, (0 + 3), none⟩) fun Jm nm rj =>
  K (.agg #[(.int .i64 BX), (.int .i64 LQ), (.int .i64 HB), (.slice Jm nm rj)]) tH) Kp)
  (ay (Mem.ld kx ⟨b0, (o0 + 6), none⟩) fun PB Kh Ki =>
  ((0 : Int) ≤ eP) ∧
  ((eP : Int) < ((Kh : Nat) : Int)) ∧
  az PB fun y4 yQ =>
  aE (Mem.ld kx ⟨y4, (yQ + ((Int.toNat eP) * 3)), none⟩) .i64 fun yN =>
  aK (yN == (-1))
   (aa Tryz.prog 109 #[(.pointer (some ⟨b0, o0, none⟩)), (.int .i64 eP)] kx (fun v60 yO =>
   ∃ Kg : Int, ∃ rT : Int, ∃ n64 : Int, ∃ LR : Option Addr, ∃ AB : Nat, ∃ wG : Nat, (v60 = (.agg #[(.int .i64 Kg), (.int .i64 rT), (.int .i64 n64), (.slice LR AB wG)])) ∧
   aF yO ⟨cU, 0, none⟩ (.int .i64 Kg) fun QU =>
   aF QU ⟨cU, (0 + 1), none⟩ (.int .i64 rT) fun SG =>
   aF SG ⟨cU, (0 + 2), none⟩ (.int .i64 n64) fun D2 =>
   aF D2 ⟨cU, (0 + 3), none⟩ (.slice LR AB wG) fun M71 =>
   aE (Mem.ld M71 ⟨b0, (o0 + 9), none⟩) .i64 fun Ng =>
   aF M71 ⟨b0, (o0 + 9), none⟩ (.int .i64 (IntKind.wrap .i64 (Ng + 1))) fun CN =>
   aE (Mem.ld CN ⟨cU, 0, none⟩) .i64 fun Jy =>
   aE (Mem.ld CN ⟨cU, (0 + 1), none⟩) .i64 fun Jo =>
   aE (Mem.ld CN ⟨cU, (0 + 2), none⟩) .i64 fun CC =>
   ay (Mem.ld CN ⟨cU, (0 + 3), none⟩) fun A77 QN Jx =>
   aF CN ⟨k1, 0, none⟩ (.int .i64 Jy) fun wZ =>
   aF wZ ⟨k1, (0 + 1), none⟩ (.int .i64 Jo) fun PE =>
   aF PE ⟨k1, (0 + 2), none⟩ (.int .i64 CC) fun Us =>
   aF Us ⟨k1, (0 + 3), none⟩ (.slice A77 QN Jx) fun Fa =>
   aE (Mem.ld Fa ⟨k1, 0, none⟩) .i64 fun Jp =>
   aE (Mem.ld Fa ⟨k1, (0 + 1), none⟩) .i64 fun Kr =>
   aE (Mem.ld Fa ⟨k1, (0 + 2), none⟩) .i64 fun PF =>
   ay (Mem.ld Fa ⟨k1, (0 + 3), none⟩) fun A87 HH Ut =>
   K (.agg #[(.int .i64 Jp), (.int .i64 Kr), (.int .i64 PF), (.slice A87 HH Ut)]) Fa) Kp)
   (ay (Mem.ld kx ⟨b0, (o0 + 6), none⟩) fun A90 k91 k92 =>
   ((0 : Int) ≤ eP) ∧
   ((eP : Int) < ((k91 : Nat) : Int)) ∧
   az A90 fun QY Kk =>
   aE (Mem.ld kx ⟨QY, ((Kk + ((Int.toNat eP) * 3)) + 1), none⟩) .i64 fun DY =>
   aK (DY == (-1))
    (aa Tryz.prog 110 #[(.pointer (some ⟨b0, o0, none⟩)), (.int .i64 eP)] kx (fun v96 Kl =>
    ∃ Sv : Int, ∃ PG : Int, ∃ qe : Int, ∃ QZ : Option Addr, ∃ y5 : Nat, ∃ qB : Nat, (v96 = (.agg #[(.int .i64 Sv), (.int .i64 PG), (.int .i64 qe), (.slice QZ y5 qB)])) ∧
    aF Kl ⟨cU, 0, none⟩ (.int .i64 Sv) fun tK =>
    aF tK ⟨cU, (0 + 1), none⟩ (.int .i64 PG) fun Kn =>
    aF Kn ⟨cU, (0 + 2), none⟩ (.int .i64 qe) fun Uu =>
    aF Uu ⟨cU, (0 + 3), none⟩ (.slice QZ y5 qB) fun Q2 =>
    aE (Mem.ld Q2 ⟨b0, (o0 + 9), none⟩) .i64 fun tL =>
    aF Q2 ⟨b0, (o0 + 9), none⟩ (.int .i64 (IntKind.wrap .i64 (tL + 1))) fun tD =>
    aE (Mem.ld tD ⟨cU, 0, none⟩) .i64 fun Hv =>
    aE (Mem.ld tD ⟨cU, (0 + 1), none⟩) .i64 fun Np =>
    aE (Mem.ld tD ⟨cU, (0 + 2), none⟩) .i64 fun yS =>
    ay (Mem.ld tD ⟨cU, (0 + 3), none⟩) fun Uv Uw Ux =>
    aF tD ⟨k1, 0, none⟩ (.int .i64 Hv) fun CO =>
    aF CO ⟨k1, (0 + 1), none⟩ (.int .i64 Np) fun CP =>
    aF CP ⟨k1, (0 + 2), none⟩ (.int .i64 yS) fun kD =>
    aF kD ⟨k1, (0 + 3), none⟩ (.slice Uv Uw Ux) fun AG =>
    aE (Mem.ld AG ⟨k1, 0, none⟩) .i64 fun u6 =>
    aE (Mem.ld AG ⟨k1, (0 + 1), none⟩) .i64 fun u7 =>
    aE (Mem.ld AG ⟨k1, (0 + 2), none⟩) .i64 fun HK =>
    ay (Mem.ld AG ⟨k1, (0 + 3), none⟩) fun Nq y8 Nr =>
    K (.agg #[(.int .i64 u6), (.int .i64 u7), (.int .i64 HK), (.slice Nq y8 Nr)]) AG) Kp)
    (aa Tryz.prog 111 #[(.pointer (some ⟨b0, o0, none⟩)), (.int .i64 eP)] kx (fun Uy Uz =>
    ∃ tM : Int, ∃ Fb : Int, ∃ Fc : Int, ∃ AH : Option Addr, ∃ u9 : Nat, ∃ Fe : Nat, (Uy = (.agg #[(.int .i64 tM), (.int .i64 Fb), (.int .i64 Fc), (.slice AH u9 Fe)])) ∧
    aF Uz ⟨cU, 0, none⟩ (.int .i64 tM) fun HL =>
    aF HL ⟨cU, (0 + 1), none⟩ (.int .i64 Fb) fun UA =>
    aF UA ⟨cU, (0 + 2), none⟩ (.int .i64 Fc) fun UB =>
    aF UB ⟨cU, (0 + 3), none⟩ (.slice AH u9 Fe) fun Ff =>
    aE (Mem.ld Ff ⟨b0, (o0 + 9), none⟩) .i64 fun Ks =>
    aF Ff ⟨b0, (o0 + 9), none⟩ (.int .i64 (IntKind.wrap .i64 (Ks + 1))) fun y9 =>
    aE (Mem.ld y9 ⟨cU, 0, none⟩) .i64 fun Ns =>
    aE (Mem.ld y9 ⟨cU, (0 + 1), none⟩) .i64 fun Nt =>
    aE (Mem.ld y9 ⟨cU, (0 + 2), none⟩) .i64 fun Nu =>
    ay (Mem.ld y9 ⟨cU, (0 + 3), none⟩) fun Nv Nw Nx =>
    aF y9 ⟨k1, 0, none⟩ (.int .i64 Ns) fun UC =>
    aF UC ⟨k1, (0 + 1), none⟩ (.int .i64 Nt) fun UD =>
    aF UD ⟨k1, (0 + 2), none⟩ (.int .i64 Nu) fun UE =>
    aF UE ⟨k1, (0 + 3), none⟩ (.slice Nv Nw Nx) fun AI =>
    aE (Mem.ld AI ⟨k1, 0, none⟩) .i64 fun za =>
    aE (Mem.ld AI ⟨k1, (0 + 1), none⟩) .i64 fun HM =>
    aE (Mem.ld AI ⟨k1, (0 + 2), none⟩) .i64 fun HN =>
    ay (Mem.ld AI ⟨k1, (0 + 3), none⟩) fun Ny HO Nz =>
    K (.agg #[(.int .i64 za), (.int .i64 HM), (.int .i64 HN), (.slice Ny HO Nz)]) AI) Kp)))) Kp)) Kp) :
 aa Tryz.prog 54 ([.pointer (some ⟨b0, o0, none⟩)] : List Value).toArray M K Kp :=
 bV (C := Cx) good [(3, .bL [0, 1, 3, 7, 0, 16, 48, 112, 240, 496, 1023, 2047] (.step 0 (.step 1 (.step 2 (.step 4 (.step 5 (.step 6 (.step 7 (.step 3 (.step 8 (.step 9 (.step 10 (.step 11 .done)))))))))))))] Tryz.func54 (by kernel_rfl) (by kernel_rfl) h
theorem nX {b0 o0 : Nat} (h :
aX M xN fun k1 M2 =>
rP M2 b0 o0 fun A3 =>
aa Tryz.prog 120 #[(.pointer A3)] M2 (fun v4 M5 =>
ay (some v4) fun A6 k7 k8 =>
aa Tryz.prog 58 #[(.pointer (some ⟨b0, (o0 + 7), none⟩)), (.slice A6 k7 k8)] M5 (fun v9 iQ =>
(v9 = (.tuple #[])) ∧
MT iQ k1 (iV 1) (iV (-1)) (iV (-1)) (.slice A6 k7 k8) fun jz =>
DU jz k1 0 fun fk jf fB Js gN iT =>
K (.agg #[(iV fk), (iV jf), (iV fB), (.slice Js gN iT)]) jz) Kp) Kp) :
 aa Tryz.prog 108 #[.pointer (some ⟨b0, o0, none⟩)] M K Kp := vw [] Tryz.func108 h
theorem nY {b0 o0 : Nat} {x1 : Int} (h :
aX M xN fun k1 M2 =>
rS M2 b0 (o0 + 5) fun A3 k4 k5 =>
∃ I6 : IT, (∃ k7, I6 k7 [(iV 0)] M2) ∧
∀ (k8 : Nat) (_ : Nat → Value) (gA : Int) (iW : Mem), (I6 k8 [(iV gA)] iW) → aK (decide (gA < k4))
 (rS iW b0 (o0 + 5) fun wO cI gS =>
 (0 ≤ gA) ∧
 (gA < cI) ∧
 az wO fun eV dk =>
 rI iW eV ((dk + ((Int.toNat gA) * 3)) + 2) fun fB =>
 aK (fB == (-1))
 (rS iW b0 (o0 + 5) fun Js gN iT =>
 rS iW b0 (o0 + 6) fun wT eX hO =>
 (0 ≤ gA) ∧
 (gA < gN) ∧
 az Js fun kU oq =>
 sT iW kU ((oq + ((Int.toNat gA) * 3)) + 2) (iV x1) fun uf =>
 ((0 : Int) ≤ x1) ∧
 ((x1 : Int) < eX) ∧
 az wT fun qd nv =>
 sT uf qd (nv + ((Int.toNat x1) * 3)) (iV gA) fun iR =>
 MT iR k1 (iV 2) (iV x1) (iV (-1)) (.slice none 0 0) fun yV =>
 DU yV k1 0 fun D1 wW r5 BZ fC lG =>
 K (.agg #[(iV D1), (iV wW), (iV r5), (.slice BZ fC lG)]) yV)
 (∃ wB : Nat, (wB < k8) ∧
 I6 wB [(iV (IntKind.wrap .i64 (gA + 1)))] iW))
 (sT iW k1 0 (iV 3) fun AA =>
 sT AA k1 1 (iV x1) fun Kf =>
 sT Kf k1 2 (iV (-1)) fun wF =>
 sT wF k1 3 (.slice none 0 0) fun ug =>
 DU ug k1 0 fun tG wX ru Gg Ga Jn =>
 K (.agg #[(iV tG), (iV wX), (iV ru), (.slice Gg Ga Jn)]) ug)) :
 aa Tryz.prog 109 #[.pointer (some ⟨b0, o0, none⟩), .int .i64 x1] M K Kp := vw [(2000000, .loop [(11, .c (.int .i64))]), (5, .bL [0, 1, 3, 7, 0, 0, 32, 96, 224, 0, 0, 0, 1535, 5631, 13823, 32767, 65535, 131071] (sy [0, 1, 2, 4, 5, 6, 7, 9, 10, 11, 3, 8, 12, 13, 14, 15, 16, 17] .done))] Tryz.func109 h
theorem nZ {b0 o0 : Nat} {x1 : Int} (h :
aX M (.cells #[(.int .i64 0), (.int .i64 0), (.int .i64 0), (.slice none 0 0)] 43 (0, 0)) fun k1 M2 =>
ay (Mem.ld M2 ⟨b0, (o0 + 5), none⟩) fun A3 k4 k5 =>
ay (Mem.ld M2 ⟨b0, (o0 + 6), none⟩) fun A6 k7 k8 =>
((0 : Int) ≤ x1) ∧
((x1 : Int) < ((k7 : Nat) : Int)) ∧
az A6 fun k9 cX =>
aE (Mem.ld M2 ⟨k9, (cX + ((Int.toNat x1) * 3)), none⟩) .i64 fun fA =>
((0 : Int) ≤ fA) ∧
((fA : Int) < ((k4 : Nat) : Int)) ∧
az A3 fun di cI =>
ay (Mem.ld M2 ⟨b0, (o0 + 6), none⟩) fun gz eV dk =>
((0 : Int) ≤ x1) ∧
((x1 : Int) < ((eV : Nat) : Int)) ∧
az gz fun dm dK =>
aE (Mem.ld M2 ⟨dm, ((dK + ((Int.toNat x1) * 3)) + 2), none⟩) .i64 fun iS =>
aK (decide ((iS : Int) > 0))
 (cz (Mem.ld M2 ⟨di, (cI + ((Int.toNat fA) * 3)), none⟩) fun D3 =>
 aa Tryz.prog 148 #[(.pointer D3)] M2 (fun QM kx =>
 aE (some QM) .i64 fun uQ =>
 ∃ J24 : List Value → Mem → Prop, (aK (uQ != (-1))
  (cz (Mem.ld kx ⟨di, (cI + ((Int.toNat fA) * 3)), none⟩) fun Qv =>
   ay (Mem.ld kx ⟨b0, (o0 + 6), none⟩) fun D4 qd nv =>
   aa Tryz.prog 149 #[(.pointer Qv)] kx (fun NA mZ =>
   ∃ sP : Int, ∃ t32 : Bool, (NA = (.tuple #[(.int .i64 sP), (.bool t32)])) ∧
   ((Mem.ld mZ ⟨b0, (o0 + 6), none⟩) = (some (.slice D4 qd nv))) ∧
   ((0 : Int) ≤ x1) ∧
   ((x1 : Int) < ((qd : Nat) : Int)) ∧
   az D4 fun kX sR =>
   aF mZ ⟨kX, ((sR + ((Int.toNat x1) * 3)) + 1), none⟩ (.int .i64 sP) fun uZ =>
   ((Mem.ld uZ ⟨b0, (o0 + 6), none⟩) = (some (.slice D4 qd nv))) ∧
   ay (Mem.ld uZ ⟨b0, (o0 + 6), none⟩) fun HC sX fC =>
   ((0 : Int) ≤ x1) ∧
   ((x1 : Int) < ((sX : Nat) : Int)) ∧
   az HC fun lG wB =>
   aE (Mem.ld uZ ⟨lG, ((wB + ((Int.toNat x1) * 3)) + 1), none⟩) .i64 fun CQ =>
   aF uZ ⟨k1, 0, none⟩ (.int .i64 4) fun Kf =>
   aF Kf ⟨k1, (0 + 1), none⟩ (.int .i64 x1) fun wF =>
   aF wF ⟨k1, (0 + 2), none⟩ (.int .i64 CQ) fun ug =>
   aF ug ⟨k1, (0 + 3), none⟩ (.slice none 0 0) fun sY =>
   aE (Mem.ld sY ⟨k1, 0, none⟩) .i64 fun wX =>
   aE (Mem.ld sY ⟨k1, (0 + 1), none⟩) .i64 fun ru =>
   aE (Mem.ld sY ⟨k1, (0 + 2), none⟩) .i64 fun BX =>
   ay (Mem.ld sY ⟨k1, (0 + 3), none⟩) fun Up Jn HE =>
   K (.agg #[(.int .i64 wX), (.int .i64 ru), (.int .i64 BX), (.slice Up Jn HE)]) sY) Kp)
  (J24 [] kx)) ∧
 ∀ UF : Nat → Value, ∀ E9 : Mem, (J24 [] E9) → aa Tryz.prog 150 #[(.pointer (some ⟨b0, o0, none⟩)), (.pointer (some ⟨di, (cI + ((Int.toNat fA) * 3)), none⟩))] E9 (fun Fg r8 =>
 ∃ wH : Int, ∃ t57 : Bool, (Fg = (.tuple #[(.int .i64 wH), (.bool t57)])) ∧
 aK (!t57)
  (aE (Mem.ld r8 ⟨b0, (o0 + 1), none⟩) .i64 fun zC =>
  ∃ NB : List Value → Mem → Prop, (aK (decide ((zC : Int) > 1))
   (cz (Mem.ld r8 ⟨b0, (o0 + 8), none⟩) fun UG =>
    aE (Mem.ld r8 ⟨b0, (o0 + 1), none⟩) .i64 fun yR =>
    aa Tryz.prog 107 #[(.pointer UG), (.int .i64 2), (.int .i64 yR)] r8 (fun Kd tB =>
    aE (some Kd) .i64 fun n64 =>
    cz (Mem.ld tB ⟨di, (cI + ((Int.toNat fA) * 3)), none⟩) fun LR =>
    ay (Mem.ld tB ⟨b0, (o0 + 5), none⟩) fun HQ wG Gh =>
    ((0 : Int) ≤ n64) ∧
    ((n64 : Int) < ((wG : Nat) : Int)) ∧
    az HQ fun LS Gd =>
    cz (Mem.ld tB ⟨LS, (Gd + ((Int.toNat n64) * 3)), none⟩) fun QW =>
    aa Tryz.prog 151 #[(.pointer LR), (.pointer QW)] tB (fun UH CN =>
    ∃ Jy : Int, ∃ t75 : Bool, (UH = (.tuple #[(.int .i64 Jy), (.bool t75)])) ∧
    NB [(.int .i64 5), (.int .i64 Jy), (.bool t75)] CN) Kp) Kp)
   (NB [(.int .i64 4), (.int .i64 wH), (.bool t57)] r8)) ∧
  ∀ NC : Nat → Value, ∀ uO : Int, ∀ w6 : Int, ∀ t79 : Bool, ∀ wZ : Mem, (NB [(.int .i64 uO), (.int .i64 w6), (.bool t79)] wZ) → aK (!t79)
   (ay (Mem.ld wZ ⟨b0, (o0 + 6), none⟩) fun Nl Ge Nn =>
   aF wZ ⟨di, ((cI + ((Int.toNat fA) * 3)) + 2), none⟩ (.int .i64 (-1)) fun No =>
   ((0 : Int) ≤ x1) ∧
   ((x1 : Int) < ((Ge : Nat) : Int)) ∧
   az Nl fun Fh Fi =>
   aF No ⟨Fh, (Fi + ((Int.toNat x1) * 3)), none⟩ (.int .i64 (-1)) fun Kt =>
   aF Kt ⟨Fh, ((Fi + ((Int.toNat x1) * 3)) + 1), none⟩ (.int .i64 (-1)) fun Q3 =>
   aF Q3 ⟨Fh, ((Fi + ((Int.toNat x1) * 3)) + 2), none⟩ (.int .i64 0) fun CM =>
   aF CM ⟨k1, 0, none⟩ (.int .i64 6) fun Q4 =>
   aF Q4 ⟨k1, (0 + 1), none⟩ (.int .i64 x1) fun oP =>
   aF oP ⟨k1, (0 + 2), none⟩ (.int .i64 (-1)) fun gI =>
   aF gI ⟨k1, (0 + 3), none⟩ (.slice none 0 0) fun va =>
   aE (Mem.ld va ⟨k1, 0, none⟩) .i64 fun F8 =>
   aE (Mem.ld va ⟨k1, (0 + 1), none⟩) .i64 fun DY =>
   aE (Mem.ld va ⟨k1, (0 + 2), none⟩) .i64 fun F9 =>
   ay (Mem.ld va ⟨k1, (0 + 3), none⟩) fun LU Ku LV =>
   K (.agg #[(.int .i64 F8), (.int .i64 DY), (.int .i64 F9), (.slice LU Ku LV)]) va)
   (aE (Mem.ld wZ ⟨di, ((cI + ((Int.toNat fA) * 3)) + 1), none⟩) .i64 fun qe =>
   aF wZ ⟨di, ((cI + ((Int.toNat fA) * 3)) + 1), none⟩ (.int .i64 (IntKind.wrap .i64 (qe + 1))) fun kF =>
   ay (Mem.ld kF ⟨b0, (o0 + 6), none⟩) fun zb qB Fj =>
   ay (Mem.ld kF ⟨b0, (o0 + 6), none⟩) fun r9 nQ zc =>
   aE (Mem.ld kF ⟨b0, ((o0 + 1) + 3), none⟩) .i64 fun tL =>
   ((0 : Int) ≤ x1) ∧
   ((x1 : Int) < ((qB : Nat) : Int)) ∧
   az zb fun zd CR =>
   aF kF ⟨zd, ((CR + ((Int.toNat x1) * 3)) + 1), none⟩ (.int .i64 w6) fun mB =>
   ((0 : Int) ≤ x1) ∧
   ((x1 : Int) < ((nQ : Nat) : Int)) ∧
   az r9 fun AJ HR =>
   aF mB ⟨AJ, ((HR + ((Int.toNat x1) * 3)) + 2), none⟩ (.int .i64 tL) fun HS =>
   aF HS ⟨k1, 0, none⟩ (.int .i64 uO) fun HT =>
   aF HT ⟨k1, (0 + 1), none⟩ (.int .i64 x1) fun CO =>
   aF CO ⟨k1, (0 + 2), none⟩ (.int .i64 w6) fun CP =>
   aF CP ⟨k1, (0 + 3), none⟩ (.slice none 0 0) fun kD =>
   aE (Mem.ld kD ⟨k1, 0, none⟩) .i64 fun CS =>
   aE (Mem.ld kD ⟨k1, (0 + 1), none⟩) .i64 fun u6 =>
   aE (Mem.ld kD ⟨k1, (0 + 2), none⟩) .i64 fun u7 =>
   ay (Mem.ld kD ⟨k1, (0 + 3), none⟩) fun HU HV y8 =>
   K (.agg #[(.int .i64 CS), (.int .i64 u6), (.int .i64 u7), (.slice HU HV y8)]) kD))
  (∃ HW : List Value → Mem → Prop, (HW [(.int .i64 4), (.int .i64 wH), (.bool t57)] r8) ∧
  ∀ Kv : Nat → Value, ∀ vb : Int, ∀ tM : Int, ∀ t129 : Bool, ∀ ve : Mem, (HW [(.int .i64 vb), (.int .i64 tM), (.bool t129)] ve) → aK (!t129)
   (ay (Mem.ld ve ⟨b0, (o0 + 6), none⟩) fun AH u9 Fe =>
   aF ve ⟨di, ((cI + ((Int.toNat fA) * 3)) + 2), none⟩ (.int .i64 (-1)) fun HL =>
   ((0 : Int) ≤ x1) ∧
   ((x1 : Int) < ((u9 : Nat) : Int)) ∧
   az AH fun ze zf =>
   aF HL ⟨ze, (zf + ((Int.toNat x1) * 3)), none⟩ (.int .i64 (-1)) fun Ff =>
   aF Ff ⟨ze, ((zf + ((Int.toNat x1) * 3)) + 1), none⟩ (.int .i64 (-1)) fun CT =>
   aF CT ⟨ze, ((zf + ((Int.toNat x1) * 3)) + 2), none⟩ (.int .i64 0) fun y9 =>
   aF y9 ⟨k1, 0, none⟩ (.int .i64 6) fun ND =>
   aF ND ⟨k1, (0 + 1), none⟩ (.int .i64 x1) fun NF =>
   aF NF ⟨k1, (0 + 2), none⟩ (.int .i64 (-1)) fun NG =>
   aF NG ⟨k1, (0 + 3), none⟩ (.slice none 0 0) fun vf =>
   aE (Mem.ld vf ⟨k1, 0, none⟩) .i64 fun NH =>
   aE (Mem.ld vf ⟨k1, (0 + 1), none⟩) .i64 fun NI =>
   aE (Mem.ld vf ⟨k1, (0 + 2), none⟩) .i64 fun NJ =>
   ay (Mem.ld vf ⟨k1, (0 + 3), none⟩) fun NK HX NL =>
   K (.agg #[(.int .i64 NH), (.int .i64 NI), (.int .i64 NJ), (.slice NK HX NL)]) vf)
   (aE (Mem.ld ve ⟨di, ((cI + ((Int.toNat fA) * 3)) + 1), none⟩) .i64 fun za =>
   aF ve ⟨di, ((cI + ((Int.toNat fA) * 3)) + 1), none⟩ (.int .i64 (IntKind.wrap .i64 (za + 1))) fun zg =>
   ay (Mem.ld zg ⟨b0, (o0 + 6), none⟩) fun NM NN HO =>
   ay (Mem.ld zg ⟨b0, (o0 + 6), none⟩) fun NO NP NQ =>
   aE (Mem.ld zg ⟨b0, ((o0 + 1) + 3), none⟩) .i64 fun NR =>
   ((0 : Int) ≤ x1) ∧
   ((x1 : Int) < ((NN : Nat) : Int)) ∧
   az NM fun HY HZ =>
   aF zg ⟨HY, ((HZ + ((Int.toNat x1) * 3)) + 1), none⟩ (.int .i64 tM) fun NS =>
   ((0 : Int) ≤ x1) ∧
   ((x1 : Int) < ((NP : Nat) : Int)) ∧
   az NO fun H6 H7 =>
   aF NS ⟨H6, ((H7 + ((Int.toNat x1) * 3)) + 2), none⟩ (.int .i64 NR) fun NT =>
   aF NT ⟨k1, 0, none⟩ (.int .i64 vb) fun NU =>
   aF NU ⟨k1, (0 + 1), none⟩ (.int .i64 x1) fun NV =>
   aF NV ⟨k1, (0 + 2), none⟩ (.int .i64 tM) fun H8 =>
   aF H8 ⟨k1, (0 + 3), none⟩ (.slice none 0 0) fun vg =>
   aE (Mem.ld vg ⟨k1, 0, none⟩) .i64 fun H9 =>
   aE (Mem.ld vg ⟨k1, (0 + 1), none⟩) .i64 fun NW =>
   aE (Mem.ld vg ⟨k1, (0 + 2), none⟩) .i64 fun Fk =>
   ay (Mem.ld vg ⟨k1, (0 + 3), none⟩) fun NX NY NZ =>
   K (.agg #[(.int .i64 H9), (.int .i64 NW), (.int .i64 Fk), (.slice NX NY NZ)]) vg))) Kp) Kp)
 (∃ Q5 : List Value → Mem → Prop, (Q5 [] M2) ∧
 ∀ SH : Nat → Value, ∀ Q6 : Mem, (Q5 [] Q6) → aa Tryz.prog 150 #[(.pointer (some ⟨b0, o0, none⟩)), (.pointer (some ⟨di, (cI + ((Int.toNat fA) * 3)), none⟩))] Q6 (fun UI Fl =>
 ∃ Fm : Int, ∃ t181 : Bool, (UI = (.tuple #[(.int .i64 Fm), (.bool t181)])) ∧
 aK (!t181)
  (aE (Mem.ld Fl ⟨b0, (o0 + 1), none⟩) .i64 fun Fo =>
  ∃ N0 : List Value → Mem → Prop, (aK (decide ((Fo : Int) > 1))
   (cz (Mem.ld Fl ⟨b0, (o0 + 8), none⟩) fun UJ =>
    aE (Mem.ld Fl ⟨b0, (o0 + 1), none⟩) .i64 fun Fp =>
    aa Tryz.prog 107 #[(.pointer UJ), (.int .i64 2), (.int .i64 Fp)] Fl (fun UK Kw =>
    aE (some UK) .i64 fun Ia =>
    cz (Mem.ld Kw ⟨di, (cI + ((Int.toNat fA) * 3)), none⟩) fun UL =>
    ay (Mem.ld Kw ⟨b0, (o0 + 5), none⟩) fun UM UN Q7 =>
    ((0 : Int) ≤ Ia) ∧
    ((Ia : Int) < ((UN : Nat) : Int)) ∧
    az UM fun N1 UO =>
    cz (Mem.ld Kw ⟨N1, (UO + ((Int.toNat Ia) * 3)), none⟩) fun UP =>
    aa Tryz.prog 151 #[(.pointer UL), (.pointer UP)] Kw (fun UQ UR =>
    ∃ Fq : Int, ∃ t199 : Bool, (UQ = (.tuple #[(.int .i64 Fq), (.bool t199)])) ∧
    N0 [(.int .i64 5), (.int .i64 Fq), (.bool t199)] UR) Kp) Kp)
   (N0 [(.int .i64 4), (.int .i64 Fm), (.bool t181)] Fl)) ∧
  ∀ SI : Nat → Value, ∀ Kx : Int, ∀ Ib : Int, ∀ t203 : Bool, ∀ jR : Mem, (N0 [(.int .i64 Kx), (.int .i64 Ib), (.bool t203)] jR) → aK (!t203)
   (ay (Mem.ld jR ⟨b0, (o0 + 6), none⟩) fun US UT k207 =>
   aF jR ⟨di, ((cI + ((Int.toNat fA) * 3)) + 2), none⟩ (.int .i64 (-1)) fun UU =>
   ((0 : Int) ≤ x1) ∧
   ((x1 : Int) < ((UT : Nat) : Int)) ∧
   az US fun N2 Ic =>
   aF UU ⟨N2, (Ic + ((Int.toNat x1) * 3)), none⟩ (.int .i64 (-1)) fun UW =>
   aF UW ⟨N2, ((Ic + ((Int.toNat x1) * 3)) + 1), none⟩ (.int .i64 (-1)) fun UX =>
   aF UX ⟨N2, ((Ic + ((Int.toNat x1) * 3)) + 2), none⟩ (.int .i64 0) fun N3 =>
   aF N3 ⟨k1, 0, none⟩ (.int .i64 6) fun UY =>
   aF UY ⟨k1, (0 + 1), none⟩ (.int .i64 x1) fun UZ =>
   aF UZ ⟨k1, (0 + 2), none⟩ (.int .i64 (-1)) fun N4 =>
   aF N4 ⟨k1, (0 + 3), none⟩ (.slice none 0 0) fun Ie =>
   aE (Mem.ld Ie ⟨k1, 0, none⟩) .i64 fun Fs =>
   aE (Mem.ld Ie ⟨k1, (0 + 1), none⟩) .i64 fun Ft =>
   aE (Mem.ld Ie ⟨k1, (0 + 2), none⟩) .i64 fun N5 =>
   ay (Mem.ld Ie ⟨k1, (0 + 3), none⟩) fun U0 Ky U1 =>
   K (.agg #[(.int .i64 Fs), (.int .i64 Ft), (.int .i64 N5), (.slice U0 Ky U1)]) Ie)
   (aE (Mem.ld jR ⟨di, ((cI + ((Int.toNat fA) * 3)) + 1), none⟩) .i64 fun U2 =>
   aF jR ⟨di, ((cI + ((Int.toNat fA) * 3)) + 1), none⟩ (.int .i64 (IntKind.wrap .i64 (U2 + 1))) fun Kz =>
   ay (Mem.ld Kz ⟨b0, (o0 + 6), none⟩) fun U3 U4 Q8 =>
   ay (Mem.ld Kz ⟨b0, (o0 + 6), none⟩) fun U5 U6 k231 =>
   aE (Mem.ld Kz ⟨b0, ((o0 + 1) + 3), none⟩) .i64 fun N6 =>
   ((0 : Int) ≤ x1) ∧
   ((x1 : Int) < ((U4 : Nat) : Int)) ∧
   az U3 fun U7 U8 =>
   aF Kz ⟨U7, ((U8 + ((Int.toNat x1) * 3)) + 1), none⟩ (.int .i64 Ib) fun U9 =>
   ((0 : Int) ≤ x1) ∧
   ((x1 : Int) < ((U6 : Nat) : Int)) ∧
   az U5 fun Va Vb =>
   aF U9 ⟨Va, ((Vb + ((Int.toNat x1) * 3)) + 2), none⟩ (.int .i64 N6) fun Vc =>
   aF Vc ⟨k1, 0, none⟩ (.int .i64 Kx) fun Vd =>
   aF Vd ⟨k1, (0 + 1), none⟩ (.int .i64 x1) fun Ve =>
   aF Ve ⟨k1, (0 + 2), none⟩ (.int .i64 Ib) fun Vf =>
   aF Vf ⟨k1, (0 + 3), none⟩ (.slice none 0 0) fun AK =>
   aE (Mem.ld AK ⟨k1, 0, none⟩) .i64 fun N7 =>
   aE (Mem.ld AK ⟨k1, (0 + 1), none⟩) .i64 fun N8 =>
   aE (Mem.ld AK ⟨k1, (0 + 2), none⟩) .i64 fun N9 =>
   ay (Mem.ld AK ⟨k1, (0 + 3), none⟩) fun Oa Ig Ob =>
   K (.agg #[(.int .i64 N7), (.int .i64 N8), (.int .i64 N9), (.slice Oa Ig Ob)]) AK))
  (∃ Q9 : List Value → Mem → Prop, (Q9 [(.int .i64 4), (.int .i64 Fm), (.bool t181)] Fl) ∧
  ∀ SJ : Nat → Value, ∀ KA : Int, ∀ CU : Int, ∀ t253 : Bool, ∀ Ih : Mem, (Q9 [(.int .i64 KA), (.int .i64 CU), (.bool t253)] Ih) → aK (!t253)
   (ay (Mem.ld Ih ⟨b0, (o0 + 6), none⟩) fun Vg Vh k257 =>
   aF Ih ⟨di, ((cI + ((Int.toNat fA) * 3)) + 2), none⟩ (.int .i64 (-1)) fun Vi =>
   ((0 : Int) ≤ x1) ∧
   ((x1 : Int) < ((Vh : Nat) : Int)) ∧
   az Vg fun Ii Oc =>
   aF Vi ⟨Ii, (Oc + ((Int.toNat x1) * 3)), none⟩ (.int .i64 (-1)) fun Vj =>
   aF Vj ⟨Ii, ((Oc + ((Int.toNat x1) * 3)) + 1), none⟩ (.int .i64 (-1)) fun Vk =>
   aF Vk ⟨Ii, ((Oc + ((Int.toNat x1) * 3)) + 2), none⟩ (.int .i64 0) fun Vl =>
   aF Vl ⟨k1, 0, none⟩ (.int .i64 6) fun Ij =>
   aF Ij ⟨k1, (0 + 1), none⟩ (.int .i64 x1) fun Vm =>
   aF Vm ⟨k1, (0 + 2), none⟩ (.int .i64 (-1)) fun Vn =>
   aF Vn ⟨k1, (0 + 3), none⟩ (.slice none 0 0) fun Ik =>
   aE (Mem.ld Ik ⟨k1, 0, none⟩) .i64 fun Od =>
   aE (Mem.ld Ik ⟨k1, (0 + 1), none⟩) .i64 fun Vo =>
   aE (Mem.ld Ik ⟨k1, (0 + 2), none⟩) .i64 fun Vp =>
   ay (Mem.ld Ik ⟨k1, (0 + 3), none⟩) fun Vq Vr Oe =>
   K (.agg #[(.int .i64 Od), (.int .i64 Vo), (.int .i64 Vp), (.slice Vq Vr Oe)]) Ik)
   (aE (Mem.ld Ih ⟨di, ((cI + ((Int.toNat fA) * 3)) + 1), none⟩) .i64 fun Vs =>
   aF Ih ⟨di, ((cI + ((Int.toNat fA) * 3)) + 1), none⟩ (.int .i64 (IntKind.wrap .i64 (Vs + 1))) fun KB =>
   ay (Mem.ld KB ⟨b0, (o0 + 6), none⟩) fun Vt Vu k278 =>
   ay (Mem.ld KB ⟨b0, (o0 + 6), none⟩) fun Vv Vw k281 =>
   aE (Mem.ld KB ⟨b0, ((o0 + 1) + 3), none⟩) .i64 fun Of =>
   ((0 : Int) ≤ x1) ∧
   ((x1 : Int) < ((Vu : Nat) : Int)) ∧
   az Vt fun Vx Vy =>
   aF KB ⟨Vx, ((Vy + ((Int.toNat x1) * 3)) + 1), none⟩ (.int .i64 CU) fun Vz =>
   ((0 : Int) ≤ x1) ∧
   ((x1 : Int) < ((Vw : Nat) : Int)) ∧
   az Vv fun Og VA =>
   aF Vz ⟨Og, ((VA + ((Int.toNat x1) * 3)) + 2), none⟩ (.int .i64 Of) fun VB =>
   aF VB ⟨k1, 0, none⟩ (.int .i64 KA) fun VC =>
   aF VC ⟨k1, (0 + 1), none⟩ (.int .i64 x1) fun VD =>
   aF VD ⟨k1, (0 + 2), none⟩ (.int .i64 CU) fun VE =>
   aF VE ⟨k1, (0 + 3), none⟩ (.slice none 0 0) fun Il =>
   aE (Mem.ld Il ⟨k1, 0, none⟩) .i64 fun Oh =>
   aE (Mem.ld Il ⟨k1, (0 + 1), none⟩) .i64 fun Oi =>
   aE (Mem.ld Il ⟨k1, (0 + 2), none⟩) .i64 fun Oj =>
   ay (Mem.ld Il ⟨k1, (0 + 3), none⟩) fun VF VG VH =>
   K (.agg #[(.int .i64 Oh), (.int .i64 Oi), (.int .i64 Oj), (.slice VF VG VH)]) Il))) Kp)) :
 aa Tryz.prog 110 ([.pointer (some ⟨b0, o0, none⟩), .int .i64 x1] : List Value).toArray M K Kp :=
 bV (C := Cx) good [(1, .bL [0, 1, 3, 7, 0, 16, 48, 112, 0, 496, 1008, 2032, 4095, 8191] (.step 0 (.step 1 (.step 2 (.step 4 (.step 5 (.step 6 (.step 8 (.step 3 (.step 7 (.step 9 (.step 10 (.step 11 (.step 12 (.step 13 .done))))))))))))))), (3000039, .cut []), (3, .bL [0, 1, 3, 7, 0, 0, 32, 96, 224, 480, 992, 2016, 2016, 4095, 12287, 28671] (.step 0 (.step 1 (.step 2 (.step 4 (.step 5 (.step 6 (.step 7 (.step 8 (.eo 3 (.step 9 (.step 10 (.step 11 (.step 12 (.step 13 (.step 14 (.step 15 .done))))))))))))))))), (3000080, .cut [(6, .c (.int .i64)), (7, .c (.int .i64)), (8, .c .bool)]), (8, .bL [0, 1, 3, 7, 0, 16, 48, 112, 240, 511, 1023] (.step 0 (.step 1 (.step 2 (.step 4 (.step 5 (.step 6 (.step 7 (.step 3 (.step 8 (.step 9 (.step 10 .done)))))))))))), (10, .bL [0, 1, 3, 7, 0, 16, 48, 112, 0, 496, 1008, 2032, 4095, 8191, 16383, 16383, 32767, 131071] (.step 0 (.step 1 (.step 2 (.step 4 (.step 5 (.step 6 (.step 8 (.step 3 (.step 7 (.step 9 (.step 10 (.step 11 (.step 12 (.step 13 (.step 14 (.step 15 (.step 16 (.step 17 .done))))))))))))))))))), (15, .bL [0, 1, 3, 7, 0, 0, 32, 96, 224, 0, 0, 0, 2048, 6144, 14336, 30720, 65023, 130559, 261631, 524287, 1048575, 2097151] (.step 0 (.step 1 (.step 2 (.step 4 (.step 5 (.step 6 (.step 7 (.step 9 (.step 10 (.step 11 (.step 12 (.step 13 (.step 14 (.step 3 (.step 8 (.step 15 (.step 16 (.step 17 (.step 18 (.step 19 (.step 20 (.step 21 .done)))))))))))))))))))))))] Tryz.func110 (by kernel_rfl) (by kernel_rfl) h
theorem pb {b0 o0 : Nat} {x1 : Int} (h :
aX M (.cells #[(.int .i64 0), (.int .i64 0), (.int .i64 0), (.slice none 0 0)] 43 (0, 0)) fun k1 M2 =>
ay (Mem.ld M2 ⟨b0, (o0 + 6), none⟩) fun A3 k4 k5 =>
((0 : Int) ≤ x1) ∧
((x1 : Int) < ((k4 : Nat) : Int)) ∧
az A3 fun k6 k7 =>
aE (Mem.ld M2 ⟨k6, ((k7 + ((Int.toNat x1) * 3)) + 1), none⟩) .i64 fun n8 =>
cz (Mem.ld M2 ⟨b0, o0, none⟩) fun A9 =>
cz (Mem.ld M2 ⟨b0, (o0 + 8), none⟩) fun wz =>
(True) ∧
aa Tryz.prog 121 #[(.pointer A9), (.int .i64 n8), (.func (.func 107) #[(.pointer wz)] #[])] M2 (fun v11 ri =>
∃ t13 : Bool, ∃ gz : Option Addr, ∃ eV : Nat, ∃ dk : Nat, (v11 = (.agg #[(.bool t13), (.slice gz eV dk)])) ∧
aX ri (.cells #[(.bool false), (.slice none 0 0)] 250 (0, 0)) fun dm kP =>
aF kP ⟨dm, 0, none⟩ (.bool t13) fun jA =>
aF jA ⟨dm, (0 + 1), none⟩ (.slice gz eV dk) fun oM =>
ay (Mem.ld oM ⟨dm, (0 + 1), none⟩) fun wT eX hO =>
∃ Ol : Nat → List Value → Mem → Prop, (∃ oq : Nat, Ol oq [(.int .i64 0)] oM) ∧
∀ oN : Nat, ∀ Om : Nat → Value, ∀ oO : Int, ∀ iR : Mem, (Ol oN [(.int .i64 oO)] iR) → aK (decide ((oO : Int) < ((eX : Nat) : Int)))
 (((0 : Int) ≤ oO) ∧
 ((oO : Int) < ((eX : Nat) : Int)) ∧
 az wT fun jL nt =>
 aE (Mem.ld iR ⟨jL, (nt + (Int.toNat oO)), none⟩) .i64 fun n32 =>
 ay (Mem.ld iR ⟨b0, (o0 + 5), none⟩) fun Hs sR pH =>
 aE (Mem.ld iR ⟨k6, (k7 + ((Int.toNat x1) * 3)), none⟩) .i64 fun r5 =>
 ((0 : Int) ≤ r5) ∧
 ((r5 : Int) < ((sR : Nat) : Int)) ∧
 az Hs fun sX fC =>
 cz (Mem.ld iR ⟨sX, (fC + ((Int.toNat r5) * 3)), none⟩) fun MW =>
 aa Tryz.prog 152 #[(.pointer MW), (.int .i64 n32), (.pointer (some ⟨b0, (o0 + 7), none⟩))] iR (fun Kc AA =>
 aE (some Kc) .i64 fun wE =>
 ∃ yP : Nat, (yP < oN) ∧
 Ol yP [(.int .i64 (IntKind.wrap .i64 (oO + 1)))] AA) Kp)
 (aE (Mem.ld iR ⟨k6, ((k7 + ((Int.toNat x1) * 3)) + 2), none⟩) .i64 fun sW =>
 aF iR ⟨k6, ((k7 + ((Int.toNat x1) * 3)) + 2), none⟩ (.int .i64 (IntKind.wrap .i64 (sW - 1))) fun sY =>
 cY (Mem.ld sY ⟨dm, 0, none⟩) fun t46 =>
 aK (!t46)
  (aF sY ⟨k6, ((k7 + ((Int.toNat x1) * 3)) + 1), none⟩ (.int .i64 (-1)) fun tH =>
  cz (Mem.ld tH ⟨b0, o0, none⟩) fun Gg =>
  aa Tryz.prog 119 #[(.pointer Gg), (.int .i64 n8)] tH (fun E4 uc =>
  aE (some E4) .i64 fun zE =>
  aK (zE == 1)
   (aX uc (.cells #[(.int .i64 n8)] 3 (0, 0)) fun nm E9 =>
   aa Tryz.prog 58 #[(.pointer (some ⟨b0, (o0 + 7), none⟩)), (.slice (some ⟨nm, 0, none⟩) 1 1)] E9 (fun Fg r8 =>
   (Fg = (.tuple #[])) ∧
   ay (Mem.ld r8 ⟨dm, (0 + 1), none⟩) fun KC y4 yQ =>
   aF r8 ⟨k1, 0, none⟩ (.int .i64 7) fun xT =>
   aF xT ⟨k1, (0 + 1), none⟩ (.int .i64 x1) fun Aq =>
   aF Aq ⟨k1, (0 + 2), none⟩ (.int .i64 n8) fun yO =>
   aF yO ⟨k1, (0 + 3), none⟩ (.slice KC y4 yQ) fun rm =>
   aE (Mem.ld rm ⟨k1, 0, none⟩) .i64 fun rT =>
   aE (Mem.ld rm ⟨k1, (0 + 1), none⟩) .i64 fun n64 =>
   aE (Mem.ld rm ⟨k1, (0 + 2), none⟩) .i64 fun pG =>
   ay (Mem.ld rm ⟨k1, (0 + 3), none⟩) fun HQ wG Gh =>
   K (.agg #[(.int .i64 rT), (.int .i64 n64), (.int .i64 pG), (.slice HQ wG Gh)]) rm) Kp)
   (ay (Mem.ld uc ⟨dm, (0 + 1), none⟩) fun Ra Gd CL =>
   aF uc ⟨k1, 0, none⟩ (.int .i64 7) fun LF =>
   aF LF ⟨k1, (0 + 1), none⟩ (.int .i64 x1) fun CN =>
   aF CN ⟨k1, (0 + 2), none⟩ (.int .i64 n8) fun xS =>
   aF xS ⟨k1, (0 + 3), none⟩ (.slice Ra Gd CL) fun w5 =>
   aE (Mem.ld w5 ⟨k1, 0, none⟩) .i64 fun CC =>
   aE (Mem.ld w5 ⟨k1, (0 + 1), none⟩) .i64 fun uO =>
   aE (Mem.ld w5 ⟨k1, (0 + 2), none⟩) .i64 fun w6 =>
   ay (Mem.ld w5 ⟨k1, (0 + 3), none⟩) fun Ju Gf AD =>
   K (.agg #[(.int .i64 CC), (.int .i64 uO), (.int .i64 w6), (.slice Ju Gf AD)]) w5)) Kp)
  (aE (Mem.ld sY ⟨k6, ((k7 + ((Int.toNat x1) * 3)) + 2), none⟩) .i64 fun F7 =>
  aK (F7 == 0)
   (aF sY ⟨k6, ((k7 + ((Int.toNat x1) * 3)) + 1), none⟩ (.int .i64 (-1)) fun Fa =>
   cz (Mem.ld Fa ⟨b0, o0, none⟩) fun VI =>
   aa Tryz.prog 119 #[(.pointer VI), (.int .i64 n8)] Fa (fun QX Ko =>
   aE (some QX) .i64 fun LW =>
   aK (LW == 1)
    (aX Ko (.cells #[(.int .i64 n8)] 3 (0, 0)) fun HH CM =>
    aa Tryz.prog 58 #[(.pointer (some ⟨b0, (o0 + 7), none⟩)), (.slice (some ⟨HH, 0, none⟩) 1 1)] CM (fun Kj oP =>
    (Kj = (.tuple #[])) ∧
    ay (Mem.ld oP ⟨dm, (0 + 1), none⟩) fun QS QY Kk =>
    aF oP ⟨k1, 0, none⟩ (.int .i64 7) fun Rb =>
    aF Rb ⟨k1, (0 + 1), none⟩ (.int .i64 x1) fun VJ =>
    aF VJ ⟨k1, (0 + 2), none⟩ (.int .i64 n8) fun Kl =>
    aF Kl ⟨k1, (0 + 3), none⟩ (.slice QS QY Kk) fun Im =>
    aE (Mem.ld Im ⟨k1, 0, none⟩) .i64 fun PG =>
    aE (Mem.ld Im ⟨k1, (0 + 1), none⟩) .i64 fun qe =>
    aE (Mem.ld Im ⟨k1, (0 + 2), none⟩) .i64 fun Hu =>
    ay (Mem.ld Im ⟨k1, (0 + 3), none⟩) fun zb qB Fj =>
    K (.agg #[(.int .i64 PG), (.int .i64 qe), (.int .i64 Hu), (.slice zb qB Fj)]) Im) Kp)
    (ay (Mem.ld Ko ⟨dm, (0 + 1), none⟩) fun r9 nQ zc =>
    aF Ko ⟨k1, 0, none⟩ (.int .i64 7) fun On =>
    aF On ⟨k1, (0 + 1), none⟩ (.int .i64 x1) fun tD =>
    aF tD ⟨k1, (0 + 2), none⟩ (.int .i64 n8) fun Oo =>
    aF Oo ⟨k1, (0 + 3), none⟩ (.slice r9 nQ zc) fun mB =>
    aE (Mem.ld mB ⟨k1, 0, none⟩) .i64 fun yS =>
    aE (Mem.ld mB ⟨k1, (0 + 1), none⟩) .i64 fun yT =>
    aE (Mem.ld mB ⟨k1, (0 + 2), none⟩) .i64 fun yU =>
    ay (Mem.ld mB ⟨k1, (0 + 3), none⟩) fun Oq Ot Io =>
    K (.agg #[(.int .i64 yS), (.int .i64 yT), (.int .i64 yU), (.slice Oq Ot Io)]) mB)) Kp)
   (ay (Mem.ld sY ⟨dm, (0 + 1), none⟩) fun Ou Ov Ip =>
   aF sY ⟨k1, 0, none⟩ (.int .i64 7) fun Ow =>
   aF Ow ⟨k1, (0 + 1), none⟩ (.int .i64 x1) fun Ox =>
   aF Ox ⟨k1, (0 + 2), none⟩ (.int .i64 n8) fun Iq =>
   aF Iq ⟨k1, (0 + 3), none⟩ (.slice Ou Ov Ip) fun vj =>
   aE (Mem.ld vj ⟨k1, 0, none⟩) .i64 fun AM =>
   aE (Mem.ld vj ⟨k1, (0 + 1), none⟩) .i64 fun AN =>
   aE (Mem.ld vj ⟨k1, (0 + 2), none⟩) .i64 fun vb =>
   ay (Mem.ld vj ⟨k1, (0 + 3), none⟩) fun Oy Fu Oz =>
   K (.agg #[(.int .i64 AM), (.int .i64 AN), (.int .i64 vb), (.slice Oy Fu Oz)]) vj)))) Kp) :
 aa Tryz.prog 111 ([.pointer (some ⟨b0, o0, none⟩), .int .i64 x1] : List Value).toArray M K Kp :=
 bV (C := Cx) good [(3, .bL [0, 1, 3, 7, 0, 0, 32, 96, 224, 480, 1023, 0, 4095] (.step 0 (.step 1 (.step 2 (.step 4 (.step 5 (.step 6 (.step 7 (.step 3 (.step 8 (.step 9 (.late 10 (.step 11 (.step 12 .done)))))))))))))), (2000000, .loop [(34, .c (.int .i64))]), (7, .bL [0, 1, 3, 7, 0, 16, 48, 112, 255, 511, 1023, 0, 0, 4096, 12288, 32767] (.step 0 (.step 1 (.step 2 (.step 4 (.step 5 (.step 6 (.step 11 (.step 12 (.step 13 (.step 14 (.step 3 (.step 7 (.step 8 (.step 9 (.step 10 (.step 15 .done)))))))))))))))))] Tryz.func111 (by kernel_rfl) (by kernel_rfl) h
theorem pe {b0 o0 : Nat} {b1 o1 : Nat} (h :
rP M b1 o1 fun A1 =>
aa Tryz.prog 178 #[(.pointer A1), (.pointer (some ⟨b0, (o0 + 7), none⟩))] M (fun v2 M3 =>
aE (some v2) .i64 fun n4 =>
rI M3 b1 (o1 + 1) fun n5 =>
((7 : Int) ≠ 0) ∧
aK ((Int.tmod n5 7) == 6)
 (aa Tryz.prog 179 #[(.pointer (some ⟨b0, (o0 + 7), none⟩)), (iV 1)] M3 (fun v6 M7 =>
 ay (some v6) fun A8 k9 cX =>
 aK ((k9 : Int) == 1)
 (((0 : Int) ≤ 0) ∧
 ((0 : Int) < k9) ∧
 az A8 fun cN di =>
 rI M7 cN (di + 0) fun gG =>
 K (.tuple #[(iV gG), (.bool true)]) M7)
 (rP M7 b1 o1 fun gz =>
 aa Tryz.prog 149 #[(.pointer gz)] M7 (fun E7 dG =>
 ∃ fB : Int, ∃ t18 : Bool, (E7 = (.tuple #[(iV fB), (.bool t18)])) ∧
 aK t18
 (K (.tuple #[(iV fB), (.bool true)]) dG)
 (rP dG b1 o1 fun At =>
 aa Tryz.prog 180 #[(.pointer At), (.pointer (some ⟨b0, (o0 + 7), none⟩)), (iV 0)] dG (fun v20 rq =>
 ∃ kT : Int, ∃ t23 : Bool, (v20 = (.tuple #[(iV kT), (.bool t23)])) ∧
 K (.tuple #[(iV kT), (.bool t23)]) rq) Kp)) Kp)) Kp)
 (rP M3 b1 o1 fun Hw =>
 aa Tryz.prog 149 #[(.pointer Hw)] M3 (fun Nd uf =>
 ∃ tF : Int, ∃ t28 : Bool, (Nd = (.tuple #[(iV tF), (.bool t28)])) ∧
 aK t28
 (K (.tuple #[(iV tF), (.bool true)]) uf)
 (rP uf b1 o1 fun Jq =>
 aa Tryz.prog 180 #[(.pointer Jq), (.pointer (some ⟨b0, (o0 + 7), none⟩)), (iV 0)] uf (fun v30 QK =>
 ∃ n32 : Int, ∃ t33 : Bool, (v30 = (.tuple #[(iV n32), (.bool t33)])) ∧
 K (.tuple #[(iV n32), (.bool t33)]) QK) Kp)) Kp)) Kp) :
 aa Tryz.prog 150 #[.pointer (some ⟨b0, o0, none⟩), .pointer (some ⟨b1, o1, none⟩)] M K Kp := vw [(1, .bL [0, 1, 3, 7, 0, 16, 48, 127] (sy [0, 1, 2, 4, 5, 6, 3, 7] .done)), (9, .bL [0, 1, 3, 7, 0, 16, 48, 127, 255, 255, 1023, 2047] (sy [0, 1, 2, 4, 5, 6, 3, 7, 8, 9, 10, 11] .done))] Tryz.func150 h
end Go.Proofs
namespace Go.AF
theorem cv.two : ∀ (zs : List HP) (i j : Nat), i ≠ j → i < zs.length → j < zs.length → ∃ rest, ∀ P Q, ∃ l1, cv ((zs.set i P).set j Q) P l1 ∧ cv l1 Q rest
 | [], _, _, _, h, _ => by simp at h
 | z :: zs, 0, 0, h, _, _ => absurd rfl h
 | z :: zs, 0, j + 1, _, _, hj => ⟨zs.eraseIdx j, fun P Q => ⟨zs.set j Q, by simp only [List.set_cons_zero, List.set_cons_succ]; exact .here, cv.idx (by simpa using hj)⟩⟩
 | z :: zs, i + 1, 0, _, hi, _ => ⟨zs.eraseIdx i, fun P Q => ⟨Q :: zs.eraseIdx i, by simp only [List.set_cons_zero, List.set_cons_succ]; exact .there (cv.idx (by simpa using hi)), .here⟩⟩
 | z :: zs, i + 1, j + 1, h, hi, hj => by
  obtain ⟨rest, hr⟩ := cv.two zs i j (by omega) (by simpa using hi) (by simpa using hj)
  refine ⟨z :: rest, fun P Q => ?_⟩
  obtain ⟨l1, h1, h2⟩ := hr P Q
  exact ⟨z :: l1, by simp only [List.set_cons_succ]; exact .there h1, .there h2⟩
section
variable {α : Type} {r : pE α} {R : Mem} {L L' kN : List HP} {M : Mem} {bs : List Nat} {cs : List α} {b b' i j : Nat} {c c' : α}
theorem Hp.Ir (h : Hp R L M) (r : pE α) {bs : List Nat} {cs : List α} [o : dW r L bs cs L'] (hij : i ≠ j) (hb : bs[i]? = some b) (hc : cs[i]? = some c) (hb' : bs[j]? = some b') (BV : cs[j]? = some c') :
  ∃ X : HP, Hp R (ax r b c :: ax r b' c' :: X :: L') M ∧ ∀ {R' : Mem} {L2 : List HP} {M' : Mem} {d d' : α}, Hp R' (ax r b d :: ax r b' d' :: X :: L2) M' → Hp R' (aP r bs ((cs.set i d).set j d') :: L2) M' := by
 have hi := (List.getElem?_eq_some_iff.1 hb).1
 have hj := (List.getElem?_eq_some_iff.1 hb').1
 have Is := (List.getElem?_eq_some_iff.1 hc).1
 have MO := (List.getElem?_eq_some_iff.1 BV).1
 have hl : (List.zipWith (ax r) bs cs).length = min bs.length cs.length := List.length_zipWith
 obtain ⟨rest, hr⟩ := cv.two (List.zipWith (ax r) bs cs) i j hij (by omega) (by omega)
 refine ⟨sep rest, ?_, ?_⟩
 ·have h0 : Hp R (sep (List.zipWith (ax r) bs cs) :: L') M := h.pick o.pick
  obtain ⟨l1, p1, p2⟩ := hr (ax r b c) (ax r b' c')
  have e : ((List.zipWith (ax r) bs cs).set i (ax r b c)).set j (ax r b' c') = List.zipWith (ax r) bs cs := by
   rw [kz hb, kz hb']
   congr 1
   obtain ⟨_, e1⟩ := List.getElem?_eq_some_iff.1 hc
   obtain ⟨_, e2⟩ := List.getElem?_eq_some_iff.1 BV
   subst e1; subst e2
   rw [List.set_getElem_self, List.set_getElem_self]
  rw [e] at p1
  refine h0.map fun A hs => ?_
  have h1 := bF.pick p1.app (bF.aO.1 hs)
  exact h1.tail fun B Lq => (bF.pick p2.app Lq).tail fun C LK => bF.aO.2 LK
 ·intro R' L2 M' d d' h1
  obtain ⟨l1, p1, p2⟩ := hr (ax r b d) (ax r b' d')
  rw [kz hb, kz hb'] at p1
  show Hp R' (sep (List.zipWith (ax r) bs ((cs.set i d).set j d')) :: L2) M'
  refine h1.map fun A hs => bF.aO.2 (bF.j9 p1.app ?_)
  exact hs.tail fun B Lq => bF.j9 p2.app (Lq.tail fun C LK => bF.aO.1 LK)
end
end Go.AF
namespace Go.Proofs
open Go.AF
set_option maxRecDepth 100000
variable {M : Mem} {K : Value → Mem → Prop} {Kp : List PanicEntry → Mem → Prop}
theorem vk {qq : Option Addr} {qt qu : Nat} {qv : Option Addr} {qw qx : Nat} {eR : Int} {fS : Option Addr} {fT fU : Nat} {bP : Int} {bQ : Int} {bR : Int} {c9 : Int} {b2 o2 : Nat} (h :
aX M (cl [(.slice qq qt qu), (.slice qv qw qx), (iV eR), (.slice fS fT fU)] 39) fun k1 M2 =>
aX M2 (cl [(iV bP), (iV bQ), (iV bR), (iV c9)] 29) fun k3 M4 =>
uL M4 k1 0 fun A5 k6 k7 A8 k9 cX fA wO cI gS =>
gM M4 k3 0 fun fk jf fB fy =>
uL M4 k1 0 fun At iT cU Pz hO kU m7 D4 qd nv =>
aa Tryz.prog 15 #[(.agg #[(.slice A5 k6 k7), (.slice A8 k9 cX), (iV fA), (.slice wO cI gS)]), (.agg #[(iV fk), (iV jf), (iV fB), (iV fy)]), (.pointer (some ⟨b2, o2, none⟩))] M4 (fun NA mZ =>
cz (some NA) fun wD =>
((Mem.dP mZ ⟨k1, 0, none⟩ 0 4) = some [(.slice At iT cU), (.slice Pz hO kU), (iV m7), (.slice D4 qd nv)]) ∧
aX mZ (cl [(.slice At iT cU), (.slice Pz hO kU), (iV m7), (.slice D4 qd nv), (.pointer wD), (.pointer (some ⟨b2, o2, none⟩)), (.slice none 0 0), (iV 0)] 208) fun l8 yV =>
K (.pointer (some ⟨l8, 0, none⟩)) yV) Kp) :
 aa Tryz.prog 43 #[.agg #[.slice qq qt qu, .slice qv qw qx, .int .i64 eR, .slice fS fT fU], .agg #[.int .i64 bP, .int .i64 bQ, .int .i64 bR, .int .i64 c9], .pointer (some ⟨b2, o2, none⟩)] M K Kp := vw [(1, .bL [0, 0, 0, 0, 14, 0, 63, 127, 255] (sy [3, 5, 1, 2] (.eo 0 (sy [4, 6, 7, 8] .done))))] Tryz.func43 h
theorem oa {b0 o0 : Nat} {x1 : Int} {p2 : Option Addr} (h :
aX M bD fun k1 M2 =>
∃ I3 : IT, (∃ k4, I3 k4 [(iV 0)] M2) ∧
∀ (k5 : Nat) (_ : Nat → Value) (n7 : Int) (M8 : Mem), (I3 k5 [(iV n7)] M8) → aK (decide (n7 < x1))
 (rP M8 b0 (o0 + 4) fun A9 =>
 aa Tryz.prog 22 #[(.pointer A9)] M8 (fun v10 iW =>
 aE (some v10) .i64 fun ek =>
 aK (ek == 0)
 (aa Tryz.prog 61 #[(.func (.func 95) #[(.pointer (some ⟨b0, o0, none⟩))] #[])] iW (fun BS jz =>
 ∃ fk jf fB fy iS eP : Int, (BS = (.tuple #[(iV fk), (.agg #[(iV jf), (iV fB), (iV fy), (iV iS), (.int .u64 eP)])])) ∧
 aX jz oH fun cU kx =>
 TS kx cU (iV jf) (iV fB) (iV fy) (iV iS) (.int .u64 eP) fun ou =>
 aa Tryz.prog 96 #[(.pointer (some ⟨b0, o0, none⟩)), (.pointer p2)] ou (fun J7 iR =>
 aE (some J7) .i64 fun sV =>
 aK (sV != 0)
 (aa Tryz.prog 97 #[(.pointer (some ⟨b0, o0, none⟩)), (iV 6), (iV sV), (.agg #[(iV 0), (iV 0), (iV 0), (iV 0), (.int .u64 0)])] iR (fun J4 m6 =>
 ∃ sQ D1 wW : Int, ∃ HC : Option Addr, ∃ sX fC : Nat, ∃ MW : Option Addr, ∃ wB xP : Nat, ∃ wE pF sW tG wX ru : Int, (J4 = (.agg #[(iV sQ), (iV D1), (iV wW), (.slice HC sX fC), (.slice MW wB xP), (iV wE), (iV pF), (iV sW), (iV tG), (iV wX), (.int .u64 ru)])) ∧
 nk m6 k1 (iV sQ) (iV D1) (iV wW) (.slice HC sX fC) (.slice MW wB xP) (iV wE) (iV pF) (iV sW) (iV tG) (iV wX) (.int .u64 ru) fun LO =>
 aN LO k1 0 fun yN CB yR SK CK SL LR AB wG BW Jw SM Px Ng F6 =>
 K (.agg #[(iV yN), (iV CB), (iV yR), (.slice SK CK SL), (.slice LR AB wG), (iV BW), (iV Jw), (iV SM), (iV Px), (iV Ng), (.int .u64 F6)]) LO) Kp)
 (aK (fk == 1)
 (aa Tryz.prog 98 #[(.pointer (some ⟨b0, o0, none⟩)), (iV 4), (.pointer p2)] iR (fun v74 w5 =>
 ∃ CC uO w6 : Int, ∃ Ju : Option Addr, ∃ Gf AD : Nat, ∃ A82 : Option Addr, ∃ Nn SN : Nat, ∃ Kr PF LW SO SP D5 : Int, (v74 = (.agg #[(iV CC), (iV uO), (iV w6), (.slice Ju Gf AD), (.slice A82 Nn SN), (iV Kr), (iV PF), (iV LW), (iV SO), (iV SP), (.int .u64 D5)])) ∧
 nk w5 k1 (iV CC) (iV uO) (iV w6) (.slice Ju Gf AD) (.slice A82 Nn SN) (iV Kr) (iV PF) (iV LW) (iV SO) (iV SP) (.int .u64 D5) fun kF =>
 aN kF k1 0 fun MX KD Fv r9 nQ zc VK zd CR Np yS yT yU OA VL =>
 K (.agg #[(iV MX), (iV KD), (iV Fv), (.slice r9 nQ zc), (.slice VK zd CR), (iV Np), (iV yS), (iV yT), (iV yU), (iV OA), (.int .u64 VL)]) kF) Kp)
 (aK (fk == 2)
 (rI iR cU 0 fun VM =>
 rI iR cU 1 fun VN =>
 rI iR cU 2 fun CS =>
 rI iR cU 3 fun u6 =>
 rU iR cU 4 fun u7 =>
 aa Tryz.prog 97 #[(.pointer (some ⟨b0, o0, none⟩)), (iV 8), (iV 0), (.agg #[(iV VM), (iV VN), (iV CS), (iV u6), (.int .u64 u7)])] iR (fun VO Iq =>
 ∃ KE AM AN : Int, ∃ Rc : Option Addr, ∃ KF Fu : Nat, ∃ Rd : Option Addr, ∃ Re u9 : Nat, ∃ KG KH Rf Rh Ri Ks : Int, (VO = (.agg #[(iV KE), (iV AM), (iV AN), (.slice Rc KF Fu), (.slice Rd Re u9), (iV KG), (iV KH), (iV Rf), (iV Rh), (iV Ri), (.int .u64 Ks)])) ∧
 nk Iq k1 (iV KE) (iV AM) (iV AN) (.slice Rc KF Fu) (.slice Rd Re u9) (iV KG) (iV KH) (iV Rf) (iV Rh) (iV Ri) (.int .u64 Ks) fun AI =>
 aN AI k1 0 fun za HM HN Ny HO Nz VP NQ VQ VR VS VT VU VV OB =>
 K (.agg #[(iV za), (iV HM), (iV HN), (.slice Ny HO Nz), (.slice VP NQ VQ), (iV VR), (iV VS), (iV VT), (iV VU), (iV VV), (.int .u64 OB)]) AI) Kp)
 (∃ Rj : Nat, (Rj < k5) ∧
 I3 Rj [(iV (IntKind.wrap .i64 (n7 + 1)))] iR)))) Kp) Kp)
 (aa Tryz.prog 99 #[(.pointer (some ⟨b0, o0, none⟩))] iW (fun VW H8 =>
 aE (some VW) .i64 fun OC =>
 aa Tryz.prog 98 #[(.pointer (some ⟨b0, o0, none⟩)), (iV OC), (.pointer p2)] H8 (fun VX VY =>
 ∃ Fk KI KJ : Int, ∃ Rk : Option Addr, ∃ Rl Rm : Nat, ∃ Rn : Option Addr, ∃ KK Ro : Nat, ∃ Fm Rp Fo KL KM Fp : Int, (VX = (.agg #[(iV Fk), (iV KI), (iV KJ), (.slice Rk Rl Rm), (.slice Rn KK Ro), (iV Fm), (iV Rp), (iV Fo), (iV KL), (iV KM), (.int .u64 Fp)])) ∧
 nk VY k1 (iV Fk) (iV KI) (iV KJ) (.slice Rk Rl Rm) (.slice Rn KK Ro) (iV Fm) (iV Rp) (iV Fo) (iV KL) (iV KM) (.int .u64 Fp) fun Rq =>
 aN Rq k1 0 fun OD Fq OE VZ V0 V1 V2 V3 V4 OF OG OH V5 V6 V7 =>
 K (.agg #[(iV OD), (iV Fq), (iV OE), (.slice VZ V0 V1), (.slice V2 V3 V4), (iV OF), (iV OG), (iV OH), (iV V5), (iV V6), (.int .u64 V7)]) Rq) Kp) Kp)) Kp)
 (aa Tryz.prog 99 #[(.pointer (some ⟨b0, o0, none⟩))] M8 (fun V8 N3 =>
 aE (some V8) .i64 fun V9 =>
 aa Tryz.prog 98 #[(.pointer (some ⟨b0, o0, none⟩)), (iV V9), (.pointer p2)] N3 (fun Wa N4 =>
 ∃ KN Fs Ft : Int, ∃ Rr : Option Addr, ∃ Rs Ky : Nat, ∃ Rt : Option Addr, ∃ Ru KO : Nat, ∃ Rv Rw Rx Ry KP KQ : Int, (Wa = (.agg #[(iV KN), (iV Fs), (iV Ft), (.slice Rr Rs Ky), (.slice Rt Ru KO), (iV Rv), (iV Rw), (iV Rx), (iV Ry), (iV KP), (.int .u64 KQ)])) ∧
 nk N4 k1 (iV KN) (iV Fs) (iV Ft) (.slice Rr Rs Ky) (.slice Rt Ru KO) (iV Rv) (iV Rw) (iV Rx) (iV Ry) (iV KP) (.int .u64 KQ) fun AK =>
 aN AK k1 0 fun N7 N8 N9 Oa Ig Ob Wb Wc We CU OI OJ OK OL Wf =>
 K (.agg #[(iV N7), (iV N8), (iV N9), (.slice Oa Ig Ob), (.slice Wb Wc We), (iV CU), (iV OI), (iV OJ), (iV OK), (iV OL), (.int .u64 Wf)]) AK) Kp) Kp)) :
 aa Tryz.prog 44 #[.pointer (some ⟨b0, o0, none⟩), .int .i64 x1, .pointer p2] M K Kp := vw [(2000000, .loop [(7, .c (.int .i64))])] Tryz.func44 h
theorem mC {b0 o0 : Nat} (h :
rP M b0 (o0 + 4) fun A1 =>
aa Tryz.prog 54 #[(.pointer A1)] M (fun v2 M3 =>
∃ n4 n5 n6 : Int, ∃ A7 : Option Addr, ∃ k8 k9 : Nat, (v2 = (.agg #[(iV n4), (iV n5), (iV n6), (.slice A7 k8 k9)])) ∧
∃ SQ : List Value → Mem → Prop, (rP M3 b0 (o0 + 4) fun yY =>
 rS M3 b0 (o0 + 1) fun wO cI gS =>
 rI M3 b0 (o0 + 2) fun fk =>
 (rS M3 b0 (o0 + 6) fun LN dm dK =>
 aa Tryz.prog 40 #[(.pointer yY), (iV (cI : Int)), (iV fk)] M3 (fun Ke oM =>
 ay (some Ke) fun wT eX hO =>
 aa Tryz.prog 46 #[(.slice wT eX hO)] oM (fun HD ud =>
 aE (some HD) .u32 fun m8 =>
 aX ud (cl [(.int .u32 m8)] 117) fun qd ua =>
 aA 111 LN dm dK (some ⟨qd, 0, none⟩) 1 1 ua (fun NA mZ =>
 ay (some NA) fun wD l8 kX =>
 sT mZ b0 (o0 + 6) (.slice wD l8 kX) fun kQ =>
 SQ [] kQ) Kp) Kp) Kp) ∧
 (aa Tryz.prog 40 #[(.pointer yY), (iV (cI : Int)), (iV fk)] M3 (fun v35 F4 =>
 ay (some v35) fun BZ fC lG =>
 (rS F4 b0 (o0 + 6) fun LB xP Ap =>
 aa Tryz.prog 46 #[(.slice BZ fC lG)] F4 (fun QI ug =>
 aE (some QI) .u32 fun tG =>
 aX ug (cl [(.int .u32 tG)] 117) fun E3 tH =>
 aA 111 LB xP Ap (some ⟨E3, 0, none⟩) 1 1 tH (fun Wg tC =>
 ay (some Wg) fun PD HE nm =>
 sT tC b0 (o0 + 6) (.slice PD HE nm) fun E9 =>
 SQ [] E9) Kp) Kp) ∧
 (aa Tryz.prog 46 #[(.slice BZ fC lG)] F4 (fun Fg r8 =>
 aE (some Fg) .u32 fun wH =>
 rS r8 b0 (o0 + 6) fun LD yQ F5 =>
 aX r8 (cl [(.int .u32 wH)] 117) fun cj yO =>
 aA 111 LD yQ F5 (some ⟨cj, 0, none⟩) 1 1 yO (fun Kd tB =>
 ay (some Kd) fun Uf QT AB =>
 sT tB b0 (o0 + 6) (.slice Uf QT AB) fun Ug =>
 SQ [] Ug) Kp) Kp) ∧
 True) Kp) ∧
 True) ∧
∀ Wh : Nat → Value, ∀ SG : Mem, (SQ [] SG) → K (.tuple #[]) SG) Kp) :
 aa Tryz.prog 95 #[.pointer (some ⟨b0, o0, none⟩)] M K Kp := vw [(1, .EN [0, 0, 2, 6, 14, 0, 32, 96, 224, 0, 512, 1536, 3584, 7680, 15872, 0, 32768, 98304, 229376, 491520, 1048544, 2097120, 4194272, 8388606, 16777215, 33554431, 67108863] (sy [0, 1, 2, 3, 5, 6, 7, 9, 10, 11, 12, 15, 16, 17, 18, 8, 13, 14, 19] (.fork 4 (sy [20, 21, 22, 23, 24, 25, 26] .done) (.fork 20 (.fork 4 (sy [21, 22, 23, 24, 25, 26] .done) (.fork 21 (sy [4, 22, 23, 24, 25, 26] .done) .dead)) .dead))) [])] Tryz.func95 h
theorem mD {b0 o0 : Nat} {p1 : Option Addr} (h :
aK (Option.isNone p1)
 (K (iV 0) M)
 (rP M b0 (o0 + 5) fun A1 =>
 aa Tryz.prog 76 #[(.pointer A1)] M (fun v2 M3 =>
 ay (some v2) fun A4 k5 k6 =>
 rI M3 b0 (o0 + 7) fun n7 =>
 ((0 : Int) ≤ k6) ∧
 ((k6 : Int) ≤ k6) ∧
 ((0 : Int) ≤ k5) ∧
 ((k5 : Int) ≤ k6) ∧
 ((0 : Int) ≤ (if (k5 : Int) < n7 then (k5 : Int) else n7)) ∧
 (((if (k5 : Int) < n7 then (k5 : Int) else n7) : Int) ≤ (k5 : Int)) ∧
 ∃ I8 : IT, (∃ k9, I8 k9 [(iV 0)] M3) ∧
 ∀ (cX : Nat) (_ : Nat → Value) (ek : Int) (jB : Mem), (I8 cX [(iV ek)] jB) → aK (decide ((ek : Int) < ((((Int.toNat (k5 : Int)) - (Int.toNat (if (k5 : Int) < n7 then (k5 : Int) else n7))) : Nat) : Int)))
 ((0 ≤ ek) ∧
 ((ek : Int) < ((((Int.toNat (k5 : Int)) - (Int.toNat (if (k5 : Int) < n7 then (k5 : Int) else n7))) : Nat) : Int)) ∧
 az (iO A4 (Int.toNat (if (k5 : Int) < n7 then (k5 : Int) else n7)) (Int.toNat (k6 : Int)) 2) fun gS eV =>
 Sr jB gS (eV + ((Int.toNat ek) * 2)) fun jf fB =>
 aX jB DT fun dK jA =>
 TR jA dK (iV jf) (.int .u64 fB) fun rq =>
 Sr rq dK 0 fun kT uQ =>
 aa Tryz.prog 140 #[(.pointer p1), (.agg #[(iV kT), (.int .u64 uQ)])] rq (fun HD ud =>
 aE (some HD) .i64 fun m8 =>
 aK (m8 != 0)
 (K (iV m8) ud)
 (rI ud b0 (o0 + 7) fun tF =>
 sT ud b0 (o0 + 7) (iV (IntKind.wrap .i64 (tF + 1))) fun ua =>
 ∃ m5 : Nat, (m5 < cX) ∧
 I8 m5 [(iV (IntKind.wrap .i64 (ek + 1)))] ua)) Kp)
 (K (iV 0) jB)) Kp)) :
 aa Tryz.prog 96 #[.pointer (some ⟨b0, o0, none⟩), .pointer p1] M K Kp := vw [(2000000, .loop [(26, .c (.int .i64))])] Tryz.func96 h
theorem kG {b0 o0 : Nat} {x1 : Int} {x2 : Int} {da : Int} {dc : Int} {de : Int} {dg : Int} {Rz : Int} (h :
aX M (cl [(iV da), (iV dc), (iV de), (iV dg), (.int .u64 Rz)] 97) fun k1 M2 =>
aX M2 bD fun k3 M4 =>
rP M4 b0 (o0 + 4) fun A5 =>
aa Tryz.prog 18 #[(.pointer A5)] M4 (fun v6 M7 =>
cz (some v6) fun A8 =>
aa Tryz.prog 28 #[(.pointer A8)] M7 (fun v9 iQ =>
∃ fA ek : Int, (v9 = (.tuple #[(iV fA), (iV ek)])) ∧
rP iQ b0 (o0 + 4) fun F3 =>
rP iQ b0 (o0 + 4) fun gz =>
rS iQ b0 (o0 + 6) fun oK dk dm =>
Cv iQ k1 0 fun fy iS eP jY kT =>
(True) ∧
aa Tryz.prog 35 #[(.pointer F3)] iQ (fun QA iH =>
aE (some QA) .i64 fun m7 =>
((Mem.dP iH ⟨k1, 0, none⟩ 0 5) = some [(iV fy), (iV iS), (iV eP), (iV jY), (.int .u64 kT)]) ∧
((Mem.ld iH ⟨b0, (o0 + 6), none⟩) = (some (.slice oK dk dm))) ∧
((Mem.ld iH ⟨b0, (o0 + 4), none⟩) = (some (.pointer gz))) ∧
(True) ∧
aa Tryz.prog 18 #[(.pointer gz)] iH (fun MY ou =>
cz (some MY) fun J6 =>
((Mem.dP ou ⟨k1, 0, none⟩ 0 5) = some [(iV fy), (iV iS), (iV eP), (iV jY), (.int .u64 kT)]) ∧
((Mem.ld ou ⟨b0, (o0 + 6), none⟩) = (some (.slice oK dk dm))) ∧
((Mem.ld ou ⟨b0, (o0 + 4), none⟩) = (some (.pointer gz))) ∧
(True) ∧
aa Tryz.prog 23 #[(.pointer J6)] ou (fun NA mZ =>
ay (some NA) fun wD l8 kX =>
((Mem.dP mZ ⟨k1, 0, none⟩ 0 5) = some [(iV fy), (iV iS), (iV eP), (iV jY), (.int .u64 kT)]) ∧
((Mem.ld mZ ⟨b0, (o0 + 6), none⟩) = (some (.slice oK dk dm))) ∧
((Mem.ld mZ ⟨b0, (o0 + 4), none⟩) = (some (.pointer gz))) ∧
aX mZ (cl [] 117) fun sR uZ =>
aA 111 (some ⟨sR, 0, none⟩) 0 0 oK dk dm uZ (fun Un zF =>
ay (some Un) fun HJ lG wB =>
((Mem.dP zF ⟨k1, 0, none⟩ 0 5) = some [(iV fy), (iV iS), (iV eP), (iV jY), (.int .u64 kT)]) ∧
((Mem.ld zF ⟨b0, (o0 + 6), none⟩) = (some (.slice oK dk dm))) ∧
((Mem.ld zF ⟨b0, (o0 + 4), none⟩) = (some (.pointer gz))) ∧
nk zF k3 (iV x1) (iV m7) (iV ek) (.slice wD l8 kX) (.slice HJ lG wB) (iV x2) (iV fy) (iV iS) (iV eP) (iV jY) (.int .u64 kT) fun LC =>
((Mem.dP LC ⟨k1, 0, none⟩ 0 5) = some [(iV fy), (iV iS), (iV eP), (iV jY), (.int .u64 kT)]) ∧
((Mem.ld LC ⟨b0, (o0 + 6), none⟩) = (some (.slice oK dk dm))) ∧
((Mem.ld LC ⟨b0, (o0 + 4), none⟩) = (some (.pointer gz))) ∧
aN LC k3 0 fun Gb Gc Jt Ue Ki y4 Wi F5 cj yR Kg rT n64 pG E5 =>
K (.agg #[(iV Gb), (iV Gc), (iV Jt), (.slice Ue Ki y4), (.slice Wi F5 cj), (iV yR), (iV Kg), (iV rT), (iV n64), (iV pG), (.int .u64 E5)]) LC) Kp) Kp) Kp) Kp) Kp) Kp) :
 aa Tryz.prog 97 #[.pointer (some ⟨b0, o0, none⟩), .int .i64 x1, .int .i64 x2, .agg #[.int .i64 da, .int .i64 dc, .int .i64 de, .int .i64 dg, .int .u64 Rz]] M K Kp := vw [(2, .bL [0, 0, 2, 6, 14, 30, 0, 0, 128, 384, 896, 1982, 4030, 0, 0, 16384, 49152, 114688, 262078, 0, 0, 2097151, 4194303] (sy [0, 1, 2, 3, 6, 7, 8, 9, 14, 15, 16, 19, 4] (.eo 10 (.eo 17 (.eo 20 (.late 5 (.late 11 (.late 12 (sy [13, 18, 21, 22] .done)))))))))] Tryz.func97 h
theorem lB {b0 o0 : Nat} {x1 : Int} {p2 : Option Addr} (h :
aX M bD fun k1 M2 =>
aK (Option.isSome p2)
 (aa Tryz.prog 141 #[(.pointer p2)] M2 (fun v3 M4 =>
 aE (some v3) .i64 fun n5 =>
 aK (n5 != 0)
 (aa Tryz.prog 97 #[(.pointer (some ⟨b0, o0, none⟩)), (iV 6), (iV n5), (.agg #[(iV 0), (iV 0), (iV 0), (iV 0), (.int .u64 0)])] M4 (fun v6 M7 =>
 ∃ n8 n9 gA : Int, ∃ yY : Option Addr, ∃ di cI : Nat, ∃ gz : Option Addr, ∃ eV dk : Nat, ∃ fB fy iS eP jY kT : Int, (v6 = (.agg #[(iV n8), (iV n9), (iV gA), (.slice yY di cI), (.slice gz eV dk), (iV fB), (iV fy), (iV iS), (iV eP), (iV jY), (.int .u64 kT)])) ∧
 nk M7 k1 (iV n8) (iV n9) (iV gA) (.slice yY di cI) (.slice gz eV dk) (iV fB) (iV fy) (iV iS) (iV eP) (iV jY) (.int .u64 kT) fun yV =>
 aN yV k1 0 fun D1 wW r5 BZ fC lG LB xP Ap pF sW tG wX ru BX =>
 K (.agg #[(iV D1), (iV wW), (iV r5), (.slice BZ fC lG), (.slice LB xP Ap), (iV pF), (iV sW), (iV tG), (iV wX), (iV ru), (.int .u64 BX)]) yV) Kp)
 (aa Tryz.prog 97 #[(.pointer (some ⟨b0, o0, none⟩)), (iV x1), (iV 0), (.agg #[(iV 0), (iV 0), (iV 0), (iV 0), (.int .u64 0)])] M4 (fun E4 uc =>
 ∃ zE Gb Gc : Int, ∃ PB : Option Addr, ∃ Kh Ki : Nat, ∃ LD : Option Addr, ∃ yQ F5 : Nat, ∃ CB yR Kg rT n64 pG : Int, (E4 = (.agg #[(iV zE), (iV Gb), (iV Gc), (.slice PB Kh Ki), (.slice LD yQ F5), (iV CB), (iV yR), (iV Kg), (iV rT), (iV n64), (.int .u64 pG)])) ∧
 nk uc k1 (iV zE) (iV Gb) (iV Gc) (.slice PB Kh Ki) (.slice LD yQ F5) (iV CB) (iV yR) (iV Kg) (iV rT) (iV n64) (.int .u64 pG) fun Py =>
 aN Py k1 0 fun uO w6 n79 A80 AD Ge A83 SN Fh PF LW SO SP D5 AO =>
 K (.agg #[(iV uO), (iV w6), (iV n79), (.slice A80 AD Ge), (.slice A83 SN Fh), (iV PF), (iV LW), (iV SO), (iV SP), (iV D5), (.int .u64 AO)]) Py) Kp)) Kp)
 (aa Tryz.prog 97 #[(.pointer (some ⟨b0, o0, none⟩)), (iV x1), (iV 0), (.agg #[(iV 0), (iV 0), (iV 0), (iV 0), (.int .u64 0)])] M2 (fun v92 va =>
 ∃ F8 DY F9 : Int, ∃ LU : Option Addr, ∃ Ku LV : Nat, ∃ Km : Option Addr, ∃ HI y5 : Nat, ∃ KD Fv KR KS KT tL : Int, (v92 = (.agg #[(iV F8), (iV DY), (iV F9), (.slice LU Ku LV), (.slice Km HI y5), (iV KD), (iV Fv), (iV KR), (iV KS), (iV KT), (.int .u64 tL)])) ∧
 nk va k1 (iV F8) (iV DY) (iV F9) (.slice LU Ku LV) (.slice Km HI y5) (iV KD) (iV Fv) (iV KR) (iV KS) (iV KT) (.int .u64 tL) fun AG =>
 aN AG k1 0 fun u6 u7 HK Nq y8 Nr Wj Wk KF Fb Fc Wl Wm KG KH =>
 K (.agg #[(iV u6), (iV u7), (iV HK), (.slice Nq y8 Nr), (.slice Wj Wk KF), (iV Fb), (iV Fc), (iV Wl), (iV Wm), (iV KG), (.int .u64 KH)]) AG) Kp)) :
 aa Tryz.prog 98 #[.pointer (some ⟨b0, o0, none⟩), .int .i64 x1, .pointer p2] M K Kp := vw [] Tryz.func98 h
end Go.Proofs
namespace Go.Proofs
open Go.AF
set_option maxRecDepth 100000
theorem mE {B0 : Option Addr} {m0 c0 : Nat} {B1 : Option Addr} {m1 c1 : Nat} {M : Mem} {K : Value → Mem → Prop} {Kp : List PanicEntry → Mem → Prop} (h :
aK ((m0 : Int) != (m1 : Int))
 (K (iV (-1)) M)
 (∃ I1 : IT, (∃ k2, I1 k2 [(iV 0)] M) ∧
 ∀ (k3 : Nat) (_ : Nat → Value) (n5 : Int) (M6 : Mem), (I1 k3 [(iV n5)] M6) → aK (decide (n5 < m1))
 ((0 ≤ n5) ∧
 (n5 < m0) ∧
 az B0 fun k7 k8 =>
 (0 ≤ n5) ∧
 (n5 < m1) ∧
 az B1 fun k9 cX =>
 rI M6 k7 (k8 + (Int.toNat n5)) fun fA =>
 rI M6 k9 (cX + (Int.toNat n5)) fun ek =>
 aK (fA != ek)
 (K (iV (-1)) M6)
 (∃ cI : Nat, (cI < k3) ∧
 I1 cI [(iV (IntKind.wrap .i64 (n5 + 1)))] M6))
 (K (iV 0) M6))) :
 aa Tryz.prog 39 #[.slice B0 m0 c0, .slice B1 m1 c1] M K Kp := vw [(2000000, .loop [(13, .c (.int .i64))]), (6, .bL [0, 0, 3, 7, 0, 0, 48, 112, 255] (sy [0, 1, 2, 4, 5, 6, 3, 7, 8] .done))] Tryz.func39 h
end Go.Proofs
