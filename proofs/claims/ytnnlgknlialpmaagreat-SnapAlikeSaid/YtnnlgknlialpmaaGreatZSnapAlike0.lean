/- A part of proofs about one program. -/
import Derived.Test.YtnnlgknlialpmaaGreatProg
import Derived.Test.YtnnlgknlialpmaaGreatZSnapAlikeStC
import Derived.Test.YtnnlgknlialpmaaGreatZSnapAlikeMod
import Derived.Test.YtnnlgknlialpmaaGreatZSnapAlikeWin2
set_option linter.unusedVariables false
namespace Go.Proofs
open Go.AF
noncomputable def Cx : Ctx := ⟨Tryz.prog, 255⟩
theorem good : Cx.Good := by
 refine ⟨?_, by kernel_rfl⟩
 have h : (List.range 253).all (fun g => qc Tryz.prog (g + 2)) = true := by kernel_rfl
 intro g hg
 have h1 : g < 255 := hg.2
 have := List.all_eq_true.1 h (g - 2) (List.mem_range.2 (by omega))
 have e : g - 2 + 2 = g := by omega
 simp only [e] at this
 exact this
def sy : List Nat → Ex → Ex
 | [], e => e
 | i :: l, e => .step i (sy l e)
abbrev aA (t : Nat) (A : Option Addr) (n c : Nat) (B : Option Addr) (m d : Nat) (M : Mem) (K : Value → Mem → Prop) (Kp : List PanicEntry → Mem → Prop) : Prop := be Tryz.prog (Go.Builtin.append_ #[t, t] t #[.slice A n c, .slice B m d]) M K Kp
theorem vw {f : FuncId} {fn : Func} {args : List Value} {M : Mem} {K : Value → Mem → Prop} {Kp : List PanicEntry → Mem → Prop} (H : List (Nat × Hint)) (hf : Cx.P.funcs[f]? = some fn) {vc : Prop} (h : vc) (h1 : zJ fn args.length = true := by kernel_rfl)
  (h2 : vc = eo Cx H Kp (fD fn) 0 (Mh Cx.P fn K) (gA args) M := by kernel_rfl) : aa Cx.P f args.toArray M K Kp := bY (C := Cx) good H hf h1 h2 h
end Go.Proofs
namespace Go.Proofs
open Go.AF
set_option maxRecDepth 100000
variable {M : Mem} {K : Value → Mem → Prop} {Kp : List PanicEntry → Mem → Prop}
theorem Ek {x0 : Int} (h :
aX M (cl [(iV (if (16 : Int) < (if (0 : Int) > x0 then 0 else x0) then 16 else (if (0 : Int) > x0 then 0 else x0))), (.slice none 0 0), (.slice none 0 0), (.slice none 0 0), (.bool false)] 305) fun k1 M2 =>
K (.pointer (some ⟨k1, 0, none⟩)) M2) :
 aa Tryz.prog 113 #[.int .i64 x0] M K Kp := vw [] Tryz.func113 h
theorem sE {b0 o0 : Nat} (h :
aX M Ax fun k1 M2 =>
rS M2 b0 (o0 + 1) fun A3 k4 k5 =>
rS M2 b0 (o0 + 2) fun A6 k7 k8 =>
rS M2 b0 (o0 + 3) fun A9 c6 dQ =>
rB M2 b0 (o0 + 4) fun t12 =>
aX M2 (cl [] 2) fun de jO =>
(True) ∧
(True) ∧
aA 53 (some ⟨de, 0, none⟩) 0 0 A3 k4 k5 jO (fun ur dZ =>
az (some ur) fun Ce dJ iw =>
((Mem.ld dZ ⟨b0, (o0 + 4), none⟩) = (some (.bool t12))) ∧
((Mem.ld dZ ⟨b0, (o0 + 3), none⟩) = (some (.slice A9 c6 dQ))) ∧
((Mem.ld dZ ⟨b0, (o0 + 2), none⟩) = (some (.slice A6 k7 k8))) ∧
aX dZ (cl [] 280) fun g7 jC =>
(True) ∧
aA 195 (some ⟨g7, 0, none⟩) 0 0 A6 k7 k8 jC (fun zd gB =>
az (some zd) fun ze nZ jW =>
((Mem.ld gB ⟨b0, (o0 + 4), none⟩) = (some (.bool t12))) ∧
((Mem.ld gB ⟨b0, (o0 + 3), none⟩) = (some (.slice A9 c6 dQ))) ∧
((Mem.ld gB ⟨b0, (o0 + 2), none⟩) = (some (.slice A6 k7 k8))) ∧
aX gB (cl [] 280) fun nw w4 =>
aA 195 (some ⟨nw, 0, none⟩) 0 0 A9 c6 dQ w4 (fun V2 pe =>
az (some V2) fun Ms sF pB =>
((Mem.ld pe ⟨b0, (o0 + 4), none⟩) = (some (.bool t12))) ∧
((Mem.ld pe ⟨b0, (o0 + 3), none⟩) = (some (.slice A9 c6 dQ))) ∧
((Mem.ld pe ⟨b0, (o0 + 2), none⟩) = (some (.slice A6 k7 k8))) ∧
kI pe k1 (.slice Ce dJ iw) (.slice ze nZ jW) (.slice Ms sF pB) (.bool t12) fun Cf =>
((Mem.ld Cf ⟨b0, (o0 + 4), none⟩) = (some (.bool t12))) ∧
((Mem.ld Cf ⟨b0, (o0 + 3), none⟩) = (some (.slice A9 c6 dQ))) ∧
((Mem.ld Cf ⟨b0, (o0 + 2), none⟩) = (some (.slice A6 k7 k8))) ∧
KO Cf k1 0 fun V3 uu zN SD Em qq Zz Cg Ch t47 =>
K (.agg #[(.slice V3 uu zN), (.slice SD Em qq), (.slice Zz Cg Ch), (.bool t47)]) Cf) Kp) Kp) Kp) :
 aa Tryz.prog 137 #[.pointer (some ⟨b0, o0, none⟩)] M K Kp := vw [(1, .bS [0, 0, 2, 6, 14, 31, 0, 0, 128, 384, 896, 2047, 0, 0, 8192, 24576, 57344, 131071, 0, 262144, 786432, 1835008, 4194303, 8388607] (sy [1, 2, 3, 7, 8, 9, 13, 14, 15, 18, 19, 20, 4] (.cY 10 (.cY 16 (.cY 21 (sy [0] (.late 5 (sy [6] (.late 11 (sy [12, 17, 22, 23] .done))))))))))] Tryz.func137 h
theorem oC {b0 o0 : Nat} {cT : Int} {cU : Int} {cV : Int} (h :
aX M (cl [(iV cT), (iV cU), (iV cV)] 280) fun k1 M2 =>
rS M2 b0 (o0 + 3) fun A3 k4 k5 =>
kJ M2 k1 0 fun n6 n7 n8 =>
aX M2 (cl [(iV n6), (iV n7), (iV n8)] 280) fun k9 gy =>
aA 195 A3 k4 k5 (some ⟨k9, 0, none⟩) 1 1 gy (fun v11 jP =>
az (some v11) fun Fp eH hU =>
sT jP b0 (o0 + 3) (.slice Fp eH hU) fun dZ =>
K (.tuple #[]) dZ) Kp) :
 aa Tryz.prog 235 #[.pointer (some ⟨b0, o0, none⟩), .agg #[.int .i64 cT, .int .i64 cU, .int .i64 cV]] M K Kp := vw [(1, .bS [0, 0, 2, 6, 14, 0, 32, 126, 255, 511, 1023] (sy [0, 1, 2, 3, 4, 5, 6, 7, 8, 9, 10] .done))] Tryz.func235 h
theorem oD {b0 o0 : Nat} {cT : Int} {cU : Int} {cV : Int} (h :
aX M (cl [(iV cT), (iV cU), (iV cV)] 280) fun k1 M2 =>
rS M2 b0 (o0 + 2) fun A3 k4 k5 =>
kJ M2 k1 0 fun n6 n7 n8 =>
aX M2 (cl [(iV n6), (iV n7), (iV n8)] 280) fun k9 gy =>
aA 195 A3 k4 k5 (some ⟨k9, 0, none⟩) 1 1 gy (fun v11 jP =>
az (some v11) fun Fp eH hU =>
sT jP b0 (o0 + 2) (.slice Fp eH hU) fun dZ =>
K (.tuple #[]) dZ) Kp) :
 aa Tryz.prog 236 #[.pointer (some ⟨b0, o0, none⟩), .agg #[.int .i64 cT, .int .i64 cU, .int .i64 cV]] M K Kp := vw [(1, .bS [0, 0, 2, 6, 14, 0, 32, 126, 255, 511, 1023] (sy [0, 1, 2, 3, 4, 5, 6, 7, 8, 9, 10] .done))] Tryz.func236 h
theorem uv {b0 o0 : Nat} {x1 : Int} (h :
aX M jH fun k1 M2 =>
rB M2 b0 (o0 + 4) fun t3 =>
aS t3
 (sT M2 k1 0 (iV 0) fun M4 =>
 sT M4 k1 1 (iV 0) fun M5 =>
 sT M5 k1 2 (iV 0) fun M6 =>
 kJ M6 k1 0 fun n7 n8 n9 =>
 K (.tuple #[(.agg #[(iV n7), (iV n8), (iV n9)]), (.bool false), (iV 10)]) M6)
 (rS M2 b0 (o0 + 3) fun yG dQ gx =>
 aS (decide ((dQ : Int) > 0))
 (aX M2 jH fun de jO =>
 rS jO b0 (o0 + 3) fun pg eN ei =>
 aa Tryz.prog 250 #[(.slice pg eN ei)] jO (fun Ci jx =>
 ∃ fB kD oE : Int, ∃ Mt : Option Addr, ∃ lq nZ : Nat, (Ci = (.tuple #[(.agg #[(iV fB), (iV kD), (iV oE)]), (.slice Mt lq nZ)])) ∧
 Fo jx de (iV fB) (iV kD) (iV oE) fun w4 =>
 sT w4 b0 (o0 + 3) (.slice Mt lq nZ) fun mE =>
 sT mE de 2 (iV x1) fun pe =>
 kJ pe de 0 fun vR n32 sG =>
 Fo pe k1 (iV vR) (iV n32) (iV sG) fun Cj =>
 kJ Cj k1 0 fun Mu Ga IP =>
 K (.tuple #[(.agg #[(iV Mu), (iV Ga), (iV IP)]), (.bool true), (iV 0)]) Cj) Kp)
 (rS M2 b0 (o0 + 1) fun V4 En Em =>
 rI M2 b0 o0 fun Gb =>
 aS (decide ((En : Int) < Gb))
 (rS M2 b0 (o0 + 1) fun Zz Cg Ch =>
 aX M2 (cl [(iV x1)] 2) fun KU Pd =>
 aA 53 Zz Cg Ch (some ⟨KU, 0, none⟩) 1 1 Pd (fun Mv B5 =>
 az (some Mv) fun V5 lU rX =>
 sT B5 b0 (o0 + 1) (.slice V5 lU rX) fun Gc =>
 Fo Gc k1 (iV 0) (iV 0) (iV 0) fun HX =>
 kJ HX k1 0 fun Gd Eo Pe =>
 K (.tuple #[(.agg #[(iV Gd), (iV Eo), (iV Pe)]), (.bool false), (iV 0)]) HX) Kp)
 (sT M2 k1 0 (iV 0) fun Dh =>
 sT Dh k1 1 (iV 0) fun vp =>
 sT vp k1 2 (iV 0) fun w5 =>
 kJ w5 k1 0 fun n64 zf n66 =>
 K (.tuple #[(.agg #[(iV n64), (iV zf), (iV n66)]), (.bool false), (iV 6)]) w5)))) :
 aa Tryz.prog 237 #[.pointer (some ⟨b0, o0, none⟩), .int .i64 x1] M K Kp := vw [(8, .bS [0, 1, 3, 7, 15, 0, 32, 96, 224, 511, 1023] (sy [0, 1, 2, 5, 6, 7, 3, 4, 8, 9, 10] .done))] Tryz.func237 h
theorem uw {b0 o0 : Nat} (h :
aX M oz fun k1 M2 =>
aX M2 oz fun k3 M4 =>
rS M4 b0 (o0 + 2) fun A5 k6 k7 =>
∃ J8 : List Value → Mem → Prop, (aS (decide ((k6 : Int) > 0))
 (rS M4 b0 (o0 + 2) fun A9 c6 dQ =>
 aa Tryz.prog 250 #[(.slice A9 c6 dQ)] M4 (fun zK jy =>
 ∃ jX iA kT : Int, ∃ Ce : Option Addr, ∃ dJ iw : Nat, (zK = (.tuple #[(.agg #[(iV jX), (iV iA), (iV kT)]), (.slice Ce dJ iw)])) ∧
 sT jy k3 2 (iV jX) fun mb =>
 sT mb k3 (2 + 1) (iV iA) fun jC =>
 sT jC k3 (2 + 2) (iV kT) fun dn =>
 sT dn b0 (o0 + 2) (.slice Ce dJ iw) fun gB =>
 sT gB k3 5 (.bool true) fun kL =>
 rS kL b0 (o0 + 1) fun Mw jW nw =>
 rI kL k3 (2 + 2) fun ux =>
 aX kL (cl [(iV ux)] 2) fun mo pe =>
 aA 53 Mw jW nw (some ⟨mo, 0, none⟩) 1 1 pe (fun V6 oF =>
 az (some V6) fun Ge vS zg =>
 sT oF b0 (o0 + 1) (.slice Ge vS zg) fun Cj =>
 J8 [] Cj) Kp) Kp)
 (J8 [] M4)) ∧
∀ junk37 : Nat → Value, ∀ me : Mem, (J8 [] me) → rS me b0 (o0 + 1) fun Pf zN En =>
aS (decide ((zN : Int) > 0))
 (rS me b0 (o0 + 1) fun Ep qq zh =>
 ((0 : Int) ≤ 0) ∧
 ((0 : Int) < qq) ∧
 aE Ep fun Cg Ch =>
 rI me Cg (Ch + 0) fun Gf =>
 sT2 me k3 (iV Gf) (.bool true) fun AA =>
 aX AA (cl [] 2) fun zi V7 =>
 rS V7 b0 (o0 + 1) fun V8 rX HY =>
 ((0 : Int) ≤ HY) ∧
 ((HY : Int) ≤ HY) ∧
 ((0 : Int) ≤ rX) ∧
 ((rX : Int) ≤ HY) ∧
 ((0 : Int) ≤ 1) ∧
 ((1 : Int) ≤ rX) ∧
 be Tryz.prog (Go.Builtin.append_ #[53, 53] 53 #[(.slice (some ⟨zi, 0, none⟩) 0 0), (.slice (kP V8 1 (Int.toNat (HY : Int)) 1) ((Int.toNat (rX : Int)) - 1) ((Int.toNat (HY : Int)) - 1))]) V7 (fun V9 UM =>
 az (some V9) fun A57 Gg UN =>
 sT UM b0 (o0 + 1) (.slice A57 Gg UN) fun zj =>
 zL zj k3 0 fun Mx t62 Ck n64 zf t66 =>
 sT6 zj k1 (iV Mx) (.bool t62) (iV Ck) (iV n64) (iV zf) (.bool t66) fun UO =>
 zL UO k1 0 fun UP t74 SE KV Di t78 =>
 K (.tuple #[(.agg #[(iV UP), (.bool t74), (iV SE), (iV KV), (iV Di), (.bool t78)]), (iV 0)]) UO) Kp)
 (rB me b0 (o0 + 4) fun t79 =>
 aS t79
 (rI me k3 0 fun RH =>
 rB me k3 1 fun t81 =>
 rI me k3 2 fun IQ =>
 rI me k3 3 fun UQ =>
 rI me k3 4 fun IS =>
 rB me k3 5 fun t85 =>
 sT6 me k1 (iV RH) (.bool t81) (iV IQ) (iV UQ) (iV IS) (.bool t85) fun mh =>
 zL mh k1 0 fun n92 t93 Pg IU My t97 =>
 K (.tuple #[(.agg #[(iV n92), (.bool t93), (iV Pg), (iV IU), (iV My), (.bool t97)]), (iV 0)]) mh)
 (rI me k3 0 fun ZA =>
 rB me k3 1 fun t99 =>
 rI me k3 2 fun vT =>
 rI me k3 3 fun Ph =>
 rI me k3 4 fun Pj =>
 rB me k3 5 fun t103 =>
 sT6 me k1 (iV ZA) (.bool t99) (iV vT) (iV Ph) (iV Pj) (.bool t103) fun vU =>
 zL vU k1 0 fun Pk t111 AB IV Pm t115 =>
 K (.tuple #[(.agg #[(iV Pk), (.bool t111), (iV AB), (iV IV), (iV Pm), (.bool t115)]), (iV 5)]) vU))) :
 aa Tryz.prog 239 #[.pointer (some ⟨b0, o0, none⟩)] M K Kp := vw [(3000010, .cut []), (5, .bS [0, 0, 2, 6, 14, 0, 32, 96, 224, 510, 1023, 2047, 4095] (sy [0, 1, 2, 3, 5, 6, 4, 7, 8, 9, 10, 11, 12] .done))] Tryz.func239 h
theorem sH {b0 o0 : Nat} (h :
rB M b0 (o0 + 4) fun t1 =>
aS t1
 (K (.tuple #[(.slice none 0 0), (.slice none 0 0), (iV 10)]) M)
 (rS M b0 (o0 + 3) fun A2 k3 k4 =>
 rS M b0 (o0 + 2) fun A5 k6 k7 =>
 sT M b0 (o0 + 4) (.bool true) fun M8 =>
 sT M8 b0 (o0 + 3) (.slice none 0 0) fun M9 =>
 sT M9 b0 (o0 + 2) (.slice none 0 0) fun gy =>
 K (.tuple #[(.slice A2 k3 k4), (.slice A5 k6 k7), (iV 0)]) gy)) :
 aa Tryz.prog 243 #[.pointer (some ⟨b0, o0, none⟩)] M K Kp := vw [(3, .bS [0, 1, 3, 7, 0, 16, 48, 112, 15, 511] (sy [0, 1, 2, 4, 5, 6, 3, 8, 7, 9] .done))] Tryz.func243 h
theorem pC {b0 o0 : Nat} (h :
rB M b0 (o0 + 4) fun t1 =>
aS t1
 (K (.bool true) M)
 (rS M b0 (o0 + 2) fun A2 k3 k4 =>
 aS (decide ((k3 : Int) > 0))
 (K (.bool true) M)
 (rS M b0 (o0 + 1) fun A5 k6 k7 =>
 K (.bool (decide ((k6 : Int) > 0))) M))) :
 aa Tryz.prog 248 #[.pointer (some ⟨b0, o0, none⟩)] M K Kp := vw [] Tryz.func248 h
theorem pD {b0 o0 : Nat} (h :
rB M b0 (o0 + 4) fun t1 =>
aS t1
 (K (.bool true) M)
 (rS M b0 (o0 + 3) fun A2 k3 k4 =>
 aS (decide ((k3 : Int) > 0))
 (K (.bool true) M)
 (rS M b0 (o0 + 1) fun A5 k6 k7 =>
 rI M b0 o0 fun n8 =>
 K (.bool (decide ((k6 : Int) < n8))) M))) :
 aa Tryz.prog 249 #[.pointer (some ⟨b0, o0, none⟩)] M K Kp := vw [(1, .bS [0, 1, 3, 7, 15, 31, 63, 127, 255, 511, 1023, 2047, 4095, 8191, 16383, 32767, 65535, 131071, 8191, 270335, 794623, 1843199, 4194303, 8388607, 16777215] (sy [0, 1, 2, 3, 4, 5, 6, 7, 8, 9, 10, 11, 12, 13, 14, 15, 18, 19, 20, 16, 17, 21, 22, 23, 24] .done))] Tryz.func249 h
theorem AD {B0 : Option Addr} {m0 c0 : Nat} (h :
aX M jH fun k1 M2 =>
((0 : Int) ≤ 0) ∧
((0 : Int) < m0) ∧
aE B0 fun k3 k4 =>
((0 : Int) ≤ c0) ∧
((c0 : Int) ≤ c0) ∧
((0 : Int) ≤ m0) ∧
((m0 : Int) ≤ c0) ∧
((0 : Int) ≤ 1) ∧
((1 : Int) ≤ m0) ∧
kJ M2 k3 (k4 + 0) fun n5 n6 n7 =>
aX M2 (cl [] 280) fun k8 M9 =>
be Tryz.prog (Go.Builtin.append_ #[195, 195] 195 #[(.slice (some ⟨k8, 0, none⟩) 0 0), (.slice (kP B0 1 (Int.toNat (c0 : Int)) 3) ((Int.toNat (m0 : Int)) - 1) ((Int.toNat (c0 : Int)) - 1))]) M9 (fun v10 iO =>
az (some v10) fun nx de eH =>
((Mem.fN iO ⟨k3, (k4 + 0), none⟩ 0 3) = some [(iV n5), (iV n6), (iV n7)]) ∧
Fo iO k1 (iV n5) (iV n6) (iV n7) fun lG =>
((Mem.fN lG ⟨k3, (k4 + 0), none⟩ 0 3) = some [(iV n5), (iV n6), (iV n7)]) ∧
kJ lG k1 0 fun jY rY fB =>
K (.tuple #[(.agg #[(iV jY), (iV rY), (iV fB)]), (.slice nx de eH)]) lG) Kp) :
 aa Tryz.prog 250 #[.slice B0 m0 c0] M K Kp := vw [(1, .bS [0, 1, 3, 0, 0, 16, 56, 127, 255] (sy [0, 1, 4, 5] (.cY 2 (sy [3, 6, 7, 8] .done))))] Tryz.func250 h
theorem uy {b0 o0 : Nat} {x1 : Int} (h :
rS M b0 (o0 + 2) fun A1 k2 k3 =>
(aa Tryz.prog 254 #[(.slice A1 k2 k3), (iV x1)] M (fun v4 M5 =>
 az (some v4) fun A6 k7 k8 =>
 rS M5 b0 (o0 + 3) fun A9 c6 dQ =>
 aa Tryz.prog 254 #[(.slice A9 c6 dQ), (iV x1)] M5 (fun zK jy =>
 az (some zK) fun pn hU eN =>
 sT jy b0 (o0 + 2) (.slice A6 k7 k8) fun lG =>
 sT lG b0 (o0 + 3) (.slice pn hU eN) fun m6 =>
 K (.tuple #[]) m6) Kp) Kp) ∧
(rS M b0 (o0 + 3) fun yH g7 fK =>
 aa Tryz.prog 254 #[(.slice A1 k2 k3), (iV x1)] M (fun zd gB =>
 az (some zd) fun ze nZ jW =>
 aa Tryz.prog 254 #[(.slice yH g7 fK), (iV x1)] gB (fun IW w4 =>
 az (some IW) fun RI mq mu =>
 sT w4 b0 (o0 + 2) (.slice ze nZ jW) fun oF =>
 sT oF b0 (o0 + 3) (.slice RI mq mu) fun vq =>
 K (.tuple #[]) vq) Kp) Kp) ∧
True) :
 aa Tryz.prog 253 #[.pointer (some ⟨b0, o0, none⟩), .int .i64 x1] M K Kp := vw [(0, .bS [0, 0, 0, 4, 12, 28, 0, 124, 0, 256, 768, 1792, 0, 8188, 16381, 32765, 65533, 131071, 262143, 524287] (sy [0, 1, 2, 3, 4, 6, 8, 9, 10, 12, 5] (.fork 7 (sy [11, 13, 14, 15, 16, 17, 18, 19] .done) (.fork 11 (sy [7, 13, 14, 15, 16, 17, 18, 19] .done) .dead))))] Tryz.func253 h
theorem xC {B0 : Option Addr} {m0 c0 : Nat} {x1 : Int} (h :
∃ I1 : IT, (∃ k2, I1 k2 [(.slice none 0 0), (iV 0)] M) ∧
∀ (k3 : Nat) (_ : Nat → Value) (A5 : Option Addr) (k6 : Nat) (k7 : Nat) (n8 : Int) (M9 : Mem), (I1 k3 [(.slice A5 k6 k7), (iV n8)] M9) → aS (decide (n8 < m0))
 ((0 ≤ n8) ∧
 (n8 < m0) ∧
 aE B0 fun c6 dQ =>
 kJ M9 c6 (dQ + ((Int.toNat n8) * 3)) fun ik iq jX =>
 aX M9 jH fun hU dZ =>
 Fo dZ hU (iV ik) (iV iq) (iV jX) fun jx =>
 rI jx hU 0 fun fB =>
 aS (fB != x1)
 (rI jx hU 0 fun kD =>
 rI jx hU 1 fun oE =>
 rI jx hU 2 fun oG =>
 aX jx (cl [(iV kD), (iV oE), (iV oG)] 280) fun lq Fq =>
 aA 195 A5 k6 k7 (some ⟨lq, 0, none⟩) 1 1 Fq (fun v26 w6 =>
 az (some v26) fun Wa mo mq =>
 ∃ mu : Nat, (mu < k3) ∧
 I1 mu [(.slice Wa mo mq), (iV (IntKind.wrap .i64 (n8 + 1)))] w6) Kp)
 (∃ sF : Nat, (sF < k3) ∧
 I1 sF [(.slice A5 k6 k7), (iV (IntKind.wrap .i64 (n8 + 1)))] jx))
 (K (.slice A5 k6 k7) M9)) :
 aa Tryz.prog 254 #[.slice B0 m0 c0, .int .i64 x1] M K Kp := vw [(2000000, .loop [(5, .c .sl), (10, .c (.int .i64))])] Tryz.func254 h
end Go.Proofs
namespace Go.Proofs
open Go.AF
set_option maxRecDepth 100000
set_option maxHeartbeats 1000000
attribute [local irreducible] aK dH fa cw az fk aE aP aX be bK aS
theorem xD : aY Tryz.prog 53 2 1 8 [.int .i64 0] := aY.mk' (zv := .int .i64 0) (by kernel_rfl) (by kernel_rfl) rfl (by omega)
theorem rZ : aY Tryz.prog 195 280 3 24 [.int .i64 0, .int .i64 0, .int .i64 0] := aY.mk' (zv := .agg #[.int .i64 0, .int .i64 0, .int .i64 0]) (by kernel_rfl) (by kernel_rfl) rfl (by omega)
abbrev jz (A : Option Addr) (c : Nat) (l : List Int) : HP := bE aZ 2 A c l
abbrev ny (A : Option Addr) (c : Nat) (l : List Wt) : HP := bE eG 280 A c l
abbrev iP (c : aV) (Ab : Option Addr) (cb : Nat) (As : Option Addr) (cs : Nat) (Ar : Option Addr) (cr : Nat) : List Value :=
 [.int .i64 (c.room : Int), .slice Ab c.buf.length cb, .slice As c.snd.length cs, .slice Ar c.dF.length cr, .bool c.closed]
def bI : um aV := ⟨fun b c => exs fun Ab : Option Addr => exs fun cb : Nat => exs fun As : Option Addr => exs fun cs : Nat => exs fun Ar : Option Addr => exs fun cr : Nat =>
 sep [pt b (iP c Ab cb As cs Ar cr) 305, jz Ab cb c.buf, ny As cs c.snd, ny Ar cr c.dF]⟩
section
variable {R : Mem} {L L' : List HP} {M : Mem} {K : Value → Mem → Prop} {Kp : List PanicEntry → Mem → Prop} {b : Nat} {c : aV}
theorem g8 (h : Hp R L M) [o : b6 bI b L c L'] : ∃ Ab cb As cs Ar cr, Hp R (pt b (iP c Ab cb As cs Ar cr) 305 :: jz Ab cb c.buf :: ny As cs c.snd :: ny Ar cr c.dF :: L') M := by
 have := h.obj bI b
 simpa only [bI, Hp.dU, Hp.bl, List.cons_append, List.nil_append] using this
theorem KW {Ab As Ar : Option Addr} {cb cs cr : Nat} (h : Hp R (pt b (iP c Ab cb As cs Ar cr) 305 :: jz Ab cb c.buf :: ny As cs c.snd :: ny Ar cr c.dF :: L) M) : Hp R (ay bI b c :: L) M := by
 refine Hp.xw ?_
 simp only [bI, Hp.dU, Hp.bl, List.cons_append, List.nil_append]
 exact ⟨_, _, _, _, _, _, h⟩
theorem dx {Ab As Ar : Option Addr} {nb cb ns cs nr cr room : Nat} {closed : Bool} {buf : List Int} {snd dF : List Wt} {L1 L2 L3 L4 : List HP} (h : Hp R L M) (b : Nat)
  [p : jV b L [.int .i64 (room : Int), .slice Ab nb cb, .slice As ns cs, .slice Ar nr cr, .bool closed] 305 L1] [p1 : cJ Ab L1 Int aZ 2 cb buf L2] [p2 : cJ As L2 Wt eG 280 cs snd L3] [p3 : cJ Ar L3 Wt eG 280 cr dF L4]
  (e1 : nb = buf.length := by first | rfl | simp) (e2 : ns = snd.length := by first | rfl | simp) (e3 : nr = dF.length := by first | rfl | simp) : Hp R (ay bI b ⟨room, buf, snd, dF, closed⟩ :: L4) M := by
 subst e1; subst e2; subst e3
 exact KW (h.sub (.cons p.pick (.cons p1.pick (.cons p2.pick (.cons p3.pick .refl)))))
theorem Dj {room : Int} (h : Hp R L M) (k : ∀ b M', Hp R (ay bI b (.new room) :: L) M' → K (.pointer (some ⟨b, 0, none⟩)) M') :
  aa Tryz.prog 113 #[.int .i64 room] M K Kp := by
 refine Ek ?_
 rw [O2]
 refine ae h fun b M' h => k b M' (KW ((((h.bP eG _).bP eG _).bP aZ _).sub bu))
theorem yI {B : Option Addr} {m c : Nat} {w : Wt} {r : List Wt} (h : Hp R L M) (hB : Src R L B (eG.cells (w :: r))) (hm : m = r.length + 1) (hc : m ≤ c) (hn : m ≤ 1000000000)
  (k : ∀ A' c' M', Hp R (ny A' c' r :: L) M' → K (.tuple #[.agg #[.int .i64 w.g, .int .i64 w.cs, .int .i64 w.v], .slice A' r.length c']) M') :
  aa Tryz.prog 250 #[.slice B m c] M K Kp := by
 refine AD ?_
 obtain ⟨b, o, rfl⟩ := hB.gD h (by simp) (by decide)
 repeat (first|(refine ae h ?_;clear h;intro kb M h)|(refine au h ?_;clear h;intro M h)|refine St.to h ?_|(apply Exists.intro;(repeat apply Exists.intro);refine And.intro rfl ?_)|refine av ?_|refine ai ?_|refine aj ?_)
 refine aR (hB.cons.at h (i := 0) (j := 0) rfl rfl (by omega)) ?_
 refine aR (hB.cons.at h (i := 0) (j := 1) rfl rfl (by omega)) ?_
 refine aR (hB.cons.at h (i := 0) (j := 2) rfl rfl (by omega)) ?_
 repeat (first|(refine ae h ?_;clear h;intro kb M h)|(refine au h ?_;clear h;intro M h)|refine St.to h ?_|(apply Exists.intro;(repeat apply Exists.intro);refine And.intro rfl ?_)|refine av ?_|refine ai ?_|refine aj ?_)
 have s2 := hB.drop (m := 1) (c := c) (by simp; omega)
 simp only [Int.toNat_natCast]
 refine h.gE eG rZ r s2.cons.cons (by omega) (by omega) ?_
 clear h
 intro A' c' M h
 repeat (first|(refine ae h ?_;clear h;intro kb M h)|(refine au h ?_;clear h;intro M h)|refine St.to h ?_|(apply Exists.intro;(repeat apply Exists.intro);refine And.intro rfl ?_)|refine av ?_|refine ai ?_|refine aj ?_)
 refine ⟨hB.cons.cons.fN h (i := 0) rfl (by omega), ?_⟩
 repeat (first|(refine ae h ?_;clear h;intro kb M h)|(refine au h ?_;clear h;intro M h)|refine St.to h ?_|(apply Exists.intro;(repeat apply Exists.intro);refine And.intro rfl ?_)|refine av ?_|refine ai ?_|refine aj ?_)
 refine ⟨hB.cons.cons.fN h (i := 0) rfl (by omega), ?_⟩
 repeat (first|(refine ae h ?_;clear h;intro kb M h)|(refine au h ?_;clear h;intro M h)|refine St.to h ?_|(apply Exists.intro;(repeat apply Exists.intro);refine And.intro rfl ?_)|refine av ?_|refine ai ?_|refine aj ?_)
 exact k _ _ _ h.oy
theorem Cl (h : Hp R L M) [o : b6 bI b L c L'] (k : K (.bool c.vL) M) : aa Tryz.prog 249 #[.pointer (some ⟨b, 0, none⟩)] M K Kp := by
 refine pD ?_
 have h' := g8 h (b := b)
 clear h
 obtain ⟨Ab, cb, As, cs, Ar, cr, h⟩ := h'
 repeat (first|(refine ae h ?_;clear h;intro kb M h)|(refine au h ?_;clear h;intro M h)|refine St.to h ?_|(apply Exists.intro;(repeat apply Exists.intro);refine And.intro rfl ?_)|refine av ?_|refine ai ?_|refine aj ?_)
 refine g6.2 ⟨fun hc => ?_, fun hc => ?_⟩
 ·rwa [aV.vL, hc] at k
 ·repeat (first|(refine ae h ?_;clear h;intro kb M h)|(refine au h ?_;clear h;intro M h)|refine St.to h ?_|(apply Exists.intro;(repeat apply Exists.intro);refine And.intro rfl ?_)|refine av ?_|refine ai ?_|refine aj ?_)
  refine aJ.2 ⟨fun hr => ?_, fun hr => ?_⟩
  ·have : c.dF.isEmpty = false := by cases hc : c.dF <;> simp_all
   rwa [aV.vL, hc, this] at k
  ·repeat (first|(refine ae h ?_;clear h;intro kb M h)|(refine au h ?_;clear h;intro M h)|refine St.to h ?_|(apply Exists.intro;(repeat apply Exists.intro);refine And.intro rfl ?_)|refine av ?_|refine ai ?_|refine aj ?_)
   have : c.dF.isEmpty = true := by cases hc : c.dF <;> simp_all
   rw [aV.vL, hc, this] at k
   simpa using k
theorem Cm (h : Hp R L M) [o : b6 bI b L c L'] (k : K (.bool c.vM) M) : aa Tryz.prog 248 #[.pointer (some ⟨b, 0, none⟩)] M K Kp := by
 refine pC ?_
 have h' := g8 h (b := b)
 clear h
 obtain ⟨Ab, cb, As, cs, Ar, cr, h⟩ := h'
 repeat (first|(refine ae h ?_;clear h;intro kb M h)|(refine au h ?_;clear h;intro M h)|refine St.to h ?_|(apply Exists.intro;(repeat apply Exists.intro);refine And.intro rfl ?_)|refine av ?_|refine ai ?_|refine aj ?_)
 refine g6.2 ⟨fun hc => ?_, fun hc => ?_⟩
 ·rwa [aV.vM, hc] at k
 ·repeat (first|(refine ae h ?_;clear h;intro kb M h)|(refine au h ?_;clear h;intro M h)|refine St.to h ?_|(apply Exists.intro;(repeat apply Exists.intro);refine And.intro rfl ?_)|refine av ?_|refine ai ?_|refine aj ?_)
  refine aJ.2 ⟨fun hr => ?_, fun hr => ?_⟩
  ·have : c.snd.isEmpty = false := by cases hc : c.snd <;> simp_all
   rwa [aV.vM, hc, this] at k
  ·repeat (first|(refine ae h ?_;clear h;intro kb M h)|(refine au h ?_;clear h;intro M h)|refine St.to h ?_|(apply Exists.intro;(repeat apply Exists.intro);refine And.intro rfl ?_)|refine av ?_|refine ai ?_|refine aj ?_)
   have : c.snd.isEmpty = true := by cases hc : c.snd <;> simp_all
   rw [aV.vM, hc, this] at k
   have e : (!c.buf.isEmpty) = decide ((c.buf.length : Int) > 0) := by cases c.buf <;> simp
   rw [← e]; simpa using k
theorem qt {w : Wt} (h : Hp R L M) [o : b6 bI b L c L'] (hs : c.Small 1000000000) (k : ∀ M', Hp R (ay bI b { c with snd := c.snd ++ [w] } :: L') M' → K (.tuple #[]) M') :
  aa Tryz.prog 236 #[.pointer (some ⟨b, 0, none⟩), .agg #[.int .i64 w.g, .int .i64 w.cs, .int .i64 w.v]] M K Kp := by
 refine oD ?_
 have h' := g8 h (b := b)
 clear h
 obtain ⟨Ab, cb, As, cs, Ar, cr, h⟩ := h'
 obtain ⟨h1, h2, h3⟩ := hs
 repeat (first|(refine ae h ?_;clear h;intro kb M h)|(refine au h ?_;clear h;intro M h)|refine St.to h ?_|(apply Exists.intro;(repeat apply Exists.intro);refine And.intro rfl ?_)|refine av ?_|refine ai ?_|refine aj ?_)
 refine h.bL rZ [w] rfl rfl (by simp; omega) ?_
 clear h
 intro A' c' M h
 repeat (first|(refine ae h ?_;clear h;intro kb M h)|(refine au h ?_;clear h;intro M h)|refine St.to h ?_|(apply Exists.intro;(repeat apply Exists.intro);refine And.intro rfl ?_)|refine av ?_|refine ai ?_|refine aj ?_)
 exact k _ (dx h b).ck
theorem qu {w : Wt} (h : Hp R L M) [o : b6 bI b L c L'] (hs : c.Small 1000000000) (k : ∀ M', Hp R (ay bI b { c with dF := c.dF ++ [w] } :: L') M' → K (.tuple #[]) M') :
  aa Tryz.prog 235 #[.pointer (some ⟨b, 0, none⟩), .agg #[.int .i64 w.g, .int .i64 w.cs, .int .i64 w.v]] M K Kp := by
 refine oC ?_
 have h' := g8 h (b := b)
 clear h
 obtain ⟨Ab, cb, As, cs, Ar, cr, h⟩ := h'
 obtain ⟨h1, h2, h3⟩ := hs
 repeat (first|(refine ae h ?_;clear h;intro kb M h)|(refine au h ?_;clear h;intro M h)|refine St.to h ?_|(apply Exists.intro;(repeat apply Exists.intro);refine And.intro rfl ?_)|refine av ?_|refine ai ?_|refine aj ?_)
 refine h.bL rZ [w] rfl rfl (by simp; omega) ?_
 clear h
 intro A' c' M h
 repeat (first|(refine ae h ?_;clear h;intro kb M h)|(refine au h ?_;clear h;intro M h)|refine St.to h ?_|(apply Exists.intro;(repeat apply Exists.intro);refine And.intro rfl ?_)|refine av ?_|refine ai ?_|refine aj ?_)
 exact k _ (dx h b).ck
def UR (x : Wt × Bool × Int) : Value := .tuple #[.agg #[.int .i64 x.1.g, .int .i64 x.1.cs, .int .i64 x.1.v], .bool x.2.1, .int .i64 x.2.2]
theorem IX {v : Int} (h : Hp R L M) [o : b6 bI b L c L'] (hs : c.Small 1000000000) (k : ∀ M', Hp R (ay bI b (c.send v).1 :: L') M' → K (UR (c.send v).2) M') :
  aa Tryz.prog 237 #[.pointer (some ⟨b, 0, none⟩), .int .i64 v] M K Kp := by
 refine uv ?_
 obtain ⟨room, buf, snd, dF, closed⟩ := c
 obtain ⟨h1, h2, h3⟩ := hs
 have h' := g8 h (b := b)
 clear h
 obtain ⟨Ab, cb, As, cs, Ar, cr, h⟩ := h'
 dsimp only [iP] at h1 h2 h3 h
 repeat (first|(refine ae h ?_;clear h;intro kb M h)|(refine au h ?_;clear h;intro M h)|refine St.to h ?_|(apply Exists.intro;(repeat apply Exists.intro);refine And.intro rfl ?_)|refine av ?_|refine ai ?_|refine aj ?_)
 refine g6.2 ⟨fun hc => ?_, fun hc => ?_⟩
 ·subst hc
  repeat (first|(refine ae h ?_;clear h;intro kb M h)|(refine au h ?_;clear h;intro M h)|refine St.to h ?_|(apply Exists.intro;(repeat apply Exists.intro);refine And.intro rfl ?_)|refine av ?_|refine ai ?_|refine aj ?_)
  exact k _ (dx h b).ck
 subst hc
 repeat (first|(refine ae h ?_;clear h;intro kb M h)|(refine au h ?_;clear h;intro M h)|refine St.to h ?_|(apply Exists.intro;(repeat apply Exists.intro);refine And.intro rfl ?_)|refine av ?_|refine ai ?_|refine aj ?_)
 refine aJ.2 ⟨fun hr => ?_, fun hr => ?_⟩
 ·cases dF with
  | nil => simp at hr
  | cons w r =>
   repeat (first|(refine ae h ?_;clear h;intro kb M h)|(refine au h ?_;clear h;intro M h)|refine St.to h ?_|(apply Exists.intro;(repeat apply Exists.intro);refine And.intro rfl ?_)|refine av ?_|refine ai ?_|refine aj ?_)
   refine yI h (h.src (A := Ar)) rfl (h.kH Ar) (by simpa using h3) ?_
   clear h
   intro A' c' M h
   repeat (first|(refine ae h ?_;clear h;intro kb M h)|(refine au h ?_;clear h;intro M h)|refine St.to h ?_|(apply Exists.intro;(repeat apply Exists.intro);refine And.intro rfl ?_)|refine av ?_|refine ai ?_|refine aj ?_)
   exact k _ (dx h b).ck
 cases dF with
 | cons w r => simp at hr
 | nil =>
 simp only [aV.send, Bool.false_eq_true, if_false] at k
 repeat (first|(refine ae h ?_;clear h;intro kb M h)|(refine au h ?_;clear h;intro M h)|refine St.to h ?_|(apply Exists.intro;(repeat apply Exists.intro);refine And.intro rfl ?_)|refine av ?_|refine ai ?_|refine aj ?_)
 refine aJ.2 ⟨fun hl => ?_, fun hl => ?_⟩
 ·rw [if_pos (by omega)] at k
  repeat (first|(refine ae h ?_;clear h;intro kb M h)|(refine au h ?_;clear h;intro M h)|refine St.to h ?_|(apply Exists.intro;(repeat apply Exists.intro);refine And.intro rfl ?_)|refine av ?_|refine ai ?_|refine aj ?_)
  refine h.bL xD [v] rfl rfl (by simp; omega) ?_
  clear h
  intro A' c' M h
  repeat (first|(refine ae h ?_;clear h;intro kb M h)|(refine au h ?_;clear h;intro M h)|refine St.to h ?_|(apply Exists.intro;(repeat apply Exists.intro);refine And.intro rfl ?_)|refine av ?_|refine ai ?_|refine aj ?_)
  exact k _ (dx h b).ck
 ·rw [if_neg (by omega)] at k
  repeat (first|(refine ae h ?_;clear h;intro kb M h)|(refine au h ?_;clear h;intro M h)|refine St.to h ?_|(apply Exists.intro;(repeat apply Exists.intro);refine And.intro rfl ?_)|refine av ?_|refine ai ?_|refine aj ?_)
  exact k _ (dx h b).ck
def US (x : Int × Bool × Wt × Bool × Int) : Value := .tuple #[.agg #[.int .i64 x.1, .bool x.2.1, .int .i64 x.2.2.1.g, .int .i64 x.2.2.1.cs, .int .i64 x.2.2.1.v, .bool x.2.2.2.1], .int .i64 x.2.2.2.2]
theorem IY (h : Hp R L M) [o : b6 bI b L c L'] (hs : c.Small 1000000000) (k : ∀ M', Hp R (ay bI b c.recv.1 :: L') M' → K (US c.recv.2) M') :
  aa Tryz.prog 239 #[.pointer (some ⟨b, 0, none⟩)] M K Kp := by
 refine uw ?_
 obtain ⟨room, buf, snd, dF, closed⟩ := c
 obtain ⟨h1, h2, h3⟩ := hs
 have h' := g8 h (b := b)
 clear h
 obtain ⟨Ab, cb, As, cs, Ar, cr, h⟩ := h'
 dsimp only [iP] at h1 h2 h3 h
 refine ae h ?_
 clear h
 intro kr M h
 refine ae h ?_
 clear h
 intro kg M h
 repeat (first|(refine ae h ?_;clear h;intro kb M h)|(refine au h ?_;clear h;intro M h)|refine St.to h ?_|(apply Exists.intro;(repeat apply Exists.intro);refine And.intro rfl ?_)|refine av ?_|refine ai ?_|refine aj ?_)
 refine ⟨fun vs M => vs = [] ∧ ∃ Ab cb As cs, Hp R (pt kr [.int .i64 0, .bool false, .int .i64 0, .int .i64 0, .int .i64 0, .bool false] 381 ::
  pt kg [.int .i64 0, .bool false, .int .i64 (snd.headD .zero).g, .int .i64 (snd.headD .zero).cs, .int .i64 (snd.headD .zero).v, .bool (!snd.isEmpty)] 381 ::
  pt b (iP ⟨room, aV.all ⟨room, buf, snd, dF, closed⟩, snd.tail, dF, closed⟩ Ab cb As cs Ar cr) 305 :: jz Ab cb (aV.all ⟨room, buf, snd, dF, closed⟩) :: ny As cs snd.tail :: ny Ar cr dF :: L') M, ?_, ?_⟩
 ·refine aJ.2 ⟨fun hr => ?_, fun hr => ?_⟩
  ·cases snd with
   | nil => simp at hr
   | cons w r =>
    repeat (first|(refine ae h ?_;clear h;intro kb M h)|(refine au h ?_;clear h;intro M h)|refine St.to h ?_|(apply Exists.intro;(repeat apply Exists.intro);refine And.intro rfl ?_)|refine av ?_|refine ai ?_|refine aj ?_)
    refine yI h (h.src (A := As)) rfl (h.kH As) (by simpa using h2) ?_
    clear h
    intro A' c' M h
    repeat (first|(refine ae h ?_;clear h;intro kb M h)|(refine au h ?_;clear h;intro M h)|refine St.to h ?_|(apply Exists.intro;(repeat apply Exists.intro);refine And.intro rfl ?_)|refine av ?_|refine ai ?_|refine aj ?_)
    refine h.bL xD [w.v] rfl rfl (by simp; omega) ?_
    clear h
    intro A2 c2 M h
    repeat (first|(refine ae h ?_;clear h;intro kb M h)|(refine au h ?_;clear h;intro M h)|refine St.to h ?_|(apply Exists.intro;(repeat apply Exists.intro);refine And.intro rfl ?_)|refine av ?_|refine ai ?_|refine aj ?_)
    exact ⟨A2, c2, A', c', h.sub bu⟩
  ·cases snd with
   | cons w r => simp at hr
   | nil => exact ⟨rfl, Ab, cb, As, cs, h.sub bu⟩
 clear h
 rintro _ M ⟨_, Ab, cb, As, cs, h⟩
 unfold aV.recv at k
 dsimp only at k
 have iR : (aV.all ⟨room, buf, snd, dF, closed⟩).length ≤ 1000000001 := by unfold aV.all; split <;> simp <;> omega
 have Sp : aV.all ⟨room, buf, snd, dF, closed⟩ = [] → snd = [] ∧ buf = [] := by unfold aV.all; dsimp only; cases snd <;> simp
 generalize aV.all ⟨room, buf, snd, dF, closed⟩ = all at h k iR Sp
 dsimp only [iP] at h
 repeat (first|(refine ae h ?_;clear h;intro kb M h)|(refine au h ?_;clear h;intro M h)|refine St.to h ?_|(apply Exists.intro;(repeat apply Exists.intro);refine And.intro rfl ?_)|refine av ?_|refine ai ?_|refine aj ?_)
 refine aJ.2 ⟨fun hr => ?_, fun hr => ?_⟩
 ·cases all with
  | nil => simp at hr
  | cons v l =>
   dsimp only at k
   repeat (first|(refine ae h ?_;clear h;intro kb M h)|(refine au h ?_;clear h;intro M h)|refine St.to h ?_|(apply Exists.intro;(repeat apply Exists.intro);refine And.intro rfl ?_)|refine av ?_|refine ai ?_|refine aj ?_)
   obtain ⟨x, rfl⟩ := h.bF (A := Ab) (by simp) (by decide)
   repeat (first|(refine ae h ?_;clear h;intro kb M h)|(refine au h ?_;clear h;intro M h)|refine St.to h ?_|(apply Exists.intro;(repeat apply Exists.intro);refine And.intro rfl ?_)|refine av ?_|refine ai ?_|refine aj ?_)
   refine aR ((h.src (A := some ⟨x, 0, none⟩)).at h (i := 0) (j := 0) rfl rfl (by omega)) ?_
   have hcap := h.kH (some ⟨x, 0, none⟩)
   have hlen : l.length + 1 ≤ 1000000001 := by simpa using iR
   repeat (first|(refine ae h ?_;clear h;intro kb M h)|(refine au h ?_;clear h;intro M h)|refine St.to h ?_|(apply Exists.intro;(repeat apply Exists.intro);refine And.intro rfl ?_)|refine av ?_|refine ai ?_|refine aj ?_)
   simp only [Int.toNat_natCast]
   refine h.gE aZ xD l ((h.src (A := some ⟨x, 0, none⟩)).drop (m := 1) hcap) (by simp) (by omega) ?_
   clear h
   intro A' c' M h
   repeat (first|(refine ae h ?_;clear h;intro kb M h)|(refine au h ?_;clear h;intro M h)|refine St.to h ?_|(apply Exists.intro;(repeat apply Exists.intro);refine And.intro rfl ?_)|refine av ?_|refine ai ?_|refine aj ?_)
   exact k _ (dx h b).ck
 ·cases all with
  | cons v l => simp at hr
  | nil =>
  obtain ⟨rfl, rfl⟩ := Sp rfl
  repeat (first|(refine ae h ?_;clear h;intro kb M h)|(refine au h ?_;clear h;intro M h)|refine St.to h ?_|(apply Exists.intro;(repeat apply Exists.intro);refine And.intro rfl ?_)|refine av ?_|refine ai ?_|refine aj ?_)
  refine g6.2 ⟨fun hc => ?_, fun hc => ?_⟩
  ·subst hc
   repeat (first|(refine ae h ?_;clear h;intro kb M h)|(refine au h ?_;clear h;intro M h)|refine St.to h ?_|(apply Exists.intro;(repeat apply Exists.intro);refine And.intro rfl ?_)|refine av ?_|refine ai ?_|refine aj ?_)
   exact k _ (dx h b).ck
  ·subst hc
   repeat (first|(refine ae h ?_;clear h;intro kb M h)|(refine au h ?_;clear h;intro M h)|refine St.to h ?_|(apply Exists.intro;(repeat apply Exists.intro);refine And.intro rfl ?_)|refine av ?_|refine ai ?_|refine aj ?_)
   exact k _ (dx h b).ck
theorem Gh (h : Hp R L M) [o : b6 bI b L c L'] (hs : c.Small 1000000000)
  (k : ∀ A ca B cb D cd M', Hp R (ay bI b c :: ny D cd c.dF :: ny B cb c.snd :: jz A ca c.buf :: L') M' → K (.agg #[.slice A c.buf.length ca, .slice B c.snd.length cb, .slice D c.dF.length cd, .bool c.closed]) M') :
  aa Tryz.prog 137 #[.pointer (some ⟨b, 0, none⟩)] M K Kp := by
 refine sE ?_
 have h' := g8 h (b := b)
 clear h
 obtain ⟨Ab, cb, As, cs, Ar, cr, h⟩ := h'
 obtain ⟨h1, h2, h3⟩ := hs
 repeat (first|(refine ae h ?_;clear h;intro kb M h)|(refine au h ?_;clear h;intro M h)|refine St.to h ?_|(apply Exists.intro;(repeat apply Exists.intro);refine And.intro rfl ?_)|refine av ?_|refine ai ?_|refine aj ?_)
 refine h.gE aZ xD c.buf (h.src (A := Ab)) rfl (by omega) ?_
 clear h
 intro A ca M h
 repeat (first|(refine ae h ?_;clear h;intro kb M h)|(refine au h ?_;clear h;intro M h)|refine St.to h ?_|(apply Exists.intro;(repeat apply Exists.intro);refine And.intro rfl ?_)|refine av ?_|refine ai ?_|refine aj ?_)
 refine h.gE eG rZ c.snd (h.src (A := As)) rfl (by omega) ?_
 clear h
 intro B cb' M h
 repeat (first|(refine ae h ?_;clear h;intro kb M h)|(refine au h ?_;clear h;intro M h)|refine St.to h ?_|(apply Exists.intro;(repeat apply Exists.intro);refine And.intro rfl ?_)|refine av ?_|refine ai ?_|refine aj ?_)
 refine h.gE eG rZ c.dF (h.src (A := Ar)) rfl (by omega) ?_
 clear h
 intro D cd M h
 repeat (first|(refine ae h ?_;clear h;intro kb M h)|(refine au h ?_;clear h;intro M h)|refine St.to h ?_|(apply Exists.intro;(repeat apply Exists.intro);refine And.intro rfl ?_)|refine av ?_|refine ai ?_|refine aj ?_)
 exact k _ _ _ _ _ _ _ (dx h b).ck
theorem Gi (h : Hp R L M) [o : b6 bI b L c L']
  (k : ∀ A ca B cb M', Hp R (ay bI b c.close.1 :: ny B cb c.close.2.2.1 :: ny A ca c.close.2.1 :: L') M' → K (.tuple #[.slice A c.close.2.1.length ca, .slice B c.close.2.2.1.length cb, .int .i64 c.close.2.2.2]) M') :
  aa Tryz.prog 243 #[.pointer (some ⟨b, 0, none⟩)] M K Kp := by
 refine sH ?_
 obtain ⟨room, buf, snd, dF, closed⟩ := c
 have h' := g8 h (b := b)
 clear h
 obtain ⟨Ab, cb, As, cs, Ar, cr, h⟩ := h'
 dsimp only [iP] at h
 repeat (first|(refine ae h ?_;clear h;intro kb M h)|(refine au h ?_;clear h;intro M h)|refine St.to h ?_|(apply Exists.intro;(repeat apply Exists.intro);refine And.intro rfl ?_)|refine av ?_|refine ai ?_|refine aj ?_)
 refine g6.2 ⟨fun hc => ?_, fun hc => ?_⟩
 ·subst hc
  have h := dx ((h.bP eG 280).bP eG 280) b
  exact k none 0 none 0 _ h
 ·subst hc
  repeat (first|(refine ae h ?_;clear h;intro kb M h)|(refine au h ?_;clear h;intro M h)|refine St.to h ?_|(apply Exists.intro;(repeat apply Exists.intro);refine And.intro rfl ?_)|refine av ?_|refine ai ?_|refine aj ?_)
  have h := (h.bP eG 280).bP eG 280
  exact k _ _ _ _ _ ((dx h b).sub bu)
theorem jQ {B : Option Addr} {n cc : Nat} {g : Int} {l : List Wt} (h : Hp R L M) (hB : Src R L B (eG.cells l)) (hn : n = l.length) (hs : l.length ≤ 1000000000)
  (k : ∀ A' c' M', Hp R (ny A' c' (wo g l) :: L) M' → K (.slice A' (wo g l).length c') M') :
  aa Tryz.prog 254 #[.slice B n cc, .int .i64 g] M K Kp := by
 subst hn
 refine xC ⟨fun d vs M => ∃ i A c, vs = [.slice A (wo g (l.take i)).length c, .int .i64 (i : Int)] ∧ d = l.length - i ∧ i ≤ l.length ∧ Hp R (ny A c (wo g (l.take i)) :: L) M,
  ⟨_, 0, none, 0, rfl, rfl, by omega, h.bP _ _⟩, ?_⟩
 clear h
 rintro d _ A n c' ii M ⟨i, _, _, he, hd, hi, h⟩
 simp only [List.cons.injEq, Value.slice.injEq, Value.int.injEq, and_true, true_and] at he
 obtain ⟨⟨rfl, rfl, rfl⟩, rfl⟩ := he
 refine aJ.2 ⟨fun hlt => ?_, fun hge => ?_⟩
 ·obtain ⟨w, hw⟩ := aM (l := l) (i := i) (by omega)
  obtain ⟨b, o, rfl⟩ := hB.cons.gD h (by omega) (by decide)
  have e1 : IntKind.wrap .i64 ((i : Int) + 1) = ((i + 1 : Nat) : Int) := aQ (by omega)
  have hl := IK g (l.take i)
  have kM := List.length_take_le i l
  rw [e1]
  repeat (first|(refine ae h ?_;clear h;intro kb M h)|(refine au h ?_;clear h;intro M h)|refine St.to h ?_|(apply Exists.intro;(repeat apply Exists.intro);refine And.intro rfl ?_)|refine av ?_|refine ai ?_|refine aj ?_)
  refine aR (hB.cons.at h (j := 0) hw rfl (by simp [eG])) ?_
  refine aR (hB.cons.at h (j := 1) hw rfl (by simp [eG]; omega)) ?_
  refine aR (hB.cons.at h (j := 2) hw rfl (by simp [eG]; omega)) ?_
  repeat (first|(refine ae h ?_;clear h;intro kb M h)|(refine au h ?_;clear h;intro M h)|refine St.to h ?_|(apply Exists.intro;(repeat apply Exists.intro);refine And.intro rfl ?_)|refine av ?_|refine ai ?_|refine aj ?_)
  refine fj.2 ⟨fun hne => ?_, fun heq => ?_⟩
  ·have e2 : wo g (l.take (i + 1)) = wo g (l.take i) ++ [w] := by rw [bx hw, O4]; simp [wo, hne]
   repeat (first|(refine ae h ?_;clear h;intro kb M h)|(refine au h ?_;clear h;intro M h)|refine St.to h ?_|(apply Exists.intro;(repeat apply Exists.intro);refine And.intro rfl ?_)|refine av ?_|refine ai ?_|refine aj ?_)
   refine h.bL rZ [w] rfl rfl (by simp; omega) ?_
   clear h
   intro A' c' M h
   repeat (first|(refine ae h ?_;clear h;intro kb M h)|(refine au h ?_;clear h;intro M h)|refine St.to h ?_|(apply Exists.intro;(repeat apply Exists.intro);refine And.intro rfl ?_)|refine av ?_|refine ai ?_|refine aj ?_)
   exact ⟨l.length - (i + 1), by omega, i + 1, A', c', by rw [e2], rfl, by omega, by rw [e2]; exact h.ck⟩
  ·have e2 : wo g (l.take (i + 1)) = wo g (l.take i) := by rw [bx hw, O4]; simp [wo, heq]
   exact ⟨l.length - (i + 1), by omega, i + 1, A, c', by rw [e2], rfl, by omega, by rw [e2]; exact h.oy⟩
 ·have : i = l.length := by omega
  subst this
  rw [List.take_length] at h ⊢
  exact k _ _ _ h
theorem IZ {g : Int} (h : Hp R L M) [o : b6 bI b L c L'] (hs : c.Small 1000000000) (k : ∀ M', Hp R (ay bI b (c.drop g) :: L') M' → K (.tuple #[]) M') :
  aa Tryz.prog 253 #[.pointer (some ⟨b, 0, none⟩), .int .i64 g] M K Kp := by
 refine uy ?_
 have h' := g8 h (b := b)
 clear h
 obtain ⟨Ab, cb, As, cs, Ar, cr, h⟩ := h'
 obtain ⟨h1, h2, h3⟩ := hs
 repeat (first|(refine ae h ?_;clear h;intro kb M h)|(refine au h ?_;clear h;intro M h)|refine St.to h ?_|(apply Exists.intro;(repeat apply Exists.intro);refine And.intro rfl ?_)|refine av ?_|refine ai ?_|refine aj ?_)
 refine ⟨?_, ?_, trivial⟩
 ·refine jQ h (h.src (A := As)) rfl h2 ?_
  clear h
  intro A' c' M h
  repeat (first|(refine ae h ?_;clear h;intro kb M h)|(refine au h ?_;clear h;intro M h)|refine St.to h ?_|(apply Exists.intro;(repeat apply Exists.intro);refine And.intro rfl ?_)|refine av ?_|refine ai ?_|refine aj ?_)
  refine jQ h (h.src (A := Ar)) rfl h3 ?_
  clear h
  intro B' d' M h
  repeat (first|(refine ae h ?_;clear h;intro kb M h)|(refine au h ?_;clear h;intro M h)|refine St.to h ?_|(apply Exists.intro;(repeat apply Exists.intro);refine And.intro rfl ?_)|refine av ?_|refine ai ?_|refine aj ?_)
  exact k _ (dx h b).ck
 ·repeat (first|(refine ae h ?_;clear h;intro kb M h)|(refine au h ?_;clear h;intro M h)|refine St.to h ?_|(apply Exists.intro;(repeat apply Exists.intro);refine And.intro rfl ?_)|refine av ?_|refine ai ?_|refine aj ?_)
  refine jQ h (h.src (A := As)) rfl h2 ?_
  clear h
  intro A' c' M h
  repeat (first|(refine ae h ?_;clear h;intro kb M h)|(refine au h ?_;clear h;intro M h)|refine St.to h ?_|(apply Exists.intro;(repeat apply Exists.intro);refine And.intro rfl ?_)|refine av ?_|refine ai ?_|refine aj ?_)
  refine jQ h (h.src (A := Ar)) rfl h3 ?_
  clear h
  intro B' d' M h
  repeat (first|(refine ae h ?_;clear h;intro kb M h)|(refine au h ?_;clear h;intro M h)|refine St.to h ?_|(apply Exists.intro;(repeat apply Exists.intro);refine And.intro rfl ?_)|refine av ?_|refine ai ?_|refine aj ?_)
  exact k _ (dx h b).ck
end
end Go.Proofs
namespace Go.AF
theorem oH {α β γ : Type} {f : α → β → γ} : ∀ {l : List α} {m : List β} {i : Nat} {a : α} {b : β}, l[i]? = some a → (List.zipWith f l m).set i (f a b) = List.zipWith f l (m.set i b)
 | [], _, _, _, _, h => by simp at h
 | x :: l, [], i, a, b, h => by simp
 | x :: l, y :: m, 0, a, b, h => by simp at h; subst h; rfl
 | x :: l, y :: m, i + 1, a, b, h => by
  have := oH (f := f) (m := m) (b := b) (show l[i]? = some a from by simpa using h)
  simp [this]
theorem I0 {α β γ : Type} {f : α → β → γ} : ∀ {l : List α} {m : List β} {i : Nat} {a : α} {b : β}, l[i]? = some a → m[i]? = some b → (List.zipWith f l m)[i]? = some (f a b)
 | [], _, _, _, _, h, _ => by simp at h
 | x :: l, [], i, a, b, h, g => by simp at g
 | x :: l, y :: m, 0, a, b, h, g => by simp at h g; subst h; subst g; rfl
 | x :: l, y :: m, i + 1, a, b, h, g => by simpa using I0 (f := f) (show l[i]? = some a from by simpa using h) (show m[i]? = some b from by simpa using g)
theorem cZ.past {P : HP} {L : List HP} : ∀ (l : List HP), cZ (l ++ P :: L) P (l ++ L)
 | [] => .here
 | Q :: l => .there (cZ.past l)
section
variable {α : Type} {r : um α} {R : Mem} {L L' nY : List HP} {M : Mem} {bs : List Nat} {cs : List α} {b i : Nat} {c : α}
def bp (r : um α) (bs : List Nat) (cs : List α) : HP := sep (List.zipWith (ay r) bs cs)
def mF (r : um α) (bs : List Nat) (cs : List α) (i : Nat) : HP := sep ((List.zipWith (ay r) bs cs).eraseIdx i)
class gk (r : um α) (L : List HP) (bs : outParam (List Nat)) (cs : outParam (List α)) (L' : outParam (List HP)) : Prop where
 pick : cZ L (bp r bs cs) L'
instance gk.here : gk r (bp r bs cs :: L) bs cs L := ⟨.here⟩
instance (priority := low) gk.there {P : HP} [h : gk r L bs cs L'] : gk r (P :: L) bs cs (P :: L') := ⟨.there h.pick⟩
class yJ (r : um α) (L : List HP) (bs : outParam (List Nat)) (cs : outParam (List α)) (i : outParam Nat) (L' : outParam (List HP)) : Prop where
 pick : cZ L (mF r bs cs i) L'
instance yJ.here : yJ r (mF r bs cs i :: L) bs cs i L := ⟨.here⟩
instance (priority := low) yJ.there {P : HP} [h : yJ r L bs cs i L'] : yJ r (P :: L) bs cs i (P :: L') := ⟨.there h.pick⟩
theorem Hp.oI (h : Hp R L M) (r : um α) {bs : List Nat} {cs : List α} [o : gk r L bs cs L'] : Hp R (bp r bs cs :: L') M := h.pick o.pick
theorem Hp.vV (h : Hp R L M) (r : um α) : Hp R (bp r [] [] :: L) M := Hp.bl.2 h
theorem Hp.cK (h : Hp R L M) (r : um α) {bs : List Nat} {cs : List α} [o : gk r L bs cs L'] (hb : bs[i]? = some b) (hc : cs[i]? = some c) : Hp R (ay r b c :: mF r bs cs i :: L') M :=
 (h.pick o.pick).focus (I0 hb hc)
theorem Hp.eF (h : Hp R L M) (r : um α) (b : Nat) {bs : List Nat} {cs : List α} {i : Nat} {c : α} [o : b6 r b L c L'] [x : yJ r L' bs cs i nY] (hb : bs[i]? = some b) (hc : i < cs.length) : Hp R (bp r bs (cs.set i c) :: nY) M := by
 have h1 : Hp R (ay r b c :: mF r bs cs i :: nY) M := (h.pick o.pick).map fun _ hs => hs.tail (fun _ => cq.pick x.pick)
 have h2 := Hp.Sx (ls := List.zipWith (ay r) bs cs) h1 (by rw [List.length_zipWith]; have := (List.getElem?_eq_some_iff.1 hb).1; omega)
 rw [oH hb] at h2
 exact h2
theorem Hp.lH (h : Hp R L M) (r : um α) (b : Nat) {bs : List Nat} {cs : List α} {i : Nat} {c : α} [o : b6 r b L c L'] [x : yJ r L' bs cs i nY] (hb : bs[i]? = some b) (hc : cs[i]? = some c) : Hp R (bp r bs cs :: nY) M := by
 have := h.eF r b hb (List.getElem?_eq_some_iff.1 hc).1
 obtain ⟨hi, rfl⟩ := List.getElem?_eq_some_iff.1 hc
 rwa [List.set_getElem_self] at this
theorem Hp.lI (h : Hp R L M) (r : um α) (b : Nat) {bs : List Nat} {cs : List α} {c : α} [o : b6 r b L c L'] [x : gk r L' bs cs nY] (hl : bs.length = cs.length) : Hp R (bp r (bs ++ [b]) (cs ++ [c]) :: nY) M := by
 have h1 : Hp R (ay r b c :: bp r bs cs :: nY) M := (h.pick o.pick).map fun _ hs => hs.tail (fun _ => cq.pick x.pick)
 refine Hp.bl.2 ?_
 rw [List.zipWith_append hl, List.append_assoc]
 refine Hp.ov (P := ay r b c) ?_ (cZ.past _)
 exact h1.map fun _ hs => hs.tail fun _ hb => cq.bl.1 hb
end
end Go.AF
namespace Go.Proofs
open Go.AF
set_option maxRecDepth 100000
variable {M : Mem} {K : Value → Mem → Prop} {Kp : List PanicEntry → Mem → Prop}
theorem xE {B0 : Option Addr} {m0 c0 : Nat} {B1 : Option Addr} {m1 c1 : Nat} (h :
∃ I1 : IT, (∃ k2, I1 k2 [(.slice none 0 0), (iV 0)] M) ∧
∀ (k3 : Nat) (_ : Nat → Value) (A5 : Option Addr) (k6 : Nat) (k7 : Nat) (n8 : Int) (M9 : Mem), (I1 k3 [(.slice A5 k6 k7), (iV n8)] M9) → aS (decide (n8 < m0))
 ((0 ≤ n8) ∧
 (n8 < m0) ∧
 aE B0 fun c6 dQ =>
 kJ M9 c6 (dQ + ((Int.toNat n8) * 3)) fun ik iq jX =>
 aX M9 rV fun hU dZ =>
 Fo dZ hU (iV ik) (iV iq) (iV jX) fun jx =>
 kJ jx hU 0 fun fB kD oE =>
 aa Tryz.prog 234 #[(.agg #[(iV fB), (iV kD), (iV oE)]), (.slice B1 m1 c1)] jx (fun v23 kL =>
 dH (some v23) fun t25 =>
 aS t25
 (aX kL (cl [(iV n8)] 3) fun jW w6 =>
 aA 36 A5 k6 k7 (some ⟨jW, 0, none⟩) 1 1 w6 (fun Pn mE =>
 az (some Pn) fun zO mu sF =>
 ∃ pB : Nat, (pB < k3) ∧
 I1 pB [(.slice zO mu sF), (iV (IntKind.wrap .i64 (n8 + 1)))] mE) Kp)
 (∃ vS : Nat, (vS < k3) ∧
 I1 vS [(.slice A5 k6 k7), (iV (IntKind.wrap .i64 (n8 + 1)))] kL)) Kp)
 (K (.slice A5 k6 k7) M9)) :
 aa Tryz.prog 205 #[.slice B0 m0 c0, .slice B1 m1 c1] M K Kp := vw [(2000000, .loop [(5, .c .sl), (10, .c (.int .i64))])] Tryz.func205 h
theorem Cn {B0 : Option Addr} {m0 c0 : Nat} (h :
∃ I1 : IT, (∃ k2, I1 k2 [(iV 0)] M) ∧
∀ (k3 : Nat) (_ : Nat → Value) (n5 : Int) (M6 : Mem), (I1 k3 [(iV n5)] M6) → aS (decide (n5 < m0))
 ((0 ≤ n5) ∧
 (n5 < m0) ∧
 aE B0 fun k7 k8 =>
 kJ M6 k7 (k8 + ((Int.toNat n5) * 3)) fun n9 jA eD =>
 aX M6 rV fun gx jy =>
 Fo jy gx (iV n9) (iV jA) (iV eD) fun dZ =>
 rI dZ gx 0 fun iB =>
 aS (iB == 2)
 (K (.tuple #[(iV n5), (.bool true)]) dZ)
 (∃ dJ : Nat, (dJ < k3) ∧
 I1 dJ [(iV (IntKind.wrap .i64 (n5 + 1)))] dZ))
 (K (.tuple #[(iV 0), (.bool false)]) M6)) :
 aa Tryz.prog 206 #[.slice B0 m0 c0] M K Kp := vw [(2000000, .loop [(8, .c (.int .i64))])] Tryz.func206 h
theorem Co {x0 : Int} {B1 : Option Addr} {m1 c1 : Nat} {B2 : Option Addr} {m2 c2 : Nat} {B3 : Option Addr} {m3 c3 : Nat} (h :
∃ I1 : IT, (∃ k2, I1 k2 [(iV 0)] M) ∧
∀ (k3 : Nat) (_ : Nat → Value) (n5 : Int) (M6 : Mem), (I1 k3 [(iV n5)] M6) → aS (decide (n5 < m1))
 ((0 ≤ n5) ∧
 (n5 < m1) ∧
 aE B1 fun k7 k8 =>
 kJ M6 k7 (k8 + ((Int.toNat n5) * 3)) fun n9 jA eD =>
 aX M6 rV fun gx jy =>
 Fo jy gx (iV n9) (iV jA) (iV eD) fun dZ =>
 rI dZ gx 0 fun iB =>
 aS (iB == 0)
 (rI dZ gx 1 fun jY =>
 (0 ≤ jY) ∧
 (jY < m3) ∧
 aE B3 fun iw g7 =>
 rP dZ iw (g7 + (Int.toNat jY)) fun zk =>
 aa Tryz.prog 235 #[(.pointer zk), (.agg #[(iV x0), (iV n5), (iV 0)])] dZ (fun zd gB =>
 (zd = (.tuple #[])) ∧
 ∃ lq : Nat, (lq < k3) ∧
 I1 lq [(iV (IntKind.wrap .i64 (n5 + 1)))] gB) Kp)
 (aS (iB == 1)
 (rI dZ gx 1 fun m7 =>
 (0 ≤ m7) ∧
 (m7 < m3) ∧
 aE B3 fun jW nw =>
 rP dZ jW (nw + (Int.toNat m7)) fun Wa =>
 rI dZ gx 2 fun vW =>
 (0 ≤ vW) ∧
 (vW < m2) ∧
 aE B2 fun mq mu =>
 rI dZ mq (mu + (Int.toNat vW)) fun n32 =>
 aa Tryz.prog 236 #[(.pointer Wa), (.agg #[(iV x0), (iV n5), (iV n32)])] dZ (fun v33 pE =>
 (v33 = (.tuple #[])) ∧
 ∃ zg : Nat, (zg < k3) ∧
 I1 zg [(iV (IntKind.wrap .i64 (n5 + 1)))] pE) Kp)
 (∃ Mz : Nat, (Mz < k3) ∧
 I1 Mz [(iV (IntKind.wrap .i64 (n5 + 1)))] dZ)))
 (K (.tuple #[]) M6)) :
 aa Tryz.prog 207 #[.int .i64 x0, .slice B1 m1 c1, .slice B2 m2 c2, .slice B3 m3 c3] M K Kp := vw [(2000000, .loop [(12, .c (.int .i64))]), (7, .bS [0, 0, 2, 7, 15, 0, 0, 0, 0, 256, 896, 1920, 4064, 8191] (sy [0, 1, 5, 6, 7, 8, 2, 3, 4, 9, 10, 11, 12, 13] .done))] Tryz.func207 h
theorem vX {nA : Int} {AE : Int} {fR : Int} {B1 : Option Addr} {m1 c1 : Nat} (h :
aX M (cl [(iV nA), (iV AE), (iV fR)] 165) fun k1 M2 =>
rI M2 k1 0 fun n3 =>
aS (n3 == 0)
 (rI M2 k1 1 fun n4 =>
 (0 ≤ n4) ∧
 (n4 < m1) ∧
 aE B1 fun k5 k6 =>
 rP M2 k5 (k6 + (Int.toNat n4)) fun A7 =>
 aa Tryz.prog 248 #[(.pointer A7)] M2 (fun v8 M9 =>
 dH (some v8) fun t10 =>
 K (.bool t10) M9) Kp)
 (aS (n3 == 1)
 (rI M2 k1 1 fun eD =>
 (0 ≤ eD) ∧
 (eD < m1) ∧
 aE B1 fun gx de =>
 rP M2 gx (de + (Int.toNat eD)) fun pn =>
 aa Tryz.prog 249 #[(.pointer pn)] M2 (fun ur dZ =>
 dH (some ur) fun t17 =>
 K (.bool t17) dZ) Kp)
 (K (.bool false) M2))) :
 aa Tryz.prog 234 #[.agg #[.int .i64 nA, .int .i64 AE, .int .i64 fR], .slice B1 m1 c1] M K Kp := vw [] Tryz.func234 h
theorem AG {x0 : Int} {B1 : Option Addr} {m1 c1 : Nat} (h :
∃ I1 : IT, (∃ k2, I1 k2 [(iV 0)] M) ∧
∀ (k3 : Nat) (_ : Nat → Value) (n5 : Int) (M6 : Mem), (I1 k3 [(iV n5)] M6) → aS (decide (n5 < m1))
 ((0 ≤ n5) ∧
 (n5 < m1) ∧
 aE B1 fun k7 k8 =>
 rP M6 k7 (k8 + (Int.toNat n5)) fun A9 =>
 aa Tryz.prog 253 #[(.pointer A9), (iV x0)] M6 (fun v10 iO =>
 (v10 = (.tuple #[])) ∧
 ∃ gx : Nat, (gx < k3) ∧
 I1 gx [(iV (IntKind.wrap .i64 (n5 + 1)))] iO) Kp)
 (K (.tuple #[]) M6)) :
 aa Tryz.prog 252 #[.int .i64 x0, .slice B1 m1 c1] M K Kp := vw [(2000000, .loop [(8, .c (.int .i64))])] Tryz.func252 h
end Go.Proofs
namespace Go.Proofs
open Go.AF
set_option maxRecDepth 100000
set_option maxHeartbeats 1000000
attribute [local irreducible] aK dH fa cw az fk aE aP aX be bK aS
structure po where
 way : Int
 ch : Int
 bS : Int
 deriving DecidableEq
def iD : fO po := ⟨3, fun w => [.int .i64 w.way, .int .i64 w.ch, .int .i64 w.bS], fun _ => rfl, fun w v hv => by
 simp only [List.mem_cons, List.not_mem_nil, or_false] at hv; obtain rfl | rfl | rfl := hv <;> rfl⟩
def po.Ok (n : Nat) (c : po) : Prop := 0 ≤ c.way ∧ c.way ≤ 2 ∧ (c.way ≠ 2 → 0 ≤ c.ch ∧ c.ch < n ∧ 0 ≤ c.bS ∧ c.bS < 8)
instance (n : Nat) (c : po) : Decidable (c.Ok n) := by unfold po.Ok; infer_instance
def dg (cs : List aV) (k : Int) : aV := cs.getD k.toNat ⟨0, [], [], [], false⟩
def can (cs : List aV) (c : po) : Bool := if c.way = 0 then (dg cs c.ch).vM else if c.way = 1 then (dg cs c.ch).vL else false
def Po (cases : List po) (cs : List aV) (j : Nat) : Bool := match cases[j]? with
 | some c => can cs c
 | none => false
def Er (cases : List po) (cs : List aV) (i : Nat) : List Int := ((List.range i).filter (Po cases cs)).map Int.ofNat
def enabled (cases : List po) (cs : List aV) : List Int := Er cases cs cases.length
theorem Gj (cases : List po) (cs : List aV) (i : Nat) : (Er cases cs i).length ≤ i := by
 unfold Er; rw [List.length_map]; exact Nat.le_trans (List.length_filter_le ..) (by simp)
theorem Dk {cases : List po} {cs : List aV} {i : Nat} {c : po} (h : cases[i]? = some c) : Er cases cs (i + 1) = Er cases cs i ++ (if can cs c then [(i : Int)] else []) := by
 unfold Er
 rw [List.range_succ, List.filter_append, List.map_append]
 simp only [List.filter_cons, Po, h, List.filter_nil]
 split <;> simp_all
def els (cases : List po) : Option Nat := cases.findIdx? (fun c => c.way == 2)
def lu (g : Int) (gm : List Int) (i : Nat) (c : po) (cs : List aV) : List aV :=
 if c.way = 0 then cs.set c.ch.toNat { dg cs c.ch with dF := (dg cs c.ch).dF ++ [⟨g, i, 0⟩] }
 else if c.way = 1 then cs.set c.ch.toNat { dg cs c.ch with snd := (dg cs c.ch).snd ++ [⟨g, i, gm.getD c.bS.toNat 0⟩] } else cs
def eO (g : Int) (gm : List Int) (cases : List po) (cs : List aV) : Nat → List aV
 | 0 => cs
 | i + 1 => match cases[i]? with
  | some c => lu g gm i c (eO g gm cases cs i)
  | none => eO g gm cases cs i
theorem Gk (g : Int) (gm : List Int) (i : Nat) (c : po) (cs : List aV) : (lu g gm i c cs).length = cs.length := by
 unfold lu; split
 ·simp
 ·split <;> simp
theorem lV (g : Int) (gm : List Int) (cases : List po) (cs : List aV) : ∀ i, (eO g gm cases cs i).length = cs.length
 | 0 => rfl
 | i + 1 => by
  unfold eO; split
  ·rw [Gk, lV _ _ _ _ i]
  ·exact lV _ _ _ _ i
theorem mem_set {α : Type} {l : List α} {i : Nat} {x y : α} (h : y ∈ l.set i x) : y ∈ l ∨ y = x := by
 rcases List.mem_or_eq_of_mem_set h with h | h
 ·exact .inl h
 ·exact .inr h
theorem vY {cs : List aV} {k : Int} (h0 : 0 ≤ k) (h : k < cs.length) : dg cs k ∈ cs := by
 unfold dg; rw [List.getD_eq_getElem?_getD, List.getElem?_eq_getElem (by omega)]; exact List.getElem_mem _
theorem Cp {g : Int} {gm : List Int} {i : Nat} {c : po} {cs : List aV} {N : Nat} (hs : ∀ x ∈ cs, x.Small N) (hc : c.Ok cs.length) : ∀ x ∈ lu g gm i c cs, x.Small (N + 1) := by
 obtain ⟨_, _, kk⟩ := hc
 intro x hm
 unfold lu at hm
 split at hm
 ·rename_i hw
  have hx := hs _ (vY (kk (by omega)).1 (kk (by omega)).2.1)
  rcases mem_set hm with h | rfl
  ·exact (hs x h).mono (by omega)
  ·exact hx.wr _
 split at hm
 ·rename_i hw
  have hx := hs _ (vY (kk (by omega)).1 (kk (by omega)).2.1)
  rcases mem_set hm with h | rfl
  ·exact (hs x h).mono (by omega)
  ·exact hx.ws _
 ·exact (hs x hm).mono (by omega)
theorem oJ {g : Int} {gm : List Int} {cases : List po} {cs : List aV} {N : Nat} (hs : ∀ x ∈ cs, x.Small N) (hok : ∀ c ∈ cases, c.Ok cs.length) : ∀ i, ∀ x ∈ eO g gm cases cs i, x.Small (N + i)
 | 0 => hs
 | i + 1 => by
  unfold eO; split
  ·rename_i c hc
   exact Cp (oJ hs hok i) (by rw [lV]; exact hok c (List.mem_of_getElem? hc))
  ·exact fun x hx => (oJ hs hok i x hx).mono (by omega)
section
variable {R : Mem} {L L' : List HP} {M : Mem} {K : Value → Mem → Prop} {Kp : List PanicEntry → Mem → Prop} {bs : List Nat} {cs : List aV}
theorem qv : aY Tryz.prog 36 3 1 8 [.int .i64 0] := aY.mk' (zv := .int .i64 0) (by kernel_rfl) (by kernel_rfl) rfl (by omega)
theorem Pp {cases : List po} {i : Nat} {c : po} (hc : cases[i]? = some c) (hw : c.way = 2) (hp : ∀ j c, j < i → cases[j]? = some c → c.way ≠ 2) : els cases = some i := by
 obtain ⟨hi, e⟩ := List.getElem?_eq_some_iff.1 hc
 refine List.findIdx?_eq_some_iff_getElem.2 ⟨hi, by rw [e]; simpa using hw, fun j hj => ?_⟩
 have := hp j _ hj (List.getElem?_eq_getElem (by omega))
 simpa using this
theorem Pq {cases : List po} (hp : ∀ j c, j < cases.length → cases[j]? = some c → c.way ≠ 2) : els cases = none := by
 refine List.findIdx?_eq_none_iff.2 fun c hc => ?_
 obtain ⟨j, hj, e⟩ := List.getElem_of_mem hc
 have := hp j c hj (by rw [← e]; exact List.getElem?_eq_getElem hj)
 simpa using this
theorem I7 {B : Option Addr} {m cc : Nat} {cases : List po} (h : Hp R L M) (hB : Src R L B (iD.cells cases)) (hm : m = cases.length) (hb : cases.length ≤ 1000000000)
  (k : ∀ M', Hp R L M' → K (.tuple #[.int .i64 (match els cases with | some i => (i : Int) | none => 0), .bool (els cases).isSome]) M') :
  aa Tryz.prog 206 #[.slice B m cc] M K Kp := by
 subst hm
 refine Cn ⟨fun d ws M => ∃ i : Nat, ws = [.int .i64 (i : Int)] ∧ d = cases.length - i ∧ i ≤ cases.length ∧ (∀ j c, j < i → cases[j]? = some c → c.way ≠ 2) ∧ Hp R L M, ⟨_, 0, rfl, rfl, by omega, fun j c hj => by omega, h⟩, ?_⟩
 clear h
 rintro d _ ii M ⟨i, he, hd, hi, hp, h⟩
 simp only [List.cons.injEq, Value.int.injEq, and_true, true_and] at he
 subst he
 refine aJ.2 ⟨fun hlt => ?_, fun hge => ?_⟩
 ·obtain ⟨c, hc⟩ := aM (l := cases) (i := i) (by omega)
  obtain ⟨b, o, rfl⟩ := hB.gD h (by omega) (by decide)
  repeat (first|(refine ae h ?_;clear h;intro kb M h)|(refine au h ?_;clear h;intro M h)|refine St.to h ?_|(apply Exists.intro;(repeat apply Exists.intro);refine And.intro rfl ?_)|refine av ?_|refine ai ?_|refine aj ?_)
  simp only [Int.toNat_natCast]
  refine aR (hB.at h (i := i) (j := 0) hc rfl rfl) ?_
  refine aR (hB.at h (i := i) (j := 1) hc rfl rfl) ?_
  refine aR (hB.at h (i := i) (j := 2) hc rfl rfl) ?_
  repeat (first|(refine ae h ?_;clear h;intro kb M h)|(refine au h ?_;clear h;intro M h)|refine St.to h ?_|(apply Exists.intro;(repeat apply Exists.intro);refine And.intro rfl ?_)|refine av ?_|refine ai ?_|refine aj ?_)
  refine bh.2 ⟨fun e => ?_, fun e => ?_⟩
  ·have := Pp hc e hp
   rw [this] at k
   exact k _ h.oy
  ·rw [aQ (by omega)]
   refine ⟨cases.length - (i + 1), by omega, i + 1, rfl, rfl, by omega, fun j c' hj HZ => ?_, h.oy⟩
   rcases Nat.lt_or_ge j i with kC | kC
   ·exact hp j c' kC HZ
   ·obtain rfl : j = i := by omega
    rw [hc] at HZ; cases HZ; exact e
 ·obtain rfl : i = cases.length := by omega
  rw [Pq hp] at k
  exact k _ h
theorem MA {c : po} {B : Option Addr} {m cc : Nat} (h : Hp R L M) [o : gk bI L bs cs L'] (hB : Src R L' B (mU.cells bs)) (hm : m = bs.length) (hl : bs.length = cs.length) (hc : c.way ≠ 2 → 0 ≤ c.ch ∧ c.ch < cs.length) (I8 : 0 ≤ c.way ∧ c.way ≤ 2)
  (k : ∀ M', Hp R (bp bI bs cs :: L') M' → K (.bool (can cs c)) M') : aa Tryz.prog 234 #[.agg #[.int .i64 c.way, .int .i64 c.ch, .int .i64 c.bS], .slice B m cc] M K Kp := by
 subst hm
 replace h := h.oI bI
 obtain ⟨way, ch, bS⟩ := c
 dsimp only at *
 by_cases hwe : way = 2
 ·subst hwe
  refine vX ?_
  repeat (first|(refine ae h ?_;clear h;intro kb M h)|(refine au h ?_;clear h;intro M h)|refine St.to h ?_|(apply Exists.intro;(repeat apply Exists.intro);refine And.intro rfl ?_)|refine av ?_|refine ai ?_|refine aj ?_)
  exact k _ h.oy
 replace hc := hc hwe
 obtain ⟨q, rfl⟩ := Int.eq_ofNat_of_zero_le hc.1
 obtain ⟨x, hx⟩ := aM (l := cs) (i := q) (by omega)
 obtain ⟨b, hb⟩ := aM (l := bs) (i := q) (by omega)
 have hxx : dg cs (q : Int) = x := by simp [dg, hx]
 obtain ⟨b0, o0, rfl⟩ := hB.cons.gD h (by omega) (by decide)
 simp only [can, hxx] at k
 refine vX ?_
 repeat (first|(refine ae h ?_;clear h;intro kb M h)|(refine au h ?_;clear h;intro M h)|refine St.to h ?_|(apply Exists.intro;(repeat apply Exists.intro);refine And.intro rfl ?_)|refine av ?_|refine ai ?_|refine aj ?_)
 refine bh.2 ⟨fun e => ?_, fun e => ?_⟩
 ·rw [if_pos e] at k
  repeat (first|(refine ae h ?_;clear h;intro kb M h)|(refine au h ?_;clear h;intro M h)|refine St.to h ?_|(apply Exists.intro;(repeat apply Exists.intro);refine And.intro rfl ?_)|refine av ?_|refine ai ?_|refine aj ?_)
  refine gQ (hB.cons.cons.at h (i := q) (j := 0) hb rfl (by simp [mU])) ?_
  replace h := h.cK bI hb hx
  refine Cm h ?_
  repeat (first|(refine ae h ?_;clear h;intro kb M h)|(refine au h ?_;clear h;intro M h)|refine St.to h ?_|(apply Exists.intro;(repeat apply Exists.intro);refine And.intro rfl ?_)|refine av ?_|refine ai ?_|refine aj ?_)
  exact k _ (h.lH bI b hb hx).ck
 rw [if_neg e] at k
 refine bh.2 ⟨fun e => ?_, fun e => ?_⟩
 ·rw [if_pos e] at k
  repeat (first|(refine ae h ?_;clear h;intro kb M h)|(refine au h ?_;clear h;intro M h)|refine St.to h ?_|(apply Exists.intro;(repeat apply Exists.intro);refine And.intro rfl ?_)|refine av ?_|refine ai ?_|refine aj ?_)
  refine gQ (hB.cons.cons.at h (i := q) (j := 0) hb rfl (by simp [mU])) ?_
  replace h := h.cK bI hb hx
  refine Cl h ?_
  repeat (first|(refine ae h ?_;clear h;intro kb M h)|(refine au h ?_;clear h;intro M h)|refine St.to h ?_|(apply Exists.intro;(repeat apply Exists.intro);refine And.intro rfl ?_)|refine av ?_|refine ai ?_|refine aj ?_)
  exact k _ (h.lH bI b hb hx).ck
 ·rw [if_neg e] at k
  exact k _ h.oy
theorem Cq {B A : Option Addr} {m cc n ca : Nat} {cases : List po} (h : Hp R L M) [o : gk bI L bs cs L'] (hB : Src R L' B (iD.cells cases)) (hA : Src R L' A (mU.cells bs)) (hm : m = cases.length) (hn : n = bs.length)
  (hb : cases.length ≤ 1000000000) (hl : bs.length = cs.length) (hok : ∀ c ∈ cases, c.Ok cs.length)
  (k : ∀ A' c' M', Hp R (bE aZ 3 A' c' (enabled cases cs) :: bp bI bs cs :: L') M' → K (.slice A' (enabled cases cs).length c') M') :
  aa Tryz.prog 205 #[.slice B m cc, .slice A n ca] M K Kp := by
 subst hm
 replace h := h.oI bI
 refine xE ⟨fun d ws M => ∃ (i : Nat) (X : Option Addr) (cx : Nat), ws = [.slice X (Er cases cs i).length cx, .int .i64 (i : Int)] ∧ d = cases.length - i ∧ i ≤ cases.length ∧ Hp R (bE aZ 3 X cx (Er cases cs i) :: bp bI bs cs :: L') M, ⟨_, 0, none, 0, rfl, rfl, by omega, h.bP aZ _⟩, ?_⟩
 clear h
 rintro d _ X n1 cx ii M ⟨i, _, _, he, hd, hi, h⟩
 simp only [List.cons.injEq, Value.int.injEq, Value.slice.injEq, and_true, true_and] at he
 obtain ⟨⟨rfl, rfl, rfl⟩, rfl⟩ := he
 refine aJ.2 ⟨fun hlt => ?_, fun hge => ?_⟩
 ·obtain ⟨c, hc⟩ := aM (l := cases) (i := i) (by omega)
  obtain ⟨b, o, rfl⟩ := hB.cons.cons.gD h (by omega) (by decide)
  repeat (first|(refine ae h ?_;clear h;intro kb M h)|(refine au h ?_;clear h;intro M h)|refine St.to h ?_|(apply Exists.intro;(repeat apply Exists.intro);refine And.intro rfl ?_)|refine av ?_|refine ai ?_|refine aj ?_)
  simp only [Int.toNat_natCast]
  refine aR (hB.cons.cons.at h (i := i) (j := 0) hc rfl rfl) ?_
  refine aR (hB.cons.cons.at h (i := i) (j := 1) hc rfl rfl) ?_
  refine aR (hB.cons.cons.at h (i := i) (j := 2) hc rfl rfl) ?_
  repeat (first|(refine ae h ?_;clear h;intro kb M h)|(refine au h ?_;clear h;intro M h)|refine St.to h ?_|(apply Exists.intro;(repeat apply Exists.intro);refine And.intro rfl ?_)|refine av ?_|refine ai ?_|refine aj ?_)
  have hco := hok c (List.mem_of_getElem? hc)
  obtain ⟨w1, w2, k1⟩ := hco
  refine MA (c := c) h hA.cons.cons hn hl (fun e => ⟨(k1 e).1, (k1 e).2.1⟩) ⟨w1, w2⟩ ?_
  clear h
  intro M h
  repeat (first|(refine ae h ?_;clear h;intro kb M h)|(refine au h ?_;clear h;intro M h)|refine St.to h ?_|(apply Exists.intro;(repeat apply Exists.intro);refine And.intro rfl ?_)|refine av ?_|refine ai ?_|refine aj ?_)
  have hlen := Gj cases cs i
  refine g6.2 ⟨fun hb => ?_, fun hb => ?_⟩
  ·have e := Dk (cs := cs) hc
   rw [if_pos hb] at e
   repeat (first|(refine ae h ?_;clear h;intro kb M h)|(refine au h ?_;clear h;intro M h)|refine St.to h ?_|(apply Exists.intro;(repeat apply Exists.intro);refine And.intro rfl ?_)|refine av ?_|refine ai ?_|refine aj ?_)
   refine h.bL qv [(i : Int)] rfl rfl (by simp; omega) ?_
   clear h
   intro A' c' M h
   repeat (first|(refine ae h ?_;clear h;intro kb M h)|(refine au h ?_;clear h;intro M h)|refine St.to h ?_|(apply Exists.intro;(repeat apply Exists.intro);refine And.intro rfl ?_)|refine av ?_|refine ai ?_|refine aj ?_)
   rw [aQ (by omega)]
   rw [← e] at h
   refine ⟨cases.length - (i + 1), by omega, i + 1, A', c', ?_, rfl, by omega, h.ck⟩
   rw [e]
  ·have e := Dk (cs := cs) hc
   rw [if_neg (by simp [hb]), List.append_nil] at e
   rw [aQ (by omega)]
   refine ⟨cases.length - (i + 1), by omega, i + 1, X, cx, by rw [e], rfl, by omega, ?_⟩
   rw [e]; exact h.sub bu
 ·obtain rfl : i = cases.length := by omega
  exact k _ _ _ h
theorem Gl {g : Int} {A : Option Addr} {n ca : Nat} (h : Hp R L M) [o : gk bI L bs cs L'] (hA : Src R L' A (mU.cells bs)) (hn : n = bs.length) (hb : bs.length ≤ 1000000000) (hl : bs.length = cs.length) (hs : ∀ c ∈ cs, c.Small 1000000000)
  (k : ∀ M', Hp R (bp bI bs (cs.map (·.drop g)) :: L') M' → K (.tuple #[]) M') :
  aa Tryz.prog 252 #[.int .i64 g, .slice A n ca] M K Kp := by
 subst hn
 replace h := h.oI bI
 refine AG ⟨fun d ws M => ∃ (i : Nat), ws = [.int .i64 (i : Int)] ∧ d = bs.length - i ∧ i ≤ bs.length ∧ Hp R (bp bI bs ((cs.take i).map (·.drop g) ++ cs.drop i) :: L') M, ⟨_, 0, rfl, rfl, by omega, h⟩, ?_⟩
 clear h
 rintro d _ ii M ⟨i, he, hd, hi, h⟩
 simp only [List.cons.injEq, Value.int.injEq, and_true, true_and] at he
 subst he
 refine aJ.2 ⟨fun hlt => ?_, fun hge => ?_⟩
 ·obtain ⟨c, hc⟩ := aM (l := cs) (i := i) (by omega)
  obtain ⟨b, B4⟩ := aM (l := bs) (i := i) (by omega)
  obtain ⟨b0, o0, rfl⟩ := hA.cons.gD h (by omega) (by decide)
  have KX : ((cs.take i).map (·.drop g) ++ cs.drop i)[i]? = some c := by
   rw [List.getElem?_append_right (by simp; omega)]; simp [List.length_take, Nat.min_eq_left (show i ≤ cs.length by omega), hc]
  repeat (first|(refine ae h ?_;clear h;intro kb M h)|(refine au h ?_;clear h;intro M h)|refine St.to h ?_|(apply Exists.intro;(repeat apply Exists.intro);refine And.intro rfl ?_)|refine av ?_|refine ai ?_|refine aj ?_)
  refine gQ (hA.cons.at h (i := i) (j := 0) B4 rfl (by simp [mU])) ?_
  replace h := h.cK bI B4 KX
  refine IZ h (hs c (List.mem_of_getElem? hc)) ?_
  clear h
  intro M h
  repeat (first|(refine ae h ?_;clear h;intro kb M h)|(refine au h ?_;clear h;intro M h)|refine St.to h ?_|(apply Exists.intro;(repeat apply Exists.intro);refine And.intro rfl ?_)|refine av ?_|refine ai ?_|refine aj ?_)
  rw [aQ (by omega)]
  refine ⟨bs.length - (i + 1), by omega, i + 1, rfl, rfl, by omega, ?_⟩
  have := (h.eF bI b B4 (by simp; omega)).ck (T := L')
  rw [List.set_append_right _ _ (by simp; omega)] at this
  rw [bx hc, List.map_append, List.append_assoc]
  have e : (cs.drop i).set (i - ((cs.take i).map (·.drop g)).length) (c.drop g) = [c.drop g] ++ cs.drop (i + 1) := by
   rw [show i - ((cs.take i).map (·.drop g)).length = 0 from by simp; omega]
   obtain ⟨hi', e'⟩ := List.getElem?_eq_some_iff.1 hc
   rw [List.drop_eq_getElem_cons hi']; rfl
  rw [e] at this
  exact this
 ·obtain rfl : i = bs.length := by omega
  rw [hl, List.take_length, List.drop_length, List.append_nil] at h
  exact k _ h
theorem Ja {g : Int} {B A D : Option Addr} {m cc n ca r cr : Nat} {cases : List po} {gm : List Int} (h : Hp R L M) [o : gk bI L bs cs L'] (hB : Src R L' B (iD.cells cases)) (hA : Src R L' A (mU.cells bs)) (hD : Src R L' D (aZ.cells gm))
  (hm : m = cases.length) (hn : n = bs.length) (hr : r = 8) (hr8 : gm.length = 8) (hb : cases.length ≤ 1000000) (hl : bs.length = cs.length) (hok : ∀ c ∈ cases, c.Ok cs.length) (hs : ∀ c ∈ cs, c.Small 1000000)
  (k : ∀ M', Hp R (bp bI bs (eO g gm cases cs cases.length) :: L') M' → K (.tuple #[]) M') :
  aa Tryz.prog 207 #[.int .i64 g, .slice B m cc, .slice D r cr, .slice A n ca] M K Kp := by
 subst hm
 subst hn
 subst hr
 replace h := h.oI bI
 refine Co ⟨fun d ws M => ∃ (i : Nat), ws = [.int .i64 (i : Int)] ∧ d = cases.length - i ∧ i ≤ cases.length ∧ Hp R (bp bI bs (eO g gm cases cs i) :: L') M, ⟨_, 0, rfl, rfl, by omega, h⟩, ?_⟩
 clear h
 rintro d _ ii M ⟨i, he, hd, hi, h⟩
 simp only [List.cons.injEq, Value.int.injEq, and_true, true_and] at he
 subst he
 refine aJ.2 ⟨fun hlt => ?_, fun hge => ?_⟩
 ·obtain ⟨c, hc⟩ := aM (l := cases) (i := i) (by omega)
  obtain ⟨w1, w2, kk⟩ := hok c (List.mem_of_getElem? hc)
  obtain ⟨b, o, rfl⟩ := hB.cons.gD h (by omega) (by decide)
  by_cases hwe : c.way = 2
  ·have e : eO g gm cases cs (i + 1) = eO g gm cases cs i := by
    rw [eO, hc]; dsimp only; unfold lu; rw [if_neg (by omega), if_neg (by omega)]
   repeat (first|(refine ae h ?_;clear h;intro kb M h)|(refine au h ?_;clear h;intro M h)|refine St.to h ?_|(apply Exists.intro;(repeat apply Exists.intro);refine And.intro rfl ?_)|refine av ?_|refine ai ?_|refine aj ?_)
   simp only [Int.toNat_natCast]
   refine aR (hB.cons.at h (i := i) (j := 0) hc rfl rfl) ?_
   refine aR (hB.cons.at h (i := i) (j := 1) hc rfl rfl) ?_
   refine aR (hB.cons.at h (i := i) (j := 2) hc rfl rfl) ?_
   repeat (first|(refine ae h ?_;clear h;intro kb M h)|(refine au h ?_;clear h;intro M h)|refine St.to h ?_|(apply Exists.intro;(repeat apply Exists.intro);refine And.intro rfl ?_)|refine av ?_|refine ai ?_|refine aj ?_)
   refine bh.2 ⟨fun e => by omega, fun _ => ?_⟩
   refine bh.2 ⟨fun e => by omega, fun _ => ?_⟩
   rw [aQ (by omega)]
   refine ⟨cases.length - (i + 1), by omega, i + 1, rfl, rfl, by omega, ?_⟩
   rw [e]
   exact h.oy
  obtain ⟨k1, k2, k3, k4⟩ := kk hwe
  obtain ⟨b2, o2, rfl⟩ := hA.cons.gD h (by omega) (by decide)
  obtain ⟨b3, o3, rfl⟩ := hD.cons.gD h (by omega) (by decide)
  have hlen := lV g gm cases cs i
  have AH := oJ (g := g) (gm := gm) hs hok i
  have e : eO g gm cases cs (i + 1) = lu g gm i c (eO g gm cases cs i) := by rw [eO, hc]
  generalize hw : eO g gm cases cs i = ws at h hlen AH e
  obtain ⟨way, ch, bS⟩ := c
  dsimp only at k1 k2 k3 k4
  obtain ⟨q, rfl⟩ := Int.eq_ofNat_of_zero_le k1
  obtain ⟨q2, rfl⟩ := Int.eq_ofNat_of_zero_le k3
  obtain ⟨b1, B4⟩ := aM (l := bs) (i := q) (by omega)
  obtain ⟨x, hx⟩ := aM (l := ws) (i := q) (by omega)
  obtain ⟨v, hv⟩ := aM (l := gm) (i := q2) (by omega)
  have hxx : dg ws (q : Int) = x := by simp [dg, hx]
  have hvv : gm.getD q2 0 = v := by simp [hv]
  have hxs := AH x (List.mem_of_getElem? hx)
  simp only [lu, hxx, Int.toNat_natCast, hvv] at e
  repeat (first|(refine ae h ?_;clear h;intro kb M h)|(refine au h ?_;clear h;intro M h)|refine St.to h ?_|(apply Exists.intro;(repeat apply Exists.intro);refine And.intro rfl ?_)|refine av ?_|refine ai ?_|refine aj ?_)
  simp only [Int.toNat_natCast]
  refine aR (hB.cons.at h (i := i) (j := 0) hc rfl rfl) ?_
  refine aR (hB.cons.at h (i := i) (j := 1) hc rfl rfl) ?_
  refine aR (hB.cons.at h (i := i) (j := 2) hc rfl rfl) ?_
  dsimp only
  repeat (first|(refine ae h ?_;clear h;intro kb M h)|(refine au h ?_;clear h;intro M h)|refine St.to h ?_|(apply Exists.intro;(repeat apply Exists.intro);refine And.intro rfl ?_)|refine av ?_|refine ai ?_|refine aj ?_)
  refine bh.2 ⟨fun hw => ?_, fun hw => ?_⟩
  ·rw [if_pos hw] at e
   repeat (first|(refine ae h ?_;clear h;intro kb M h)|(refine au h ?_;clear h;intro M h)|refine St.to h ?_|(apply Exists.intro;(repeat apply Exists.intro);refine And.intro rfl ?_)|refine av ?_|refine ai ?_|refine aj ?_)
   refine gQ (hA.cons.cons.at h (i := q) (j := 0) B4 rfl (by simp [mU])) ?_
   have N5 := B4
   replace h := h.pick (.there .here)
   replace h := h.cK bI B4 hx
   refine qu (w := ⟨g, i, 0⟩) h (hxs.mono (by omega)) ?_
   clear h
   intro M h
   repeat (first|(refine ae h ?_;clear h;intro kb M h)|(refine au h ?_;clear h;intro M h)|refine St.to h ?_|(apply Exists.intro;(repeat apply Exists.intro);refine And.intro rfl ?_)|refine av ?_|refine ai ?_|refine aj ?_)
   rw [aQ (by omega)]
   refine ⟨cases.length - (i + 1), by omega, i + 1, rfl, rfl, by omega, ?_⟩
   rw [e]
   exact (h.eF bI b1 B4 (by omega)).ck
  rw [if_neg hw] at e
  refine bh.2 ⟨fun hw => ?_, fun hw => ?_⟩
  ·rw [if_pos hw] at e
   repeat (first|(refine ae h ?_;clear h;intro kb M h)|(refine au h ?_;clear h;intro M h)|refine St.to h ?_|(apply Exists.intro;(repeat apply Exists.intro);refine And.intro rfl ?_)|refine av ?_|refine ai ?_|refine aj ?_)
   refine gQ (hA.cons.cons.at h (i := q) (j := 0) B4 rfl (by simp [mU])) ?_
   repeat (first|(refine ae h ?_;clear h;intro kb M h)|(refine au h ?_;clear h;intro M h)|refine St.to h ?_|(apply Exists.intro;(repeat apply Exists.intro);refine And.intro rfl ?_)|refine av ?_|refine ai ?_|refine aj ?_)
   refine aR (hD.cons.cons.at h (i := q2) (j := 0) hv rfl (by simp [aZ])) ?_
   replace h := h.pick (.there .here)
   replace h := h.cK bI B4 hx
   refine qt (w := ⟨g, i, v⟩) h (hxs.mono (by omega)) ?_
   clear h
   intro M h
   repeat (first|(refine ae h ?_;clear h;intro kb M h)|(refine au h ?_;clear h;intro M h)|refine St.to h ?_|(apply Exists.intro;(repeat apply Exists.intro);refine And.intro rfl ?_)|refine av ?_|refine ai ?_|refine aj ?_)
   rw [aQ (by omega)]
   refine ⟨cases.length - (i + 1), by omega, i + 1, rfl, rfl, by omega, ?_⟩
   rw [e]
   exact (h.eF bI b1 B4 (by omega)).ck
  ·rw [if_neg hw] at e
   rw [aQ (by omega)]
   refine ⟨cases.length - (i + 1), by omega, i + 1, rfl, rfl, by omega, ?_⟩
   rw [e]
   exact h.oy
 ·obtain rfl : i = cases.length := by omega
  exact k _ h
end
end Go.Proofs
namespace Go.Proofs
open Go.AF
structure cQ where
 op : Int
 a : Int
 b : Int
 c : Int
 deriving DecidableEq
def cQ.zero : cQ := ⟨0, 0, 0, 0⟩
def jI : fO cQ := ⟨4, fun x => [.int .i64 x.op, .int .i64 x.a, .int .i64 x.b, .int .i64 x.c], fun _ => rfl, fun w v hv => by
 simp only [List.mem_cons, List.not_mem_nil, or_false] at hv; obtain rfl | rfl | rfl | rfl := hv <;> rfl⟩
structure gH where
 fn : Int
 pc : Int
 r : List Int
 pF : Int
 deriving DecidableEq
def gH.bS (f : gH) (q : Int) : Int := f.r.getD q.toNat 0
def gH.set (f : gH) (q v : Int) : gH := { f with r := (List.range 8).map fun i => if i = q.toNat then v else f.r.getD i 0 }
def gH.next (f : gH) : gH := { f with pc := f.pc + 1 }
def gH.begin (fn v : Int) : gH := ⟨fn, 0, [v, 0, 0, 0, 0, 0, 0, 0], 0⟩
def Pr (f : gH) : List Value := [.int .i64 f.fn, .int .i64 f.pc, .int .i64 (f.r.getD 0 0), .int .i64 (f.r.getD 1 0), .int .i64 (f.r.getD 2 0), .int .i64 (f.r.getD 3 0), .int .i64 (f.r.getD 4 0), .int .i64 (f.r.getD 5 0), .int .i64 (f.r.getD 6 0), .int .i64 (f.r.getD 7 0), .int .i64 f.pF]
def fF : fO gH := ⟨11, Pr, fun _ => rfl, fun w v hv => by
 simp only [Pr, List.mem_cons, List.not_mem_nil, or_false] at hv
 obtain rfl | rfl | rfl | rfl | rfl | rfl | rfl | rfl | rfl | rfl | rfl := hv <;> rfl⟩
theorem reg8 {q : Int} (h0 : 0 ≤ q) (h8 : q < 8) : q = 0 ∨ q = 1 ∨ q = 2 ∨ q = 3 ∨ q = 4 ∨ q = 5 ∨ q = 6 ∨ q = 7 := by omega
theorem Wb {f : gH} {q : Int} (h0 : 0 ≤ q) (h8 : q < 8) : (fF.f f)[2 + q.toNat]? = some (.int .i64 (f.bS q)) := by
 obtain rfl | rfl | rfl | rfl | rfl | rfl | rfl | rfl := reg8 h0 h8 <;> rfl
theorem SF {f : gH} {q v : Int} (h0 : 0 ≤ q) (h8 : q < 8) : (fF.f f).set (2 + q.toNat) (.int .i64 v) = fF.f (f.set q v) := by
 obtain rfl | rfl | rfl | rfl | rfl | rfl | rfl | rfl := reg8 h0 h8 <;> rfl
theorem Wc {f : gH} {v : Int} : (fF.f f).set 1 (.int .i64 v) = fF.f { f with pc := v } := rfl
def gH.pure (f : gH) (x : cQ) : gH :=
 if x.op = 0 then f
 else if x.op = 1 then f.set x.a x.b
 else if x.op = 2 then f.set x.a (f.bS x.b)
 else if x.op = 3 then f.set x.a (IntKind.wrap .i64 (f.bS x.b + f.bS x.c))
 else if x.op = 4 then f.set x.a (IntKind.wrap .i64 (f.bS x.b - f.bS x.c))
 else if x.op = 5 then f.set x.a (IntKind.wrap .i64 (f.bS x.b * f.bS x.c))
 else if x.op = 6 then f.set x.a (if f.bS x.b < f.bS x.c then 1 else 0)
 else if x.op = 7 then { f with pc := x.a }
 else if f.bS x.a ≠ 0 then { f with pc := x.b } else f
def bj (q : Int) : Prop := 0 ≤ q ∧ q < 8
instance (q : Int) : Decidable (bj q) := by unfold bj; infer_instance
def cQ.cN (x : cQ) : Prop :=
 (x.op ∈ [1, 8] → bj x.a) ∧ (x.op = 2 → bj x.a ∧ bj x.b) ∧ (x.op ∈ [3, 4, 5, 6] → bj x.a ∧ bj x.b ∧ bj x.c)
instance (x : cQ) : Decidable x.cN := by unfold cQ.cN; infer_instance
structure jt where
 st : Int
 fs : List gH
 wt : cQ
 deriving DecidableEq
structure Lk where
 owner : Int
 waits : List Int
 deriving DecidableEq
structure bA where
 t : Int
 seq : Int
 id : Int
 deriving DecidableEq
def kU : fO bA := ⟨3, fun x => [.int .u64 x.t, .int .u64 x.seq, .int .i64 x.id], fun _ => rfl, fun w v hv => by
 simp only [List.mem_cons, List.not_mem_nil, or_false] at hv; obtain rfl | rfl | rfl := hv <;> rfl⟩
structure cv where
 funcs : List (List cQ)
 dS : List Int
 aI : Int
 cases : List po
structure Wd where
 gs : List jt
 clock : Int
 aB : List aV
 aI : List Lk
 hl : List bA
 lz : Int
 out : List Int
 end_ : Int
 code : Int
 ready : List Int
 deriving DecidableEq
def aq (x : Wd) (g : Int) : jt := x.gs.getD g.toNat ⟨0, [], .zero⟩
def Wd.bG (x : Wd) (g : Int) (y : jt) : Wd := { x with gs := x.gs.set g.toNat y }
def jt.top (y : jt) : gH := y.fs.getD (y.fs.length - 1) ⟨0, 0, [], 0⟩
def jt.cW (y : jt) (f : gH) : jt := { y with fs := y.fs.set (y.fs.length - 1) f }
def Wd.bB (x : Wd) (g q v : Int) : Wd := x.bG g ((aq x g).cW ((aq x g).top.set q v))
def Wd.fL (x : Wd) (g : Int) : Wd := { x.bG g { aq x g with st := 1 } with ready := x.ready ++ [g] }
def Wd.block (x : Wd) (g : Int) (i : cQ) : Wd := x.bG g { aq x g with st := 2, wt := i }
def Wd.leave (x : Wd) (g : Int) : Wd := { x with aB := x.aB.map fun c => c.drop g }
def Wd.gR (x : Wd) (g k : Int) : Wd := (x.bB g (aq x g).wt.c k).leave g
def qw (p : cv) (k : Int) : po := p.cases.getD k.toNat ⟨0, 0, 0⟩
def Wd.received (p : cv) (x : Wd) (v : Wt) (some : Int) : Wd :=
 let i := (aq x v.g).wt
 (if i.op = 16 then ((x.bB v.g (qw p (i.a + v.cs)).bS v.v).gR v.g v.cs)
  else (x.bB v.g i.b v.v).bB v.g i.c some).fL v.g
def Wd.sent (x : Wd) (v : Wt) : Wd := (if (aq x v.g).wt.op = 16 then x.gR v.g v.cs else x).fL v.g
inductive Out (α : Type) where
 | on (a : α)
 | fM (code : Int) (x : Wd)
 | dY (l : List PanicEntry) (x : Wd)
def Wd.cE (x : Wd) (k : Int) (c : aV) : Wd := { x with aB := x.aB.set k.toNat c }
def Wd.put (p : cv) (x : Wd) (k v : Int) : Out (Wd × Bool) :=
 let s := (dg x.aB k).send v
 if s.2.2.2 = 10 then .fM (-1) (x.cE k s.1)
 else .on ((if s.2.2.1 then (x.cE k s.1).received p s.2.1 1 else x.cE k s.1), s.2.2.2 == 0)
def Wd.get (x : Wd) (k : Int) : Wd × Int × Int × Bool :=
 let s := (dg x.aB k).recv
 let y := if s.2.2.2.2.1 then (x.cE k s.1).sent s.2.2.2.1 else x.cE k s.1
 if s.2.2.1 then (y, s.2.1, 1, true) else (y, 0, 0, s.2.2.2.2.2 == 0)
def br (x : Wd) (g : Int) : Prop := 0 ≤ g ∧ g < x.gs.length ∧ 0 < (aq x g).fs.length ∧ (aq x g).fs.length ≤ 1000
instance (x : Wd) (g : Int) : Decidable (br x g) := by unfold br; infer_instance
def qx (p : cv) (x : Wd) (v : Wt) : Prop := br x v.g ∧
 if (aq x v.g).wt.op = 16 then 0 ≤ (aq x v.g).wt.a + v.cs ∧ (aq x v.g).wt.a + v.cs < p.cases.length ∧ p.cases.length ≤ 1000 ∧ bj (qw p ((aq x v.g).wt.a + v.cs)).bS ∧ bj (aq x v.g).wt.c
 else bj (aq x v.g).wt.b ∧ bj (aq x v.g).wt.c
instance (p : cv) (x : Wd) (v : Wt) : Decidable (qx p x v) := by unfold qx; infer_instance
def yK (x : Wd) (v : Wt) : Prop := br x v.g ∧ ((aq x v.g).wt.op = 16 → bj (aq x v.g).wt.c)
instance (x : Wd) (v : Wt) : Decidable (yK x v) := by unfold yK; infer_instance
def Wd.Sm (x : Wd) : Prop := (∀ c ∈ x.aB, c.Small 1000000) ∧ x.aB.length ≤ 1000 ∧ x.gs.length ≤ 1000 ∧ x.ready.length ≤ 1000000 ∧ x.out.length ≤ 1000000 ∧ (∀ l ∈ x.aI, l.waits.length ≤ 1000000) ∧ x.aI.length ≤ 1000 ∧ x.hl.length ≤ 1000000
instance (x : Wd) : Decidable x.Sm := by unfold Wd.Sm; infer_instance
theorem g9 {x : Wd} {g : Int} {y : jt} (h0 : 0 ≤ g) (hg : g < x.gs.length) : aq (x.bG g y) g = y := by
 have : g.toNat < x.gs.length := by omega
 simp [aq, Wd.bG, this]
end Go.Proofs
namespace Go.Proofs
open Go.AF
set_option maxRecDepth 100000
variable {M : Mem} {K : Value → Mem → Prop} {Kp : List PanicEntry → Mem → Prop}
theorem qy {b0 o0 : Nat} {x1 : Int} (h :
aS (decide ((x1 : Int) < 0))
 (K (.slice none 0 0) M)
 (rS M b0 (o0 + 4) fun A1 k2 k3 =>
 aS (decide ((x1 : Int) ≥ k2))
 (K (.slice none 0 0) M)
 (rS M b0 (o0 + 4) fun A4 k5 k6 =>
 ((0 : Int) ≤ x1) ∧
 ((x1 : Int) < k5) ∧
 aE A4 fun k7 k8 =>
 rP M k7 (k8 + (Int.toNat x1)) fun A9 =>
 aE A9 fun c6 dQ =>
 rS M c6 (dQ + 1) fun nx de eH =>
 aa Tryz.prog 163 #[(.slice nx de eH)] M (fun ur dZ =>
 az (some ur) fun Ce dJ iw =>
 K (.slice Ce dJ iw) dZ) Kp))) :
 aa Tryz.prog 132 #[.pointer (some ⟨b0, o0, none⟩), .int .i64 x1] M K Kp := vw [] Tryz.func132 h
theorem uz {B0 : Option Addr} {m0 c0 : Nat} (h :
aS ((m0 : Int) == 0)
 (K (.pointer none) M)
 (((0 : Int) ≤ (IntKind.wrap .i64 ((m0 : Int) - 1))) ∧
 (((IntKind.wrap .i64 ((m0 : Int) - 1)) : Int) < (m0 : Int)) ∧
 aE B0 fun k1 k2 =>
 K (.pointer (some ⟨k1, (k2 + ((Int.toNat (IntKind.wrap .i64 ((m0 : Int) - 1))) * 11)), none⟩)) M)) :
 aa Tryz.prog 189 #[.slice B0 m0 c0] M K Kp := vw [] Tryz.func189 h
theorem sI {b0 o0 : Nat} {x1 : Int} (h :
aX M Ax fun k1 M2 =>
aS (decide ((x1 : Int) < 0))
 (sT M2 k1 0 (.slice none 0 0) fun M3 =>
 sT M3 k1 1 (.slice none 0 0) fun M4 =>
 sT M4 k1 2 (.slice none 0 0) fun M5 =>
 sT M5 k1 3 (.bool false) fun M6 =>
 KO M6 k1 0 fun A7 k8 k9 yG dQ gx Fp eH hU t16 =>
 K (.agg #[(.slice A7 k8 k9), (.slice yG dQ gx), (.slice Fp eH hU), (.bool t16)]) M6)
 (rS M2 b0 (o0 + 6) fun Ce dJ iw =>
 aS (decide ((x1 : Int) ≥ dJ))
 (sT M2 k1 0 (.slice none 0 0) fun mb =>
 sT mb k1 1 (.slice none 0 0) fun jC =>
 sT jC k1 2 (.slice none 0 0) fun dn =>
 sT dn k1 3 (.bool false) fun gB =>
 KO gB k1 0 fun ze nZ jW RJ kF mo zO mu sF t33 =>
 K (.agg #[(.slice ze nZ jW), (.slice RJ kF mo), (.slice zO mu sF), (.bool t33)]) gB)
 (rS M2 b0 (o0 + 6) fun A34 zg Mz =>
 ((0 : Int) ≤ x1) ∧
 ((x1 : Int) < zg) ∧
 aE A34 fun uA ia =>
 rP M2 uA (ia + (Int.toNat x1)) fun Pf =>
 aa Tryz.prog 137 #[(.pointer Pf)] M2 (fun Es uB =>
 ∃ Ep : Option Addr, ∃ qq zh : Nat, ∃ UT : Option Addr, ∃ Ch KU : Nat, ∃ N7 : Option Addr, ∃ Fs zi : Nat, ∃ t51 : Bool, (Es = (.agg #[(.slice Ep qq zh), (.slice UT Ch KU), (.slice N7 Fs zi), (.bool t51)])) ∧
 kI uB k1 (.slice Ep qq zh) (.slice UT Ch KU) (.slice N7 Fs zi) (.bool t51) fun r7 =>
 KO r7 k1 0 fun Ps xF Gg We N8 RK A62 N9 k64 t65 =>
 K (.agg #[(.slice Ps xF Gg), (.slice We N8 RK), (.slice A62 N9 k64), (.bool t65)]) r7) Kp))) :
 aa Tryz.prog 89 #[.pointer (some ⟨b0, o0, none⟩), .int .i64 x1] M K Kp := vw [] Tryz.func89 h
theorem pG {b0 o0 : Nat} {x1 : Int} (h :
aS (decide ((x1 : Int) < 0))
 (K (.int .i64 0) M)
 (az (Mem.ld M ⟨b0, (o0 + 4), none⟩) fun A1 k2 k3 =>
 aS (decide ((x1 : Int) ≥ ((k2 : Nat) : Int)))
  (K (.int .i64 0) M)
  (az (Mem.ld M ⟨b0, (o0 + 4), none⟩) fun A4 k5 k6 =>
  ((0 : Int) ≤ x1) ∧
  ((x1 : Int) < ((k5 : Nat) : Int)) ∧
  aE A4 fun k7 k8 =>
  cw (Mem.ld M ⟨k7, (k8 + (Int.toNat x1)), none⟩) fun A9 =>
  aE A9 fun c6 dQ =>
  aK (Mem.ld M ⟨c6, dQ, none⟩) .i64 fun ik =>
  K (.int .i64 ik) M))) :
 aa Tryz.prog 119 ([.pointer (some ⟨b0, o0, none⟩), .int .i64 x1] : List Value).toArray M K Kp :=
 bY (C := Cx) good [] Tryz.func119 (by kernel_rfl) (by kernel_rfl) h
theorem uC {b0 o0 : Nat} (h :
rS M b0 (o0 + 4) fun A1 k2 k3 =>
K (iV (k2 : Int)) M) :
 aa Tryz.prog 73 #[.pointer (some ⟨b0, o0, none⟩)] M K Kp := vw [] Tryz.func73 h
theorem uD {b0 o0 : Nat} (h :
rI M b0 (o0 + 11) fun n1 =>
rI M b0 (o0 + 12) fun n2 =>
K (.tuple #[(iV n1), (iV n2)]) M) :
 aa Tryz.prog 28 #[.pointer (some ⟨b0, o0, none⟩)] M K Kp := vw [(1, .bS [0, 1, 3, 7, 0, 16, 48, 112, 15, 511] (sy [0, 1, 2, 4, 5, 6, 3, 8, 7, 9] .done))] Tryz.func28 h
theorem sJ {b0 o0 : Nat} (h :
aK (Mem.ld M ⟨b0, (o0 + 11), none⟩) .i64 fun n1 =>
aS (n1 != 0)
 (K (.slice none 0 0) M)
 (aK (Mem.ld M ⟨b0, (o0 + 5), none⟩) .u64 fun n2 =>
 aP M ⟨b0, (o0 + 5), none⟩ (.int .u64 (IntKind.wrap .u64 (n2 + 1))) fun M3 =>
 aP M3 ⟨b0, (o0 + 13), none⟩ (.slice none 0 0) fun M4 =>
 aK (Mem.ld M4 ⟨b0, (o0 + 5), none⟩) .u64 fun n5 =>
 aa Tryz.prog 157 #[(.pointer (some ⟨b0, (o0 + 8), none⟩)), (.int .u64 n5)] M4 (fun v6 M7 =>
 az (some v6) fun A8 k9 c6 =>
 ∃ UU : Nat → List Value → Mem → Prop, (∃ gx : Nat, UU gx [(.int .i64 0)] M7) ∧
 ∀ de : Nat, ∀ junk14 : Nat → Value, ∀ iA : Int, ∀ dZ : Mem, (UU de [(.int .i64 iA)] dZ) → aS (decide ((iA : Int) < ((k9 : Nat) : Int)))
  (((0 : Int) ≤ iA) ∧
  ((iA : Int) < ((k9 : Nat) : Int)) ∧
  aE A8 fun ei dJ =>
  aK (Mem.ld dZ ⟨ei, (dJ + ((Int.toNat iA) * 3)), none⟩) .u64 fun rY =>
  aK (Mem.ld dZ ⟨ei, ((dJ + ((Int.toNat iA) * 3)) + 1), none⟩) .u64 fun fB =>
  aK (Mem.ld dZ ⟨ei, ((dJ + ((Int.toNat iA) * 3)) + 2), none⟩) .i64 fun kD =>
  aX dZ (.cells #[(.int .u64 0), (.int .u64 0), (.int .i64 0)] 203 (0, 0)) fun gF gB =>
  aP gB ⟨gF, 0, none⟩ (.int .u64 rY) fun kL =>
  aP kL ⟨gF, (0 + 1), none⟩ (.int .u64 fB) fun Fq =>
  aP Fq ⟨gF, (0 + 2), none⟩ (.int .i64 kD) fun vr =>
  aK (Mem.ld vr ⟨gF, (0 + 2), none⟩) .i64 fun w7 =>
  aa Tryz.prog 158 #[(.pointer (some ⟨b0, o0, none⟩)), (.int .i64 w7)] vr (fun Pn mE =>
  (Pn = (.tuple #[])) ∧
  ∃ mq : Nat, (mq < de) ∧
  UU mq [(.int .i64 (IntKind.wrap .i64 (iA + 1)))] mE) Kp)
  (az (Mem.ld dZ ⟨b0, (o0 + 13), none⟩) fun Ms sF pB =>
  K (.slice Ms sF pB) dZ)) Kp)) :
 aa Tryz.prog 120 ([.pointer (some ⟨b0, o0, none⟩)] : List Value).toArray M K Kp :=
 bY (C := Cx) good [(5, .bS [0, 1, 3, 0, 8, 24, 56, 127, 255, 0] (.step 0 (.step 1 (.step 2 (.step 3 (.step 4 (.step 5 (.step 9 (.step 6 (.step 7 (.step 8 .done))))))))))), (2000000, .loop [(29, .c (.int .i64))])] Tryz.func120 (by kernel_rfl) (by kernel_rfl) h
theorem uE {b0 o0 : Nat} (h :
aX M (cl [] 2) fun k1 M2 =>
rS M2 b0 (o0 + 10) fun A3 k4 k5 =>
aA 53 (some ⟨k1, 0, none⟩) 0 0 A3 k4 k5 M2 (fun v6 M7 =>
az (some v6) fun A8 k9 c6 =>
K (.slice A8 k9 c6) M7) Kp) :
 aa Tryz.prog 23 #[.pointer (some ⟨b0, o0, none⟩)] M K Kp := vw [] Tryz.func23 h
theorem nB {b0 o0 : Nat} (h :
aa Tryz.prog 63 #[(.pointer (some ⟨b0, (o0 + 8), none⟩))] M (fun v1 M2 =>
az (some v1) fun A3 k4 k5 =>
K (.slice A3 k4 k5) M2) Kp) :
 aa Tryz.prog 19 #[.pointer (some ⟨b0, o0, none⟩)] M K Kp := vw [] Tryz.func19 h
theorem AI {x0 : Int} {x1 : Int} (h :
aX M (cl [(iV x0), (iV 0), (iV x1), (iV 0), (iV 0), (iV 0), (iV 0), (iV 0), (iV 0), (iV 0), (iV 0)] 275) fun k1 M2 =>
K (.slice (some ⟨k1, 0, none⟩) 1 1) M2) :
 aa Tryz.prog 112 #[.int .i64 x0, .int .i64 x1] M K Kp := vw [] Tryz.func112 h
theorem Et  (h :
aX M (cl [(iV (-1)), (.slice none 0 0)] 307) fun k1 M2 =>
K (.pointer (some ⟨k1, 0, none⟩)) M2) :
 aa Tryz.prog 114 #[] M K Kp := vw [] Tryz.func114 h
theorem qz {B0 : Option Addr} {m0 c0 : Nat} (h :
aA 226 none 0 0 B0 m0 c0 M (fun v1 M2 =>
az (some v1) fun A3 k4 k5 =>
K (.slice A3 k4 k5) M2) Kp) :
 aa Tryz.prog 163 #[.slice B0 m0 c0] M K Kp := vw [] Tryz.func163 h
theorem vZ {b0 o0 : Nat} {x1 : Int} (h :
∃ I1 : Nat → List Value → Mem → Prop, (∃ k2 : Nat, I1 k2 [(.slice none 0 0)] M) ∧
∀ k3 : Nat, ∀ UW : Nat → Value, ∀ A5 : Option Addr, ∀ k6 : Nat, ∀ k7 : Nat, ∀ M8 : Mem, (I1 k3 [(.slice A5 k6 k7)] M8) → az (Mem.ld M8 ⟨b0, o0, none⟩) fun A9 c6 dQ =>
aS (decide ((((c6 : Nat) : Int) : Int) > 0))
 (az (Mem.ld M8 ⟨b0, o0, none⟩) fun nx de eH =>
 ((0 : Int) ≤ 0) ∧
 ((0 : Int) < ((de : Nat) : Int)) ∧
 aE nx fun hU eN =>
 aK (Mem.ld M8 ⟨hU, (eN + 0), none⟩) .u64 fun iB =>
 aS (decide ((iB : Int) ≤ x1))
  (aa Tryz.prog 117 #[(.pointer (some ⟨b0, o0, none⟩)), (.int .i64 0)] M8 (fun Ci jx =>
  ∃ fB : Int, ∃ kD : Int, ∃ oE : Int, (Ci = (.agg #[(.int .u64 fB), (.int .u64 kD), (.int .i64 oE)])) ∧
  aX jx (.cells #[(.int .u64 fB), (.int .u64 kD), (.int .i64 oE)] 203 (0, 0)) fun iT kL =>
  be Tryz.prog (Go.Builtin.append_ #[46, 46] 46 #[(.slice A5 k6 k7), (.slice (some ⟨iT, 0, none⟩) 1 1)]) kL (fun MB vr =>
  az (some MB) fun RJ kF mo =>
  ∃ mq : Nat, (mq < k3) ∧
  I1 mq [(.slice RJ kF mo)] vr) Kp) Kp)
  (K (.slice A5 k6 k7) M8))
 (K (.slice A5 k6 k7) M8)) :
 aa Tryz.prog 157 ([.pointer (some ⟨b0, o0, none⟩), .int .u64 x1] : List Value).toArray M K Kp :=
 bY (C := Cx) good [(2000000, .loop [(5, .c .sl)])] Tryz.func157 (by kernel_rfl) (by kernel_rfl) h
theorem sK {b0 o0 : Nat} {x1 : Int} (h :
rS M b0 (o0 + 4) fun A1 k2 k3 =>
((0 : Int) ≤ x1) ∧
((x1 : Int) < k2) ∧
aE A1 fun k4 k5 =>
rP M k4 (k5 + (Int.toNat x1)) fun A6 =>
aE A6 fun k7 k8 =>
sT M k7 k8 (iV 1) fun M9 =>
rS M9 b0 (o0 + 13) fun yG dQ gx =>
aX M9 (cl [(iV x1)] 3) fun de jO =>
aA 36 yG dQ gx (some ⟨de, 0, none⟩) 1 1 jO (fun ur dZ =>
az (some ur) fun Ce dJ iw =>
sT dZ b0 (o0 + 13) (.slice Ce dJ iw) fun mb =>
K (.tuple #[]) mb) Kp) :
 aa Tryz.prog 158 #[.pointer (some ⟨b0, o0, none⟩), .int .i64 x1] M K Kp := vw [] Tryz.func158 h
theorem wc {b0 o0 : Nat} (h :
aX M (.cells #[] 203 (0, 0)) fun k1 M2 =>
az (Mem.ld M2 ⟨b0, o0, none⟩) fun A3 k4 k5 =>
be Tryz.prog (Go.Builtin.append_ #[46, 46] 46 #[(.slice (some ⟨k1, 0, none⟩) 0 0), (.slice A3 k4 k5)]) M2 (fun v6 M7 =>
az (some v6) fun A8 k9 c6 =>
aX M7 (.cells #[(.slice none 0 0), (.int .u64 0)] 159 (0, 0)) fun dQ jP =>
aP jP ⟨dQ, 0, none⟩ (.slice A8 k9 c6) fun jy =>
aP jy ⟨dQ, (0 + 1), none⟩ (.int .u64 0) fun jO =>
∃ I15 : Nat → List Value → Mem → Prop, (∃ eN : Nat, I15 eN [(.slice none 0 0)] jO) ∧
∀ ei : Nat, ∀ junk18 : Nat → Value, ∀ yH : Option Addr, ∀ g7 : Nat, ∀ fK : Nat, ∀ dn : Mem, (I15 ei [(.slice yH g7 fK)] dn) → az (Mem.ld dn ⟨dQ, 0, none⟩) fun Mt lq nZ =>
aS (decide ((((lq : Nat) : Int) : Int) > 0))
 (aa Tryz.prog 117 #[(.pointer (some ⟨dQ, 0, none⟩)), (.int .i64 0)] dn (fun v26 w6 =>
 ∃ ux : Int, ∃ vW : Int, ∃ Dl : Int, (v26 = (.agg #[(.int .u64 ux), (.int .u64 vW), (.int .i64 Dl)])) ∧
 aX w6 (.cells #[(.int .u64 ux), (.int .u64 vW), (.int .i64 Dl)] 203 (0, 0)) fun mu oF =>
 be Tryz.prog (Go.Builtin.append_ #[46, 46] 46 #[(.slice yH g7 fK), (.slice (some ⟨mu, 0, none⟩) 1 1)]) oF (fun v33 pE =>
 az (some v33) fun A35 Mz uA =>
 ∃ ia : Nat, (ia < ei) ∧
 I15 ia [(.slice A35 Mz uA)] pE) Kp) Kp)
 (K (.slice yH g7 fK) dn)) Kp) :
 aa Tryz.prog 63 ([.pointer (some ⟨b0, o0, none⟩)] : List Value).toArray M K Kp :=
 bY (C := Cx) good [(2000000, .loop [(4, .c .sl)])] Tryz.func63 (by kernel_rfl) (by kernel_rfl) h
theorem sL {b0 o0 : Nat} {cT : Int} {cU : Int} {cV : Int} {eR : Int} (h :
aX M (cl [(iV cT), (iV cU), (iV cV), (iV eR)] 27) fun k1 M2 =>
rI M2 k1 0 fun n3 =>
aa Tryz.prog 203 #[] M2 (fun v4 M5 =>
eI M5 k1 0 n3 ∧
be Tryz.prog (Go.Instr.lookup 361 v4 (iV n3) true) M5 (fun v6 M7 =>
∃ v8 : Value, ∃ t9 : Bool, (v6 = (.tuple #[v8, (.bool t9)])) ∧
eI M7 k1 0 n3 ∧
aS t9
 (rI M7 b0 (o0 + 1) fun jA =>
 sT M7 b0 (o0 + 1) (iV (IntKind.wrap .i64 (jA + 1))) fun iO =>
 bM iO k1 0 fun ik iq jX iA =>
 gr Cx v8 [(.pointer (some ⟨b0, o0, none⟩)), (.agg #[(iV ik), (iV iq), (iV jX), (iV iA)])] iO (fun MC lG =>
 (MC = (.tuple #[])) ∧
 K (.bool t9) lG) Kp)
 (K (.bool t9) M7)) Kp) Kp) :
 aa Tryz.prog 190 #[.pointer (some ⟨b0, o0, none⟩), .agg #[.int .i64 cT, .int .i64 cU, .int .i64 cV, .int .i64 eR]] M K Kp := vw [(1, .bS [0, 0, 2, 7, 15, 31, 31, 63, 255] (sy [1] (.cY 2 (sy [0, 3, 4, 5, 6, 7, 8] .done))))] Tryz.func190 h
theorem pH {b0 o0 : Nat} {x1 : Int} {b2 o2 : Nat} {fS : Int} {fT : Int} {fU : Int} {fV : Int} (h :
aX M (cl [(iV fS), (iV fT), (iV fU), (iV fV)] 27) fun k1 M2 =>
bM M2 k1 0 fun n3 n4 n5 n6 =>
aa Tryz.prog 204 #[(.pointer (some ⟨b0, o0, none⟩)), (.agg #[(iV n3), (iV n4), (iV n5), (iV n6)])] M2 (fun v7 M8 =>
az (some v7) fun A9 c6 dQ =>
rS M8 b0 (o0 + 6) fun nx de eH =>
aa Tryz.prog 205 #[(.slice A9 c6 dQ), (.slice nx de eH)] M8 (fun ur dZ =>
az (some ur) fun Ce dJ iw =>
aS ((dJ : Int) == 0)
 (rI dZ b2 (o2 + 1) fun fB =>
 sT dZ b2 (o2 + 1) (iV (IntKind.wrap .i64 (fB + 1))) fun jC =>
 aa Tryz.prog 206 #[(.slice A9 c6 dQ)] jC (fun zd gB =>
 ∃ zl : Int, ∃ t25 : Bool, (zd = (.tuple #[(iV zl), (.bool t25)])) ∧
 aS t25
 (rI gB k1 3 fun nC =>
 (0 ≤ nC) ∧
 (nC < 8) ∧
 sT gB b2 ((o2 + 2) + (Int.toNat nC)) (iV zl) fun w6 =>
 K (.tuple #[]) w6)
 (((0 : Int) ≤ 8) ∧
 ((8 : Int) ≤ 8) ∧
 ((0 : Int) ≤ 8) ∧
 ((8 : Int) ≤ 8) ∧
 ((0 : Int) ≤ 0) ∧
 ((0 : Int) ≤ 8) ∧
 rS gB b0 (o0 + 6) fun Wa mo mq =>
 aa Tryz.prog 207 #[(iV x1), (.slice A9 c6 dQ), (.slice (kP (some ⟨b2, (o2 + 2), none⟩) 0 8 1) 8 8), (.slice Wa mo mq)] gB (fun V6 oF =>
 (V6 = (.tuple #[])) ∧
 bM oF k1 0 fun sG Pt KY w9 =>
 aa Tryz.prog 208 #[(.pointer (some ⟨b0, o0, none⟩)), (iV x1), (.agg #[(iV sG), (iV Pt), (iV KY), (iV w9)])] oF (fun v37 me =>
 (v37 = (.tuple #[])) ∧
 K (.tuple #[]) me) Kp) Kp)) Kp)
 (fk (Mem.ld dZ ⟨b0, (o0 + 14), none⟩) fun v39 =>
 gr Cx v39 [(iV 3), (iV (dJ : Int))] dZ (fun Es uB =>
 aK (some Es) .i64 fun SG =>
 (0 ≤ SG) ∧
 (SG < dJ) ∧
 aE Ce fun qq zh =>
 rI uB qq (zh + (Int.toNat SG)) fun B6 =>
 rI uB b2 (o2 + 1) fun H6 =>
 sT uB b2 (o2 + 1) (iV (IntKind.wrap .i64 (H6 + 1))) fun uF =>
 (0 ≤ B6) ∧
 (B6 < c6) ∧
 aE A9 fun Dm Fs =>
 kJ uF Dm (Fs + ((Int.toNat B6) * 3)) fun Gm Cr UX =>
 aX uF rV fun rX Gc =>
 Fo Gc rX (iV Gm) (iV Cr) (iV UX) fun HX =>
 rI HX rX 0 fun Gd =>
 aS (Gd == 1)
 (rI HX rX 1 fun Eo =>
 rI HX rX 2 fun Pe =>
 (0 ≤ Pe) ∧
 (Pe < 8) ∧
 rI HX b2 ((o2 + 2) + (Int.toNat Pe)) fun Mx =>
 aa Tryz.prog 209 #[(.pointer (some ⟨b0, o0, none⟩)), (iV Eo), (iV Mx)] HX (fun SH w5 =>
 dH (some SH) fun t64 =>
 rI w5 k1 3 fun zf =>
 (0 ≤ zf) ∧
 (zf < 8) ∧
 sT w5 b2 ((o2 + 2) + (Int.toNat zf)) (iV B6) fun UY =>
 K (.tuple #[]) UY) Kp)
 (rI HX rX 1 fun Gn =>
 rI HX rX 2 fun Pu =>
 aa Tryz.prog 210 #[(.pointer (some ⟨b0, o0, none⟩)), (iV Gn)] HX (fun v69 KZ =>
 ∃ n71 Pv : Int, ∃ t73 : Bool, (v69 = (.tuple #[(iV n71), (iV Pv), (.bool t73)])) ∧
 eI KZ rX 2 Pu ∧
 (0 ≤ Pu) ∧
 (Pu < 8) ∧
 sT KZ b2 ((o2 + 2) + (Int.toNat Pu)) (iV n71) fun Gp =>
 eI Gp rX 2 Pu ∧
 rI Gp k1 3 fun SE =>
 (0 ≤ SE) ∧
 (SE < 8) ∧
 sT Gp b2 ((o2 + 2) + (Int.toNat SE)) (iV B6) fun M76 =>
 K (.tuple #[]) M76) Kp)) Kp)) Kp) Kp) :
 aa Tryz.prog 191 #[.pointer (some ⟨b0, o0, none⟩), .int .i64 x1, .pointer (some ⟨b2, o2, none⟩), .agg #[.int .i64 fS, .int .i64 fT, .int .i64 fU, .int .i64 fV]] M K Kp := vw [(7, .bS [0, 0, 2, 0, 1, 17, 63, 127] (sy [0, 1, 3, 4, 5, 2, 6, 7] .done)), (8, .bS [0, 0, 0, 4, 12, 28, 0, 64, 192, 448, 1023] (sy [0, 1, 2, 3, 4, 5, 6, 7, 8, 9, 10] .done)), (14, .bS [0, 0, 2, 0, 0, 16, 8, 72, 248, 504, 1023] (sy [0, 1, 3, 4, 6, 7, 2, 5, 8, 9, 10] .done)), (15, .bS [0, 0, 2, 0, 0, 16, 56, 120, 248, 248, 248, 1, 2049, 6655, 14847] (sy [0, 1, 3, 4, 11, 12, 5] (.cY 2 (sy [6, 7, 8, 9, 10, 13, 14] .done)))), (16, .bS [0, 0, 2, 0, 1, 17, 63, 127] (sy [0, 1, 3, 4, 5, 2, 6, 7] .done))] Tryz.func191 h
theorem sM {b0 o0 : Nat} {x1 : Int} {b2 o2 : Nat} {fS : Int} {fT : Int} {fU : Int} {fV : Int} (h :
aX M (cl [(iV fS), (iV fT), (iV fU), (iV fV)] 27) fun k1 M2 =>
fk (Mem.ld M2 ⟨b0, (o0 + 14), none⟩) fun v3 =>
rI M2 k1 2 fun n4 =>
gr Cx v3 [(iV 4), (iV n4)] M2 (fun v5 M6 =>
aK (some v5) .i64 fun n7 =>
rI M6 b2 (o2 + 1) fun n8 =>
sT M6 b2 (o2 + 1) (iV (IntKind.wrap .i64 (n8 + 1))) fun M9 =>
rI M9 k1 1 fun jA =>
(0 ≤ jA) ∧
(jA < 8) ∧
sT M9 b2 ((o2 + 2) + (Int.toNat jA)) (iV n7) fun iO =>
K (.tuple #[]) iO) Kp) :
 aa Tryz.prog 192 #[.pointer (some ⟨b0, o0, none⟩), .int .i64 x1, .pointer (some ⟨b2, o2, none⟩), .agg #[.int .i64 fS, .int .i64 fT, .int .i64 fU, .int .i64 fV]] M K Kp := vw [(1, .bS [0, 1, 3, 7, 0, 16, 63, 127] (sy [0, 1, 2, 4, 3, 5, 6, 7] .done)), (3, .bS [0, 0, 2, 0, 1, 17, 63, 127] (sy [0, 1, 3, 4, 5, 2, 6, 7] .done))] Tryz.func192 h
theorem AJ  (h :
aX M (.map #[] 0) fun k1 M2 =>
bK Tryz.prog (Go.Instr.mapUpdate 345 (.map (some k1)) (iV 9) (.func (.func 211) #[] #[])) M2 (fun M3 =>
bK Tryz.prog (Go.Instr.mapUpdate 345 (.map (some k1)) (iV 10) (.func (.func 212) #[] #[])) M3 (fun M4 =>
bK Tryz.prog (Go.Instr.mapUpdate 345 (.map (some k1)) (iV 11) (.func (.func 213) #[] #[])) M4 (fun M5 =>
bK Tryz.prog (Go.Instr.mapUpdate 345 (.map (some k1)) (iV 12) (.func (.func 214) #[] #[])) M5 (fun M6 =>
bK Tryz.prog (Go.Instr.mapUpdate 345 (.map (some k1)) (iV 13) (.func (.func 215) #[] #[])) M6 (fun M7 =>
bK Tryz.prog (Go.Instr.mapUpdate 345 (.map (some k1)) (iV 14) (.func (.func 216) #[] #[])) M7 (fun M8 =>
bK Tryz.prog (Go.Instr.mapUpdate 345 (.map (some k1)) (iV 15) (.func (.func 217) #[] #[])) M8 (fun M9 =>
bK Tryz.prog (Go.Instr.mapUpdate 345 (.map (some k1)) (iV 17) (.func (.func 218) #[] #[])) M9 (fun gy =>
bK Tryz.prog (Go.Instr.mapUpdate 345 (.map (some k1)) (iV 18) (.func (.func 219) #[] #[])) gy (fun iO =>
bK Tryz.prog (Go.Instr.mapUpdate 345 (.map (some k1)) (iV 19) (.func (.func 220) #[] #[])) iO (fun jP =>
bK Tryz.prog (Go.Instr.mapUpdate 345 (.map (some k1)) (iV 20) (.func (.func 221) #[] #[])) jP (fun jy =>
bK Tryz.prog (Go.Instr.mapUpdate 345 (.map (some k1)) (iV 22) (.func (.func 222) #[] #[])) jy (fun jO =>
K (.map (some k1)) jO) Kp) Kp) Kp) Kp) Kp) Kp) Kp) Kp) Kp) Kp) Kp) Kp) :
 aa Tryz.prog 193 #[] M K Kp := vw [] Tryz.func193 h
theorem sN {b0 o0 : Nat} {x1 : Int} (h :
aX M (.cells #[(.int .u64 0), (.int .u64 0), (.int .i64 0)] 203 (0, 0)) fun k1 M2 =>
az (Mem.ld M2 ⟨b0, o0, none⟩) fun A3 k4 k5 =>
((0 : Int) ≤ x1) ∧
((x1 : Int) < ((k4 : Nat) : Int)) ∧
aE A3 fun k6 k7 =>
aK (Mem.ld M2 ⟨k6, (k7 + ((Int.toNat x1) * 3)), none⟩) .u64 fun n8 =>
aK (Mem.ld M2 ⟨k6, ((k7 + ((Int.toNat x1) * 3)) + 1), none⟩) .u64 fun n9 =>
aK (Mem.ld M2 ⟨k6, ((k7 + ((Int.toNat x1) * 3)) + 2), none⟩) .i64 fun jA =>
aX M2 (.cells #[(.int .u64 0), (.int .u64 0), (.int .i64 0)] 203 (0, 0)) fun dQ jP =>
aP jP ⟨dQ, 0, none⟩ (.int .u64 n8) fun jy =>
aP jy ⟨dQ, (0 + 1), none⟩ (.int .u64 n9) fun jO =>
aP jO ⟨dQ, (0 + 2), none⟩ (.int .i64 jA) fun r8 =>
az (Mem.ld r8 ⟨b0, o0, none⟩) fun K0 ei dJ =>
aa Tryz.prog 154 #[(.pointer (some ⟨b0, o0, none⟩)), (.int .i64 x1), (.int .i64 (IntKind.wrap .i64 (((ei : Nat) : Int) - 1)))] r8 (fun Jb mb =>
(Jb = (.tuple #[])) ∧
az (Mem.ld mb ⟨b0, o0, none⟩) fun zk gF iT =>
((0 : Int) ≤ ((iT : Nat) : Int)) ∧
((((iT : Nat) : Int) : Int) ≤ ((iT : Nat) : Int)) ∧
((0 : Int) ≤ (IntKind.wrap .i64 (((ei : Nat) : Int) - 1))) ∧
(((IntKind.wrap .i64 (((ei : Nat) : Int) - 1)) : Int) ≤ ((iT : Nat) : Int)) ∧
((0 : Int) ≤ 0) ∧
((0 : Int) ≤ (IntKind.wrap .i64 (((ei : Nat) : Int) - 1))) ∧
aP mb ⟨b0, o0, none⟩ (.slice (kP zk 0 (Int.toNat ((iT : Nat) : Int)) 3) ((Int.toNat (IntKind.wrap .i64 (((ei : Nat) : Int) - 1))) - 0) ((Int.toNat ((iT : Nat) : Int)) - 0)) fun kL =>
aS (decide ((x1 : Int) < (IntKind.wrap .i64 (((ei : Nat) : Int) - 1))))
 (aa Tryz.prog 155 #[(.pointer (some ⟨b0, o0, none⟩)), (.int .i64 x1)] kL (fun MB vr =>
 (MB = (.tuple #[])) ∧
 aa Tryz.prog 156 #[(.pointer (some ⟨b0, o0, none⟩)), (.int .i64 x1)] vr (fun IW w4 =>
 (IW = (.tuple #[])) ∧
 aK (Mem.ld w4 ⟨dQ, 0, none⟩) .u64 fun vW =>
 aK (Mem.ld w4 ⟨dQ, (0 + 1), none⟩) .u64 fun Dl =>
 aK (Mem.ld w4 ⟨dQ, (0 + 2), none⟩) .i64 fun vR =>
 aP w4 ⟨k1, 0, none⟩ (.int .u64 vW) fun oF =>
 aP oF ⟨k1, (0 + 1), none⟩ (.int .u64 Dl) fun vq =>
 aP vq ⟨k1, (0 + 2), none⟩ (.int .i64 vR) fun pE =>
 aK (Mem.ld pE ⟨k1, 0, none⟩) .u64 fun KY =>
 aK (Mem.ld pE ⟨k1, (0 + 1), none⟩) .u64 fun w9 =>
 aK (Mem.ld pE ⟨k1, (0 + 2), none⟩) .i64 fun Mu =>
 K (.agg #[(.int .u64 KY), (.int .u64 w9), (.int .i64 Mu)]) pE) Kp) Kp)
 (aK (Mem.ld kL ⟨dQ, 0, none⟩) .u64 fun Ga =>
 aK (Mem.ld kL ⟨dQ, (0 + 1), none⟩) .u64 fun IP =>
 aK (Mem.ld kL ⟨dQ, (0 + 2), none⟩) .i64 fun SI =>
 aP kL ⟨k1, 0, none⟩ (.int .u64 Ga) fun uB =>
 aP uB ⟨k1, (0 + 1), none⟩ (.int .u64 IP) fun Pw =>
 aP Pw ⟨k1, (0 + 2), none⟩ (.int .i64 SI) fun zP =>
 aK (Mem.ld zP ⟨k1, 0, none⟩) .u64 fun Gq =>
 aK (Mem.ld zP ⟨k1, (0 + 1), none⟩) .u64 fun B6 =>
 aK (Mem.ld zP ⟨k1, (0 + 2), none⟩) .i64 fun H6 =>
 K (.agg #[(.int .u64 Gq), (.int .u64 B6), (.int .i64 H6)]) zP)) Kp) :
 aa Tryz.prog 117 ([.pointer (some ⟨b0, o0, none⟩), .int .i64 x1] : List Value).toArray M K Kp :=
 bY (C := Cx) good [] Tryz.func117 (by kernel_rfl) (by kernel_rfl) h
theorem AK  (h :
aX M (.map #[] 0) fun k1 M2 =>
bK Tryz.prog (Go.Instr.mapUpdate 361 (.map (some k1)) (iV 0) (.func (.func 225) #[] #[])) M2 (fun M3 =>
bK Tryz.prog (Go.Instr.mapUpdate 361 (.map (some k1)) (iV 1) (.func (.func 226) #[] #[])) M3 (fun M4 =>
bK Tryz.prog (Go.Instr.mapUpdate 361 (.map (some k1)) (iV 2) (.func (.func 227) #[] #[])) M4 (fun M5 =>
bK Tryz.prog (Go.Instr.mapUpdate 361 (.map (some k1)) (iV 3) (.func (.func 228) #[] #[])) M5 (fun M6 =>
bK Tryz.prog (Go.Instr.mapUpdate 361 (.map (some k1)) (iV 4) (.func (.func 229) #[] #[])) M6 (fun M7 =>
bK Tryz.prog (Go.Instr.mapUpdate 361 (.map (some k1)) (iV 5) (.func (.func 230) #[] #[])) M7 (fun M8 =>
bK Tryz.prog (Go.Instr.mapUpdate 361 (.map (some k1)) (iV 6) (.func (.func 231) #[] #[])) M8 (fun M9 =>
bK Tryz.prog (Go.Instr.mapUpdate 361 (.map (some k1)) (iV 7) (.func (.func 232) #[] #[])) M9 (fun gy =>
bK Tryz.prog (Go.Instr.mapUpdate 361 (.map (some k1)) (iV 8) (.func (.func 233) #[] #[])) gy (fun iO =>
K (.map (some k1)) iO) Kp) Kp) Kp) Kp) Kp) Kp) Kp) Kp) Kp) :
 aa Tryz.prog 203 #[] M K Kp := vw [] Tryz.func203 h
theorem qA {b0 o0 : Nat} {cT : Int} {cU : Int} {cV : Int} {eR : Int} (h :
aX M (cl [(iV cT), (iV cU), (iV cV), (iV eR)] 27) fun k1 M2 =>
rS M2 b0 (o0 + 3) fun A3 k4 k5 =>
rI M2 k1 1 fun n6 =>
rI M2 k1 1 fun n7 =>
rI M2 k1 2 fun n8 =>
((0 : Int) ≤ k5) ∧
((k5 : Int) ≤ k5) ∧
((0 : Int) ≤ (IntKind.wrap .i64 (n7 + n8))) ∧
(((IntKind.wrap .i64 (n7 + n8)) : Int) ≤ (k5 : Int)) ∧
(0 ≤ n6) ∧
((n6 : Int) ≤ (IntKind.wrap .i64 (n7 + n8))) ∧
K (.slice (kP A3 (Int.toNat n6) (Int.toNat (k5 : Int)) 3) ((Int.toNat (IntKind.wrap .i64 (n7 + n8))) - (Int.toNat n6)) ((Int.toNat (k5 : Int)) - (Int.toNat n6))) M2) :
 aa Tryz.prog 204 #[.pointer (some ⟨b0, o0, none⟩), .agg #[.int .i64 cT, .int .i64 cU, .int .i64 cV, .int .i64 eR]] M K Kp := vw [(1, .bS [0, 1, 3, 7, 15, 0, 32, 0, 128, 0, 512, 1920, 4095, 8191] (sy [0, 1, 2, 3, 5, 7, 9, 4, 6, 8, 10, 11, 12, 13] .done))] Tryz.func204 h
theorem qB {b0 o0 : Nat} {x1 : Int} {Px : Int} {Py : Int} {Pz : Int} {PB : Int} (h :
aX M (cl [(iV Px), (iV Py), (iV Pz), (iV PB)] 27) fun k1 M2 =>
rS M2 b0 (o0 + 4) fun A3 k4 k5 =>
((0 : Int) ≤ x1) ∧
((x1 : Int) < k4) ∧
aE A3 fun k6 k7 =>
rP M2 k6 (k7 + (Int.toNat x1)) fun A8 =>
rS M2 b0 (o0 + 4) fun A9 c6 dQ =>
((0 : Int) ≤ x1) ∧
((x1 : Int) < c6) ∧
aE A9 fun gx de =>
rP M2 gx (de + (Int.toNat x1)) fun pn =>
aE A8 fun hU eN =>
bM M2 k1 0 fun iB jY rY fB =>
sT M2 hU eN (iV 2) fun jC =>
((Mem.fN jC ⟨k1, 0, none⟩ 0 4) = some [(iV iB), (iV jY), (iV rY), (iV fB)]) ∧
aE pn fun gF iT =>
sT jC gF (iT + 2) (iV iB) fun kL =>
sT kL gF ((iT + 2) + 1) (iV jY) fun Fq =>
sT Fq gF ((iT + 2) + 2) (iV rY) fun vr =>
sT vr gF ((iT + 2) + 3) (iV fB) fun w6 =>
((Mem.fN w6 ⟨k1, 0, none⟩ 0 4) = some [(iV iB), (iV jY), (iV rY), (iV fB)]) ∧
K (.tuple #[]) w6) :
 aa Tryz.prog 208 #[.pointer (some ⟨b0, o0, none⟩), .int .i64 x1, .agg #[.int .i64 Px, .int .i64 Py, .int .i64 Pz, .int .i64 PB]] M K Kp := vw [(1, .bS [0, 1, 3, 7, 0, 31, 63, 0, 128, 384, 896, 0, 3968, 8064, 0, 16383, 49151, 114687, 262143, 524287, 1048575] (sy [0, 1, 2, 4, 7, 8, 9, 11, 3, 5, 6, 10, 12, 13, 15, 16] (.cY 14 (sy [17, 18, 19, 20] .done))))] Tryz.func208 h
theorem uG {b0 o0 : Nat} {x1 : Int} {x2 : Int} (h :
rS M b0 (o0 + 6) fun A1 k2 k3 =>
((0 : Int) ≤ x1) ∧
((x1 : Int) < k2) ∧
aE A1 fun k4 k5 =>
rP M k4 (k5 + (Int.toNat x1)) fun A6 =>
aa Tryz.prog 237 #[(.pointer A6), (iV x2)] M (fun v7 M8 =>
∃ n9 jA eD : Int, ∃ t12 : Bool, ∃ iq : Int, (v7 = (.tuple #[(.agg #[(iV n9), (iV jA), (iV eD)]), (.bool t12), (iV iq)])) ∧
aX M8 jH fun eH r8 =>
Fo r8 eH (iV n9) (iV jA) (iV eD) fun m6 =>
aS (iq == 10)
 (Kp [{ v := (.iface 340 (iV (-1))), recovered := false }] m6)
 (aS t12
 (rI m6 eH 0 fun rY =>
 rI m6 eH 1 fun fB =>
 rI m6 eH 2 fun kD =>
 aa Tryz.prog 238 #[(.pointer (some ⟨b0, o0, none⟩)), (.agg #[(iV rY), (iV fB), (iV kD)]), (iV 1)] m6 (fun zd gB =>
 (zd = (.tuple #[])) ∧
 K (.bool (iq == 0)) gB) Kp)
 (K (.bool (iq == 0)) m6))) Kp) :
 aa Tryz.prog 209 #[.pointer (some ⟨b0, o0, none⟩), .int .i64 x1, .int .i64 x2] M K Kp := vw [] Tryz.func209 h
theorem uH {b0 o0 : Nat} {x1 : Int} (h :
rS M b0 (o0 + 6) fun A1 k2 k3 =>
((0 : Int) ≤ x1) ∧
((x1 : Int) < k2) ∧
aE A1 fun k4 k5 =>
rP M k4 (k5 + (Int.toNat x1)) fun A6 =>
aa Tryz.prog 239 #[(.pointer A6)] M (fun v7 M8 =>
∃ n9 : Int, ∃ t10 : Bool, ∃ eD ik iq : Int, ∃ t14 : Bool, ∃ iA : Int, (v7 = (.tuple #[(.agg #[(iV n9), (.bool t10), (iV eD), (iV ik), (iV iq), (.bool t14)]), (iV iA)])) ∧
aX M8 oz fun eN lG =>
sT6 lG eN (iV n9) (.bool t10) (iV eD) (iV ik) (iV iq) (.bool t14) fun gB =>
rB gB eN 5 fun t24 =>
aS t24
 (rI gB eN 2 fun m7 =>
 rI gB eN (2 + 1) fun nC =>
 rI gB eN (2 + 2) fun w7 =>
 aa Tryz.prog 240 #[(.pointer (some ⟨b0, o0, none⟩)), (.agg #[(iV m7), (iV nC), (iV w7)])] gB (fun Pn mE =>
 (Pn = (.tuple #[])) ∧
 rB mE eN 1 fun t30 =>
 aS t30
 (rI mE eN 0 fun vR =>
 K (.tuple #[(iV vR), (iV 1), (.bool true)]) mE)
 (K (.tuple #[(iV 0), (iV 0), (.bool (iA == 0))]) mE)) Kp)
 (rB gB eN 1 fun t32 =>
 aS t32
 (rI gB eN 0 fun sG =>
 K (.tuple #[(iV sG), (iV 1), (.bool true)]) gB)
 (K (.tuple #[(iV 0), (iV 0), (.bool (iA == 0))]) gB))) Kp) :
 aa Tryz.prog 210 #[.pointer (some ⟨b0, o0, none⟩), .int .i64 x1] M K Kp := vw [] Tryz.func210 h
theorem sO {b0 o0 : Nat} {x1 : Int} {b2 o2 : Nat} {fS : Int} {fT : Int} {fU : Int} {fV : Int} (h :
aX M (cl [(iV fS), (iV fT), (iV fU), (iV fV)] 27) fun k1 M2 =>
rS M2 b0 (o0 + 4) fun A3 k4 k5 =>
((0 : Int) ≤ x1) ∧
((x1 : Int) < k4) ∧
aE A3 fun k6 k7 =>
rP M2 k6 (k7 + (Int.toNat x1)) fun A8 =>
aE A8 fun k9 c6 =>
rS M2 k9 (c6 + 1) fun Jc gx de =>
rI M2 k1 1 fun jX =>
rI M2 k1 2 fun iA =>
(0 ≤ iA) ∧
(iA < 8) ∧
rI M2 b2 ((o2 + 2) + (Int.toNat iA)) fun kT =>
rI M2 k1 3 fun iB =>
aa Tryz.prog 241 #[(.slice Jc gx de), (iV jX), (iV kT), (iV iB)] M2 (fun Ci jx =>
∃ A20 : Option Addr, ∃ fK gF : Nat, ∃ t23 : Bool, (Ci = (.tuple #[(.slice A20 fK gF), (.bool t23)])) ∧
aS (!t23)
 (Kp [{ v := (.iface 340 (iV (-4))), recovered := false }] jx)
 (rS jx b0 (o0 + 4) fun ze nZ jW =>
 ((0 : Int) ≤ x1) ∧
 ((x1 : Int) < nZ) ∧
 aE ze fun nw kF =>
 rP jx nw (kF + (Int.toNat x1)) fun RI =>
 aE RI fun mq mu =>
 sT jx mq (mu + 1) (.slice A20 fK gF) fun oF =>
 K (.tuple #[]) oF)) Kp) :
 aa Tryz.prog 211 #[.pointer (some ⟨b0, o0, none⟩), .int .i64 x1, .pointer (some ⟨b2, o2, none⟩), .agg #[.int .i64 fS, .int .i64 fT, .int .i64 fU, .int .i64 fV]] M K Kp := vw [(1, .bS [0, 1, 3, 7, 0, 31, 63, 127, 255, 511, 0, 1024, 0, 0, 8192, 4096, 36864, 126976, 258048, 0, 524288, 2097151, 4194303, 8388607, 8388607, 16777215, 67108863] (sy [0, 1, 2, 4, 10, 12, 13, 15, 16, 19, 3, 5, 6, 7, 8, 9, 11, 14, 17, 18, 20, 21, 22, 23, 24, 25, 26] .done))] Tryz.func211 h
theorem sP {b0 o0 : Nat} {x1 : Int} {b2 o2 : Nat} {fS : Int} {fT : Int} {fU : Int} {fV : Int} (h :
aX M (cl [(iV fS), (iV fT), (iV fU), (iV fV)] 27) fun k1 M2 =>
rS M2 b0 (o0 + 4) fun A3 k4 k5 =>
((0 : Int) ≤ x1) ∧
((x1 : Int) < k4) ∧
aE A3 fun k6 k7 =>
rP M2 k6 (k7 + (Int.toNat x1)) fun A8 =>
aE A8 fun k9 c6 =>
rS M2 k9 (c6 + 1) fun Jc gx de =>
rI M2 k1 1 fun jX =>
(0 ≤ jX) ∧
(jX < 8) ∧
rI M2 b2 ((o2 + 2) + (Int.toNat jX)) fun iA =>
aa Tryz.prog 242 #[(.slice Jc gx de), (iV iA)] M2 (fun MC lG =>
∃ H7 : Option Addr, ∃ iw g7 : Nat, ∃ t21 : Bool, (MC = (.tuple #[(.slice H7 iw g7), (.bool t21)])) ∧
aS t21
 (rS lG b0 (o0 + 4) fun MD iT lq =>
 ((0 : Int) ≤ x1) ∧
 ((x1 : Int) < iT) ∧
 aE MD fun nZ jW =>
 rP lG nZ (jW + (Int.toNat x1)) fun RJ =>
 aE RJ fun kF mo =>
 sT lG kF (mo + 1) (.slice H7 iw g7) fun pe =>
 K (.tuple #[]) pe)
 (rS lG b0 (o0 + 4) fun Ms sF pB =>
 ((0 : Int) ≤ x1) ∧
 ((x1 : Int) < sF) ∧
 aE Ms fun vS zg =>
 rP lG vS (zg + (Int.toNat x1)) fun ME =>
 aE ME fun uA ia =>
 sT lG uA ia (iV 4) fun ZB =>
 aS (x1 == 0)
 (sT ZB b0 (o0 + 11) (iV 1) fun Wf =>
 K (.tuple #[]) Wf)
 (K (.tuple #[]) ZB))) Kp) :
 aa Tryz.prog 212 #[.pointer (some ⟨b0, o0, none⟩), .int .i64 x1, .pointer (some ⟨b2, o2, none⟩), .agg #[.int .i64 fS, .int .i64 fT, .int .i64 fU, .int .i64 fV]] M K Kp := vw [(1, .bS [0, 1, 3, 7, 0, 31, 63, 127, 255, 511, 0, 0, 2048, 1024, 9216, 31744, 64512, 131071, 262143, 524287, 524287, 1048575, 4194303] (sy [0, 1, 2, 4, 10, 11, 13, 14, 3, 5, 6, 7, 8, 9, 12, 15, 16, 17, 18, 19, 20, 21, 22] .done))] Tryz.func212 h
theorem qC {b0 o0 : Nat} {x1 : Int} {b2 o2 : Nat} {fS : Int} {fT : Int} {fU : Int} {fV : Int} (h :
aX M (cl [(iV fS), (iV fT), (iV fU), (iV fV)] 27) fun k1 M2 =>
rS M2 b0 (o0 + 4) fun A3 k4 k5 =>
aS (decide ((k4 : Int) ≥ 100))
 (Kp [{ v := (.iface 340 (iV (-5))), recovered := false }] M2)
 (rS M2 b0 (o0 + 4) fun A6 k7 k8 =>
 ∃ J9 : List Value → Mem → Prop, (rI M2 k1 1 fun jA =>
 rI M2 k1 2 fun eD =>
 (0 ≤ eD) ∧
 (eD < 8) ∧
 rI M2 b2 ((o2 + 2) + (Int.toNat eD)) fun ik =>
 (rS M2 b0 (o0 + 4) fun Fp eH hU =>
 aa Tryz.prog 112 #[(iV jA), (iV ik)] M2 (fun MC lG =>
 az (some MC) fun H7 iw g7 =>
 aX lG (cl [(iV 0), (.slice H7 iw g7), (iV 0), (iV 0), (iV 0), (iV 0)] 229) fun fK dn =>
 aX dn (cl [(.pointer (some ⟨fK, 0, none⟩))] 224) fun iT kL =>
 aA 155 Fp eH hU (some ⟨iT, 0, none⟩) 1 1 kL (fun MB vr =>
 az (some MB) fun RJ kF mo =>
 sT vr b0 (o0 + 4) (.slice RJ kF mo) fun pe =>
 J9 [] pe) Kp) Kp) ∧
 (aa Tryz.prog 112 #[(iV jA), (iV ik)] M2 (fun V6 oF =>
 az (some V6) fun Ge vS zg =>
 rS oF b0 (o0 + 4) fun ME uA ia =>
 aX oF (cl [(iV 0), (.slice Ge vS zg), (iV 0), (iV 0), (iV 0), (iV 0)] 229) fun uu Wf =>
 aX Wf (cl [(.pointer (some ⟨uu, 0, none⟩))] 224) fun En Pw =>
 aA 155 ME uA ia (some ⟨En, 0, none⟩) 1 1 Pw (fun v43 Cs =>
 az (some v43) fun UT Ch KU =>
 sT Cs b0 (o0 + 4) (.slice UT Ch KU) fun Pd =>
 J9 [] Pd) Kp) Kp) ∧
 True) ∧
 ∀ junk49 : Nat → Value, ∀ B5 : Mem, (J9 [] B5) → aa Tryz.prog 158 #[(.pointer (some ⟨b0, o0, none⟩)), (iV (k7 : Int))] B5 (fun v51 M52 =>
 (v51 = (.tuple #[])) ∧
 rI M52 k1 3 fun MF =>
 (0 ≤ MF) ∧
 (MF < 8) ∧
 sT M52 b2 ((o2 + 2) + (Int.toNat MF)) (iV (k7 : Int)) fun Gc =>
 K (.tuple #[]) Gc) Kp)) :
 aa Tryz.prog 213 #[.pointer (some ⟨b0, o0, none⟩), .int .i64 x1, .pointer (some ⟨b2, o2, none⟩), .agg #[.int .i64 fS, .int .i64 fT, .int .i64 fU, .int .i64 fV]] M K Kp := vw [(4, .FX [0, 0, 2, 6, 14, 0, 32, 0, 0, 256, 128, 1152, 3968, 8064, 16352, 32736, 65504, 131040, 262142, 524287, 1048575, 2097151] (sy [0, 1, 2, 3, 5, 7, 8, 10, 11, 6, 9, 12, 13] (.fork 4 (sy [14, 15, 16, 17, 18, 19, 20, 21] .done) (.fork 14 (sy [15, 4, 16, 17, 18, 19, 20, 21] .done) .dead))) []), (6, .bS [0, 0, 2, 0, 1, 17, 63, 127] (sy [0, 1, 3, 4, 5, 2, 6, 7] .done))] Tryz.func213 h
theorem qD {b0 o0 : Nat} {x1 : Int} {b2 o2 : Nat} {fS : Int} {fT : Int} {fU : Int} {fV : Int} (h :
aX M (cl [(iV fS), (iV fT), (iV fU), (iV fV)] 27) fun k1 M2 =>
K (.tuple #[]) M2) :
 aa Tryz.prog 214 #[.pointer (some ⟨b0, o0, none⟩), .int .i64 x1, .pointer (some ⟨b2, o2, none⟩), .agg #[.int .i64 fS, .int .i64 fT, .int .i64 fU, .int .i64 fV]] M K Kp := vw [] Tryz.func214 h
theorem sQ {b0 o0 : Nat} {x1 : Int} {b2 o2 : Nat} {fS : Int} {fT : Int} {fU : Int} {fV : Int} (h :
aX M (cl [(iV fS), (iV fT), (iV fU), (iV fV)] 27) fun k1 M2 =>
rI M2 k1 1 fun n3 =>
rI M2 k1 2 fun n4 =>
(0 ≤ n4) ∧
(n4 < 8) ∧
rI M2 b2 ((o2 + 2) + (Int.toNat n4)) fun n5 =>
aa Tryz.prog 209 #[(.pointer (some ⟨b0, o0, none⟩)), (iV n3), (iV n5)] M2 (fun v6 M7 =>
dH (some v6) fun t8 =>
aS (!t8)
 (rS M7 b0 (o0 + 6) fun A9 c6 dQ =>
 rI M7 k1 1 fun ik =>
 (0 ≤ ik) ∧
 (ik < c6) ∧
 aE A9 fun de eH =>
 rP M7 de (eH + (Int.toNat ik)) fun pg =>
 rI M7 k1 2 fun kT =>
 (0 ≤ kT) ∧
 (kT < 8) ∧
 rI M7 b2 ((o2 + 2) + (Int.toNat kT)) fun iB =>
 aa Tryz.prog 236 #[(.pointer pg), (.agg #[(iV x1), (iV 0), (iV iB)])] M7 (fun Ci jx =>
 (Ci = (.tuple #[])) ∧
 bM jx k1 0 fun fB kD oE oG =>
 aa Tryz.prog 208 #[(.pointer (some ⟨b0, o0, none⟩)), (iV x1), (.agg #[(iV fB), (iV kD), (iV oE), (iV oG)])] jx (fun Wg Fq =>
 (Wg = (.tuple #[])) ∧
 K (.tuple #[]) Fq) Kp) Kp)
 (K (.tuple #[]) M7)) Kp) :
 aa Tryz.prog 215 #[.pointer (some ⟨b0, o0, none⟩), .int .i64 x1, .pointer (some ⟨b2, o2, none⟩), .agg #[.int .i64 fS, .int .i64 fT, .int .i64 fU, .int .i64 fV]] M K Kp := vw [(1, .bS [0, 0, 2, 0, 0, 16, 8, 72, 248, 504, 1023, 2047] (sy [0, 1, 3, 4, 6, 7, 2, 5, 8, 9, 10, 11] .done)), (2, .bS [0, 1, 3, 7, 0, 16, 63, 127, 0, 0, 0, 1024, 512, 4608, 15872, 32256, 65280, 131071] (sy [0, 1, 2, 4, 8, 9, 10, 12, 13, 3, 5, 6, 7, 11, 14, 15, 16, 17] .done))] Tryz.func215 h
theorem sR {b0 o0 : Nat} {x1 : Int} {b2 o2 : Nat} {fS : Int} {fT : Int} {fU : Int} {fV : Int} (h :
aX M (cl [(iV fS), (iV fT), (iV fU), (iV fV)] 27) fun k1 M2 =>
rI M2 k1 1 fun n3 =>
aa Tryz.prog 210 #[(.pointer (some ⟨b0, o0, none⟩)), (iV n3)] M2 (fun v4 M5 =>
∃ n6 n7 : Int, ∃ t8 : Bool, (v4 = (.tuple #[(iV n6), (iV n7), (.bool t8)])) ∧
aS (!t8)
 (rS M5 b0 (o0 + 6) fun A9 c6 dQ =>
 rI M5 k1 1 fun ik =>
 (0 ≤ ik) ∧
 (ik < c6) ∧
 aE A9 fun de eH =>
 rP M5 de (eH + (Int.toNat ik)) fun pg =>
 aa Tryz.prog 235 #[(.pointer pg), (.agg #[(iV x1), (iV 0), (iV 0)])] M5 (fun MC lG =>
 (MC = (.tuple #[])) ∧
 bM lG k1 0 fun jY rY fB kD =>
 aa Tryz.prog 208 #[(.pointer (some ⟨b0, o0, none⟩)), (iV x1), (.agg #[(iV jY), (iV rY), (iV fB), (iV kD)])] lG (fun zd gB =>
 (zd = (.tuple #[])) ∧
 K (.tuple #[]) gB) Kp) Kp)
 (rI M5 k1 2 fun zl =>
 (0 ≤ zl) ∧
 (zl < 8) ∧
 rI M5 k1 3 fun m7 =>
 sT M5 b2 ((o2 + 2) + (Int.toNat zl)) (iV n6) fun vr =>
 eI vr k1 3 m7 ∧
 (0 ≤ m7) ∧
 (m7 < 8) ∧
 sT vr b2 ((o2 + 2) + (Int.toNat m7)) (iV n7) fun w6 =>
 eI w6 k1 3 m7 ∧
 K (.tuple #[]) w6)) Kp) :
 aa Tryz.prog 216 #[.pointer (some ⟨b0, o0, none⟩), .int .i64 x1, .pointer (some ⟨b2, o2, none⟩), .agg #[.int .i64 fS, .int .i64 fT, .int .i64 fU, .int .i64 fV]] M K Kp := vw [(3, .bS [0, 1, 3, 7, 0, 16, 63, 127, 0, 256, 1023] (sy [0, 1, 2, 4, 8, 9, 3, 5, 6, 7, 10] .done)), (5, .bS [0, 0, 2, 0, 0, 16, 0, 0, 1, 257, 839, 1863, 8, 4104, 16383, 32767] (sy [0, 1, 3, 4, 6, 7, 8, 9, 12, 13, 2, 10] (.cY 5 (sy [11, 14, 15] .done))))] Tryz.func216 h
theorem sS {b0 o0 : Nat} {x1 : Int} {b2 o2 : Nat} {fS : Int} {fT : Int} {fU : Int} {fV : Int} (h :
aX M (cl [(iV fS), (iV fT), (iV fU), (iV fV)] 27) fun k1 M2 =>
rS M2 b0 (o0 + 6) fun A3 k4 k5 =>
rI M2 k1 1 fun n6 =>
(0 ≤ n6) ∧
(n6 < k4) ∧
aE A3 fun k7 k8 =>
rP M2 k7 (k8 + (Int.toNat n6)) fun A9 =>
aa Tryz.prog 243 #[(.pointer A9)] M2 (fun v10 iO =>
∃ nx : Option Addr, ∃ de eH : Nat, ∃ pg : Option Addr, ∃ eN ei : Nat, ∃ jY : Int, (v10 = (.tuple #[(.slice nx de eH), (.slice pg eN ei), (iV jY)])) ∧
aS (jY != 0)
 (Kp [{ v := (.iface 340 (iV (-2))), recovered := false }] iO)
 (aS (decide ((eN : Int) > 0))
 (Kp [{ v := (.iface 340 (iV (-1))), recovered := false }] iO)
 (∃ I19 : IT, (∃ g7, I19 g7 [(iV 0)] iO) ∧
 ∀ (fK : Nat) (_ : Nat → Value) (oG : Int) (kL : Mem), (I19 fK [(iV oG)] kL) → aS (decide (oG < de))
 ((0 ≤ oG) ∧
 (oG < de) ∧
 aE nx fun nZ jW =>
 kJ kL nZ (jW + ((Int.toNat oG) * 3)) fun w7 ux vW =>
 aX kL jH fun mq Jd =>
 Fo Jd mq (iV w7) (iV ux) (iV vW) fun pE =>
 rS pE b0 (o0 + 4) fun A35 Mz uA =>
 rI pE mq 0 fun Ga =>
 (0 ≤ Ga) ∧
 (Ga < Mz) ∧
 aE A35 fun uu zN =>
 rP pE uu (zN + (Int.toNat Ga)) fun SD =>
 aE SD fun Em qq =>
 rI pE Em qq fun Gq =>
 aS (Gq == 2)
 (sT pE mq 2 (iV 0) fun vt =>
 kJ vt mq 0 fun H6 Gf Eu =>
 aa Tryz.prog 238 #[(.pointer (some ⟨b0, o0, none⟩)), (.agg #[(iV H6), (iV Gf), (iV Eu)]), (iV 0)] vt (fun Mv B5 =>
 (Mv = (.tuple #[])) ∧
 ∃ H8 : Nat, (H8 < fK) ∧
 I19 H8 [(iV (IntKind.wrap .i64 (oG + 1)))] B5) Kp)
 (∃ lU : Nat, (lU < fK) ∧
 I19 lU [(iV (IntKind.wrap .i64 (oG + 1)))] pE))
 (K (.tuple #[]) kL)))) Kp) :
 aa Tryz.prog 217 #[.pointer (some ⟨b0, o0, none⟩), .int .i64 x1, .pointer (some ⟨b2, o2, none⟩), .agg #[.int .i64 fS, .int .i64 fT, .int .i64 fU, .int .i64 fV]] M K Kp := vw [(1, .bS [0, 1, 3, 7, 0, 16, 63, 127, 255, 511, 1023, 1023, 1023, 2047, 12287, 32767] (sy [0, 1, 2, 4, 3, 5, 6, 7, 8, 9, 10, 11, 12, 13, 14, 15] .done)), (2000001, .loop [(37, .c (.int .i64))]), (9, .bS [0, 1, 3, 7, 0, 16, 63, 127, 255, 511, 1023, 2047] (sy [0, 1, 2, 4, 3, 5, 6, 7, 8, 9, 10, 11] .done))] Tryz.func217 h
theorem qE {b0 o0 : Nat} {x1 : Int} {b2 o2 : Nat} {fS : Int} {fT : Int} {fU : Int} {fV : Int} (h :
aX M (cl [(iV fS), (iV fT), (iV fU), (iV fV)] 27) fun k1 M2 =>
rI M2 k1 1 fun n3 =>
(0 ≤ n3) ∧
(n3 < 8) ∧
rI M2 b2 ((o2 + 2) + (Int.toNat n3)) fun n4 =>
aS (decide (((if (1048576 : Int) < n4 then 1048576 else n4) : Int) > 0))
 (rU M2 b0 (o0 + 5) fun n5 =>
 aa Tryz.prog 244 #[(.pointer (some ⟨b0, (o0 + 8), none⟩)), (.int .u64 (IntKind.wrap .u64 (n5 + (IntKind.wrap .u64 (if (1048576 : Int) < n4 then 1048576 else n4))))), (iV x1)] M2 (fun v6 M7 =>
 aK (some v6) .u64 fun n8 =>
 rS M7 b0 (o0 + 4) fun A9 c6 dQ =>
 ((0 : Int) ≤ x1) ∧
 ((x1 : Int) < c6) ∧
 aE A9 fun gx de =>
 rP M7 gx (de + (Int.toNat x1)) fun pn =>
 aE pn fun hU eN =>
 sT M7 hU eN (iV 3) fun lG =>
 K (.tuple #[]) lG) Kp)
 (K (.tuple #[]) M2)) :
 aa Tryz.prog 218 #[.pointer (some ⟨b0, o0, none⟩), .int .i64 x1, .pointer (some ⟨b2, o2, none⟩), .agg #[.int .i64 fS, .int .i64 fT, .int .i64 fU, .int .i64 fV]] M K Kp := vw [(1, .bS [0, 0, 2, 1, 9, 31, 63, 127, 255] (sy [0, 1, 3, 4, 2, 5, 6, 7, 8] .done)), (3, .bS [0, 1, 3, 0, 8, 24, 56, 0, 128, 504, 0, 2047] (sy [0, 1, 2, 3, 4, 5, 7, 8, 10, 6, 9, 11] .done))] Tryz.func218 h
theorem sU {b0 o0 : Nat} {x1 : Int} {b2 o2 : Nat} {fS : Int} {fT : Int} {fU : Int} {fV : Int} (h :
aX M (cl [(iV fS), (iV fT), (iV fU), (iV fV)] 27) fun k1 M2 =>
rS M2 b0 (o0 + 7) fun A3 k4 k5 =>
rI M2 k1 1 fun n6 =>
(0 ≤ n6) ∧
(n6 < k4) ∧
aE A3 fun k7 k8 =>
rP M2 k7 (k8 + (Int.toNat n6)) fun A9 =>
aa Tryz.prog 245 #[(.pointer A9), (iV x1)] M2 (fun v10 iO =>
dH (some v10) fun t12 =>
aS (!t12)
 (rI iO k1 0 fun iq =>
 rI iO k1 1 fun jX =>
 rI iO k1 2 fun iA =>
 rI iO k1 3 fun kT =>
 aa Tryz.prog 208 #[(.pointer (some ⟨b0, o0, none⟩)), (iV x1), (.agg #[(iV iq), (iV jX), (iV iA), (iV kT)])] iO (fun SJ m6 =>
 (SJ = (.tuple #[])) ∧
 K (.tuple #[]) m6) Kp)
 (K (.tuple #[]) iO)) Kp) :
 aa Tryz.prog 219 #[.pointer (some ⟨b0, o0, none⟩), .int .i64 x1, .pointer (some ⟨b2, o2, none⟩), .agg #[.int .i64 fS, .int .i64 fT, .int .i64 fU, .int .i64 fV]] M K Kp := vw [(1, .bS [0, 1, 3, 7, 0, 16, 63, 127, 0, 511, 1023] (sy [0, 1, 2, 4, 8, 3, 5, 6, 7, 9, 10] .done))] Tryz.func219 h
theorem pI {b0 o0 : Nat} {x1 : Int} {b2 o2 : Nat} {fS : Int} {fT : Int} {fU : Int} {fV : Int} (h :
aX M (cl [(iV fS), (iV fT), (iV fU), (iV fV)] 27) fun k1 M2 =>
rS M2 b0 (o0 + 7) fun A3 k4 k5 =>
rI M2 k1 1 fun n6 =>
(0 ≤ n6) ∧
(n6 < k4) ∧
aE A3 fun k7 k8 =>
rP M2 k7 (k8 + (Int.toNat n6)) fun A9 =>
aa Tryz.prog 246 #[(.pointer A9), (iV x1)] M2 (fun v10 iO =>
∃ ik iq : Int, (v10 = (.tuple #[(iV ik), (iV iq)])) ∧
aS (iq != 0)
 (Kp [{ v := (.iface 340 (iV (-3))), recovered := false }] iO)
 (aS (ik != (-1))
 (aa Tryz.prog 158 #[(.pointer (some ⟨b0, o0, none⟩)), (iV ik)] iO (fun Wh r8 =>
 (Wh = (.tuple #[])) ∧
 K (.tuple #[]) r8) Kp)
 (K (.tuple #[]) iO))) Kp) :
 aa Tryz.prog 220 #[.pointer (some ⟨b0, o0, none⟩), .int .i64 x1, .pointer (some ⟨b2, o2, none⟩), .agg #[.int .i64 fS, .int .i64 fT, .int .i64 fU, .int .i64 fV]] M K Kp := vw [(1, .bS [0, 1, 3, 7, 0, 16, 63, 127, 0, 511, 1023, 2047, 2047, 4095, 16383] (sy [0, 1, 2, 4, 8, 3, 5, 6, 7, 9, 10, 11, 12, 13, 14] .done))] Tryz.func220 h
theorem sV {b0 o0 : Nat} {x1 : Int} {b2 o2 : Nat} {fS : Int} {fT : Int} {fU : Int} {fV : Int} (h :
aX M (cl [(iV fS), (iV fT), (iV fU), (iV fV)] 27) fun k1 M2 =>
rS M2 b0 (o0 + 10) fun A3 k4 k5 =>
aS (decide ((k4 : Int) ≥ 1000))
 (Kp [{ v := (.iface 340 (iV (-6))), recovered := false }] M2)
 (rS M2 b0 (o0 + 10) fun A6 k7 k8 =>
 rI M2 k1 1 fun n9 =>
 (0 ≤ n9) ∧
 (n9 < 8) ∧
 rI M2 b2 ((o2 + 2) + (Int.toNat n9)) fun jA =>
 aX M2 (cl [(iV jA)] 2) fun dQ jP =>
 aA 53 A6 k7 k8 (some ⟨dQ, 0, none⟩) 1 1 jP (fun Fm jO =>
 az (some Fm) fun pg eN ei =>
 sT jO b0 (o0 + 10) (.slice pg eN ei) fun m6 =>
 K (.tuple #[]) m6) Kp)) :
 aa Tryz.prog 221 #[.pointer (some ⟨b0, o0, none⟩), .int .i64 x1, .pointer (some ⟨b2, o2, none⟩), .agg #[.int .i64 fS, .int .i64 fT, .int .i64 fU, .int .i64 fV]] M K Kp := vw [(3, .bS [0, 0, 2, 6, 14, 0, 0, 64, 32, 288, 992, 2016, 4064, 8190, 16383, 32767, 65535] (sy [0, 1, 2, 3, 5, 6, 8, 9, 4, 7, 10, 11, 12, 13, 14, 15, 16] .done))] Tryz.func221 h
theorem sW {b0 o0 : Nat} {x1 : Int} {b2 o2 : Nat} {fS : Int} {fT : Int} {fU : Int} {fV : Int} (h :
aX M (cl [(iV fS), (iV fT), (iV fU), (iV fV)] 27) fun k1 M2 =>
rI M2 k1 1 fun n3 =>
Kp [{ v := (.iface 340 (iV n3)), recovered := false }] M2) :
 aa Tryz.prog 222 #[.pointer (some ⟨b0, o0, none⟩), .int .i64 x1, .pointer (some ⟨b2, o2, none⟩), .agg #[.int .i64 fS, .int .i64 fT, .int .i64 fU, .int .i64 fV]] M K Kp := vw [] Tryz.func222 h
theorem we {b0 o0 : Nat} {x1 : Int} {x2 : Int} (h :
az (Mem.ld M ⟨b0, o0, none⟩) fun A1 k2 k3 =>
az (Mem.ld M ⟨b0, o0, none⟩) fun A4 k5 k6 =>
az (Mem.ld M ⟨b0, o0, none⟩) fun A7 k8 k9 =>
((0 : Int) ≤ x2) ∧
((x2 : Int) < ((k8 : Nat) : Int)) ∧
aE A7 fun c6 dQ =>
aK (Mem.ld M ⟨c6, (dQ + ((Int.toNat x2) * 3)), none⟩) .u64 fun ik =>
aK (Mem.ld M ⟨c6, ((dQ + ((Int.toNat x2) * 3)) + 1), none⟩) .u64 fun iq =>
aK (Mem.ld M ⟨c6, ((dQ + ((Int.toNat x2) * 3)) + 2), none⟩) .i64 fun jX =>
az (Mem.ld M ⟨b0, o0, none⟩) fun pg eN ei =>
((0 : Int) ≤ x1) ∧
((x1 : Int) < ((eN : Nat) : Int)) ∧
aE pg fun dJ iw =>
aK (Mem.ld M ⟨dJ, (iw + ((Int.toNat x1) * 3)), none⟩) .u64 fun fB =>
aK (Mem.ld M ⟨dJ, ((iw + ((Int.toNat x1) * 3)) + 1), none⟩) .u64 fun kD =>
aK (Mem.ld M ⟨dJ, ((iw + ((Int.toNat x1) * 3)) + 2), none⟩) .i64 fun oE =>
((0 : Int) ≤ x1) ∧
((x1 : Int) < ((k2 : Nat) : Int)) ∧
aE A1 fun iT lq =>
aP M ⟨iT, (lq + ((Int.toNat x1) * 3)), none⟩ (.int .u64 ik) fun Fq =>
aP Fq ⟨iT, ((lq + ((Int.toNat x1) * 3)) + 1), none⟩ (.int .u64 iq) fun vr =>
aP vr ⟨iT, ((lq + ((Int.toNat x1) * 3)) + 2), none⟩ (.int .i64 jX) fun w6 =>
((0 : Int) ≤ x2) ∧
((x2 : Int) < ((k5 : Nat) : Int)) ∧
aE A4 fun kF mo =>
aP w6 ⟨kF, (mo + ((Int.toNat x2) * 3)), none⟩ (.int .u64 fB) fun pe =>
aP pe ⟨kF, ((mo + ((Int.toNat x2) * 3)) + 1), none⟩ (.int .u64 kD) fun Jd =>
aP Jd ⟨kF, ((mo + ((Int.toNat x2) * 3)) + 2), none⟩ (.int .i64 oE) fun oF =>
K (.tuple #[]) oF) :
 aa Tryz.prog 154 ([.pointer (some ⟨b0, o0, none⟩), .int .i64 x1, .int .i64 x2] : List Value).toArray M K Kp :=
 bY (C := Cx) good [(0, .bS [0, 1, 3, 7, 0, 0, 32, 96, 224, 0, 0, 1024, 3072, 7168, 0, 31744, 64512, 0, 131072, 393216, 917504, 0, 4063232, 8257536, 16776703, 33553919, 67108863, 134217727] (.step 0 (.step 1 (.step 2 (.step 4 (.step 5 (.step 6 (.step 7 (.step 9 (.step 10 (.step 11 (.step 12 (.step 14 (.step 17 (.step 18 (.step 19 (.step 21 (.step 3 (.step 8 (.step 13 (.step 15 (.step 16 (.step 20 (.step 22 (.step 23 (.step 24 (.step 25 (.step 26 (.step 27 .done)))))))))))))))))))))))))))))] Tryz.func154 (by kernel_rfl) (by kernel_rfl) h
theorem wg {b0 o0 : Nat} {x1 : Int} (h :
aa Tryz.prog 186 #[(.pointer (some ⟨b0, o0, none⟩)), (iV x1)] M (fun v1 M2 =>
aK (some v1) .i64 fun n3 =>
∃ I4 : IT, (∃ k5, I4 k5 [(iV x1), (iV n3)] M2) ∧
∀ (k6 : Nat) (_ : Nat → Value) (n8 : Int) (n9 : Int) (gy : Mem), (I4 k6 [(iV n8), (iV n9)] gy) → aS (n9 != n8)
 (aa Tryz.prog 154 #[(.pointer (some ⟨b0, o0, none⟩)), (iV n8), (iV n9)] gy (fun v11 jP =>
 (v11 = (.tuple #[])) ∧
 aa Tryz.prog 186 #[(.pointer (some ⟨b0, o0, none⟩)), (iV n9)] jP (fun Fm jO =>
 aK (some Fm) .i64 fun iA =>
 ∃ eN : Nat, (eN < k6) ∧
 I4 eN [(iV n9), (iV iA)] jO) Kp) Kp)
 (K (.tuple #[]) gy)) Kp) :
 aa Tryz.prog 155 #[.pointer (some ⟨b0, o0, none⟩), .int .i64 x1] M K Kp := vw [(2000000, .loop [(1, .c (.int .i64)), (4, .c (.int .i64))])] Tryz.func155 h
theorem zm {b0 o0 : Nat} {x1 : Int} (h :
∃ I1 : Nat → List Value → Mem → Prop, (∃ k2 : Nat, I1 k2 [(.int .i64 x1)] M) ∧
∀ k3 : Nat, ∀ UW : Nat → Value, ∀ n5 : Int, ∀ M6 : Mem, (I1 k3 [(.int .i64 n5)] M6) → aS (decide ((n5 : Int) > 0))
 (((4 : Int) ≠ 0) ∧
 az (Mem.ld M6 ⟨b0, o0, none⟩) fun A7 k8 k9 =>
 ((0 : Int) ≤ n5) ∧
 ((n5 : Int) < ((k8 : Nat) : Int)) ∧
 aE A7 fun c6 dQ =>
 aK (Mem.ld M6 ⟨c6, (dQ + ((Int.toNat n5) * 3)), none⟩) .u64 fun ik =>
 aK (Mem.ld M6 ⟨c6, ((dQ + ((Int.toNat n5) * 3)) + 1), none⟩) .u64 fun iq =>
 aK (Mem.ld M6 ⟨c6, ((dQ + ((Int.toNat n5) * 3)) + 2), none⟩) .i64 fun jX =>
 az (Mem.ld M6 ⟨b0, o0, none⟩) fun pg eN ei =>
 ((0 : Int) ≤ (IntKind.wrap .i64 (Int.tdiv (IntKind.wrap .i64 (n5 - 1)) 4))) ∧
 (((IntKind.wrap .i64 (Int.tdiv (IntKind.wrap .i64 (n5 - 1)) 4)) : Int) < ((eN : Nat) : Int)) ∧
 aE pg fun dJ iw =>
 aK (Mem.ld M6 ⟨dJ, (iw + ((Int.toNat (IntKind.wrap .i64 (Int.tdiv (IntKind.wrap .i64 (n5 - 1)) 4))) * 3)), none⟩) .u64 fun fB =>
 aK (Mem.ld M6 ⟨dJ, ((iw + ((Int.toNat (IntKind.wrap .i64 (Int.tdiv (IntKind.wrap .i64 (n5 - 1)) 4))) * 3)) + 1), none⟩) .u64 fun kD =>
 aK (Mem.ld M6 ⟨dJ, ((iw + ((Int.toNat (IntKind.wrap .i64 (Int.tdiv (IntKind.wrap .i64 (n5 - 1)) 4))) * 3)) + 2), none⟩) .i64 fun oE =>
 aa Tryz.prog 187 #[(.agg #[(.int .u64 ik), (.int .u64 iq), (.int .i64 jX)]), (.agg #[(.int .u64 fB), (.int .u64 kD), (.int .i64 oE)])] M6 (fun v23 kL =>
 dH (some v23) fun t25 =>
 aS t25
  (((4 : Int) ≠ 0) ∧
  aa Tryz.prog 154 #[(.pointer (some ⟨b0, o0, none⟩)), (.int .i64 n5), (.int .i64 (IntKind.wrap .i64 (Int.tdiv (IntKind.wrap .i64 (n5 - 1)) 4)))] kL (fun v26 w6 =>
  (v26 = (.tuple #[])) ∧
  ((4 : Int) ≠ 0) ∧
  ∃ kF : Nat, (kF < k3) ∧
  I1 kF [(.int .i64 (IntKind.wrap .i64 (Int.tdiv (IntKind.wrap .i64 (n5 - 1)) 4)))] w6) Kp)
  (K (.tuple #[]) kL)) Kp)
 (K (.tuple #[]) M6)) :
 aa Tryz.prog 156 ([.pointer (some ⟨b0, o0, none⟩), .int .i64 x1] : List Value).toArray M K Kp :=
 bY (C := Cx) good [(2000000, .loop [(1, .c (.int .i64))]), (0, .bS [0, 1, 3, 7, 15, 31, 63, 7, 255, 511, 7, 1031, 3079, 7175, 7, 16391, 49159, 130055, 261127, 524287, 1048575] (.step 0 (.step 1 (.step 2 (.step 3 (.step 4 (.step 5 (.step 7 (.step 10 (.step 11 (.step 12 (.step 14 (.step 15 (.step 16 (.step 6 (.step 8 (.step 9 (.step 13 (.step 17 (.step 18 (.step 19 (.step 20 .done))))))))))))))))))))))] Tryz.func156 (by kernel_rfl) (by kernel_rfl) h
theorem uI {b0 o0 : Nat} {cT : Int} {cU : Int} {cV : Int} {eR : Int} (h :
aX M (cl [(iV cT), (iV cU), (iV cV), (iV eR)] 27) fun k1 M2 =>
K (.tuple #[]) M2) :
 aa Tryz.prog 225 #[.pointer (some ⟨b0, o0, none⟩), .agg #[.int .i64 cT, .int .i64 cU, .int .i64 cV, .int .i64 eR]] M K Kp := vw [] Tryz.func225 h
theorem nD {b0 o0 : Nat} {cT : Int} {cU : Int} {cV : Int} {eR : Int} (h :
aX M (cl [(iV cT), (iV cU), (iV cV), (iV eR)] 27) fun k1 M2 =>
rI M2 k1 1 fun n3 =>
rI M2 k1 2 fun n4 =>
(0 ≤ n3) ∧
(n3 < 8) ∧
sT M2 b0 ((o0 + 2) + (Int.toNat n3)) (iV n4) fun M5 =>
K (.tuple #[]) M5) :
 aa Tryz.prog 226 #[.pointer (some ⟨b0, o0, none⟩), .agg #[.int .i64 cT, .int .i64 cU, .int .i64 cV, .int .i64 eR]] M K Kp := vw [(1, .bS [0, 0, 2, 0, 8, 1, 33, 127, 255] (sy [0, 1, 3, 5, 6, 2, 4, 7, 8] .done))] Tryz.func226 h
theorem sX {b0 o0 : Nat} {cT : Int} {cU : Int} {cV : Int} {eR : Int} (h :
aX M (cl [(iV cT), (iV cU), (iV cV), (iV eR)] 27) fun k1 M2 =>
rI M2 k1 1 fun n3 =>
rI M2 k1 2 fun n4 =>
(0 ≤ n4) ∧
(n4 < 8) ∧
rI M2 b0 ((o0 + 2) + (Int.toNat n4)) fun n5 =>
(0 ≤ n3) ∧
(n3 < 8) ∧
sT M2 b0 ((o0 + 2) + (Int.toNat n3)) (iV n5) fun M6 =>
K (.tuple #[]) M6) :
 aa Tryz.prog 227 #[.pointer (some ⟨b0, o0, none⟩), .agg #[.int .i64 cT, .int .i64 cU, .int .i64 cV, .int .i64 eR]] M K Kp := vw [(1, .bS [0, 0, 2, 0, 0, 16, 8, 72, 248, 504, 1, 1025, 4095, 8191] (sy [0, 1, 3, 4, 6, 7, 10, 11, 2, 5, 8, 9, 12, 13] .done))] Tryz.func227 h
theorem uJ {b0 o0 : Nat} {cT : Int} {cU : Int} {cV : Int} {eR : Int} (h :
aX M (cl [(iV cT), (iV cU), (iV cV), (iV eR)] 27) fun k1 M2 =>
rI M2 k1 1 fun n3 =>
rI M2 k1 2 fun n4 =>
(0 ≤ n4) ∧
(n4 < 8) ∧
rI M2 b0 ((o0 + 2) + (Int.toNat n4)) fun n5 =>
rI M2 k1 3 fun n6 =>
(0 ≤ n6) ∧
(n6 < 8) ∧
rI M2 b0 ((o0 + 2) + (Int.toNat n6)) fun n7 =>
(0 ≤ n3) ∧
(n3 < 8) ∧
sT M2 b0 ((o0 + 2) + (Int.toNat n3)) (iV (IntKind.wrap .i64 (n5 + n7))) fun M8 =>
K (.tuple #[]) M8) :
 aa Tryz.prog 228 #[.pointer (some ⟨b0, o0, none⟩), .agg #[.int .i64 cT, .int .i64 cU, .int .i64 cV, .int .i64 eR]] M K Kp := vw [(1, .bS [0, 0, 2, 0, 0, 16, 8, 72, 248, 504, 0, 0, 2048, 1024, 9216, 31744, 64512, 131064, 1, 262145, 1048575, 2097151] (sy [0, 1, 3, 4, 6, 7, 10, 11, 13, 14, 18, 19, 2, 5, 8, 9, 12, 15, 16, 17, 20, 21] .done))] Tryz.func228 h
theorem uK {b0 o0 : Nat} {cT : Int} {cU : Int} {cV : Int} {eR : Int} (h :
aX M (cl [(iV cT), (iV cU), (iV cV), (iV eR)] 27) fun k1 M2 =>
rI M2 k1 1 fun n3 =>
rI M2 k1 2 fun n4 =>
(0 ≤ n4) ∧
(n4 < 8) ∧
rI M2 b0 ((o0 + 2) + (Int.toNat n4)) fun n5 =>
rI M2 k1 3 fun n6 =>
(0 ≤ n6) ∧
(n6 < 8) ∧
rI M2 b0 ((o0 + 2) + (Int.toNat n6)) fun n7 =>
(0 ≤ n3) ∧
(n3 < 8) ∧
sT M2 b0 ((o0 + 2) + (Int.toNat n3)) (iV (IntKind.wrap .i64 (n5 - n7))) fun M8 =>
K (.tuple #[]) M8) :
 aa Tryz.prog 229 #[.pointer (some ⟨b0, o0, none⟩), .agg #[.int .i64 cT, .int .i64 cU, .int .i64 cV, .int .i64 eR]] M K Kp := vw [(1, .bS [0, 0, 2, 0, 0, 16, 8, 72, 248, 504, 0, 0, 2048, 1024, 9216, 31744, 64512, 131064, 1, 262145, 1048575, 2097151] (sy [0, 1, 3, 4, 6, 7, 10, 11, 13, 14, 18, 19, 2, 5, 8, 9, 12, 15, 16, 17, 20, 21] .done))] Tryz.func229 h
theorem uL {b0 o0 : Nat} {cT : Int} {cU : Int} {cV : Int} {eR : Int} (h :
aX M (cl [(iV cT), (iV cU), (iV cV), (iV eR)] 27) fun k1 M2 =>
rI M2 k1 1 fun n3 =>
rI M2 k1 2 fun n4 =>
(0 ≤ n4) ∧
(n4 < 8) ∧
rI M2 b0 ((o0 + 2) + (Int.toNat n4)) fun n5 =>
rI M2 k1 3 fun n6 =>
(0 ≤ n6) ∧
(n6 < 8) ∧
rI M2 b0 ((o0 + 2) + (Int.toNat n6)) fun n7 =>
(0 ≤ n3) ∧
(n3 < 8) ∧
sT M2 b0 ((o0 + 2) + (Int.toNat n3)) (iV (IntKind.wrap .i64 (n5 * n7))) fun M8 =>
K (.tuple #[]) M8) :
 aa Tryz.prog 230 #[.pointer (some ⟨b0, o0, none⟩), .agg #[.int .i64 cT, .int .i64 cU, .int .i64 cV, .int .i64 eR]] M K Kp := vw [(1, .bS [0, 0, 2, 0, 0, 16, 8, 72, 248, 504, 0, 0, 2048, 1024, 9216, 31744, 64512, 131064, 1, 262145, 1048575, 2097151] (sy [0, 1, 3, 4, 6, 7, 10, 11, 13, 14, 18, 19, 2, 5, 8, 9, 12, 15, 16, 17, 20, 21] .done))] Tryz.func230 h
theorem sY {b0 o0 : Nat} {cT : Int} {cU : Int} {cV : Int} {eR : Int} (h :
aX M (cl [(iV cT), (iV cU), (iV cV), (iV eR)] 27) fun k1 M2 =>
rI M2 k1 2 fun n3 =>
(0 ≤ n3) ∧
(n3 < 8) ∧
rI M2 b0 ((o0 + 2) + (Int.toNat n3)) fun n4 =>
rI M2 k1 3 fun n5 =>
(0 ≤ n5) ∧
(n5 < 8) ∧
rI M2 b0 ((o0 + 2) + (Int.toNat n5)) fun n6 =>
rI M2 k1 1 fun n7 =>
(0 ≤ n7) ∧
(n7 < 8) ∧
sT M2 b0 ((o0 + 2) + (Int.toNat n7)) (iV 0) fun M8 =>
aS (decide (n4 < n6))
 (rI M8 k1 1 fun n9 =>
 (0 ≤ n9) ∧
 (n9 < 8) ∧
 sT M8 b0 ((o0 + 2) + (Int.toNat n9)) (iV 1) fun gy =>
 K (.tuple #[]) gy)
 (K (.tuple #[]) M8)) :
 aa Tryz.prog 231 #[.pointer (some ⟨b0, o0, none⟩), .agg #[.int .i64 cT, .int .i64 cU, .int .i64 cV, .int .i64 eR]] M K Kp := vw [(1, .bS [0, 0, 2, 1, 9, 31, 63, 0, 0, 256, 128, 1152, 3968, 8064, 16383, 32767] (sy [0, 1, 3, 4, 7, 8, 10, 11, 2, 5, 6, 9, 12, 13, 14, 15] .done)), (2, .bS [0, 0, 2, 1, 9, 31, 63] (sy [0, 1, 3, 4, 2, 5, 6] .done)), (4, .bS [0, 0, 2, 1, 9, 31, 63] (sy [0, 1, 3, 4, 2, 5, 6] .done))] Tryz.func231 h
theorem sZ {b0 o0 : Nat} {cT : Int} {cU : Int} {cV : Int} {eR : Int} (h :
aX M (cl [(iV cT), (iV cU), (iV cV), (iV eR)] 27) fun k1 M2 =>
rI M2 k1 1 fun n3 =>
sT M2 b0 (o0 + 1) (iV n3) fun M4 =>
K (.tuple #[]) M4) :
 aa Tryz.prog 232 #[.pointer (some ⟨b0, o0, none⟩), .agg #[.int .i64 cT, .int .i64 cU, .int .i64 cV, .int .i64 eR]] M K Kp := vw [] Tryz.func232 h
theorem pJ {b0 o0 : Nat} {cT : Int} {cU : Int} {cV : Int} {eR : Int} (h :
aX M (cl [(iV cT), (iV cU), (iV cV), (iV eR)] 27) fun k1 M2 =>
rI M2 k1 1 fun n3 =>
(0 ≤ n3) ∧
(n3 < 8) ∧
rI M2 b0 ((o0 + 2) + (Int.toNat n3)) fun n4 =>
aS (n4 != 0)
 (rI M2 k1 2 fun n5 =>
 sT M2 b0 (o0 + 1) (iV n5) fun M6 =>
 K (.tuple #[]) M6)
 (K (.tuple #[]) M2)) :
 aa Tryz.prog 233 #[.pointer (some ⟨b0, o0, none⟩), .agg #[.int .i64 cT, .int .i64 cU, .int .i64 cV, .int .i64 eR]] M K Kp := vw [(1, .bS [0, 0, 2, 1, 9, 31, 63, 127] (sy [0, 1, 3, 4, 2, 5, 6, 7] .done))] Tryz.func233 h
theorem nE {b0 o0 : Nat} {cT : Int} {cU : Int} {cV : Int} {x2 : Int} (h :
aX M (cl [(iV cT), (iV cU), (iV cV)] 280) fun k1 M2 =>
rS M2 b0 (o0 + 4) fun A3 k4 k5 =>
rI M2 k1 0 fun n6 =>
(0 ≤ n6) ∧
(n6 < k4) ∧
aE A3 fun k7 k8 =>
rP M2 k7 (k8 + (Int.toNat n6)) fun A9 =>
aE A9 fun c6 dQ =>
rS M2 c6 (dQ + 1) fun nx de eH =>
rS M2 b0 (o0 + 4) fun pg eN ei =>
rI M2 k1 0 fun jY =>
(0 ≤ jY) ∧
(jY < eN) ∧
aE pg fun iw g7 =>
rP M2 iw (g7 + (Int.toNat jY)) fun zk =>
aE zk fun gF iT =>
bM M2 gF (iT + 2) fun zl m7 nC w7 =>
(True) ∧
aa Tryz.prog 189 #[(.slice nx de eH)] M2 (fun Pn mE =>
cw (some Pn) fun zO =>
((Mem.fN mE ⟨gF, (iT + 2), none⟩ 0 4) = some [(iV zl), (iV m7), (iV nC), (iV w7)]) ∧
((Mem.ld mE ⟨iw, (g7 + (Int.toNat jY)), none⟩) = (some (.pointer zk))) ∧
eI mE k1 0 jY ∧
((Mem.ld mE ⟨b0, (o0 + 4), none⟩) = (some (.slice pg eN ei))) ∧
aE zO fun mu sF =>
aX mE xy fun pB pE =>
kI pE pB (iV zl) (iV m7) (iV nC) (iV w7) fun me =>
((Mem.fN me ⟨gF, (iT + 2), none⟩ 0 4) = some [(iV zl), (iV m7), (iV nC), (iV w7)]) ∧
((Mem.ld me ⟨iw, (g7 + (Int.toNat jY)), none⟩) = (some (.pointer zk))) ∧
eI me k1 0 jY ∧
((Mem.ld me ⟨b0, (o0 + 4), none⟩) = (some (.slice pg eN ei))) ∧
rI me pB 0 fun IP =>
aS (IP == 16)
 (rS me b0 (o0 + 3) fun V4 En Em =>
 rI me pB 1 fun Gb =>
 rI me k1 1 fun Gq =>
 ((0 : Int) ≤ (IntKind.wrap .i64 (Gb + Gq))) ∧
 (((IntKind.wrap .i64 (Gb + Gq)) : Int) < (En : Int)) ∧
 aE V4 fun Cg Ch =>
 rI me Cg ((Ch + ((Int.toNat (IntKind.wrap .i64 (Gb + Gq))) * 3)) + 2) fun Gf =>
 rI me k1 2 fun Eu =>
 (0 ≤ Gf) ∧
 (Gf < 8) ∧
 sT me mu ((sF + 2) + (Int.toNat Gf)) (iV Eu) fun AA =>
 rII AA k1 0 fun Gm Cr =>
 aa Tryz.prog 251 #[(.pointer (some ⟨b0, o0, none⟩)), (iV Gm), (iV Cr)] AA (fun v52 Je =>
 (v52 = (.tuple #[])) ∧
 rI Je k1 0 fun UZ =>
 aa Tryz.prog 158 #[(.pointer (some ⟨b0, o0, none⟩)), (iV UZ)] Je (fun V9 UM =>
 (V9 = (.tuple #[])) ∧
 K (.tuple #[]) UM) Kp) Kp)
 (rI me pB 2 fun RL =>
 rI me k1 2 fun Gd =>
 (0 ≤ RL) ∧
 (RL < 8) ∧
 rI me pB 3 fun Eo =>
 sT me mu ((sF + 2) + (Int.toNat RL)) (iV Gd) fun zj =>
 eI zj pB 3 Eo ∧
 (0 ≤ Eo) ∧
 (Eo < 8) ∧
 sT zj mu ((sF + 2) + (Int.toNat Eo)) (iV x2) fun Dh =>
 eI Dh pB 3 Eo ∧
 rI Dh k1 0 fun Oa =>
 aa Tryz.prog 158 #[(.pointer (some ⟨b0, o0, none⟩)), (iV Oa)] Dh (fun v63 PC =>
 (v63 = (.tuple #[])) ∧
 K (.tuple #[]) PC) Kp)) Kp) :
 aa Tryz.prog 238 #[.pointer (some ⟨b0, o0, none⟩), .agg #[.int .i64 cT, .int .i64 cU, .int .i64 cV], .int .i64 x2] M K Kp := vw [(1, .bS [0, 1, 3, 7, 0, 16, 63, 127, 255, 511, 1023, 0, 2048, 6144, 14336, 0, 32768, 129024, 260096, 522240, 1046528, 2095104, 4192256, 8386560, 16775168, 0, 41943039, 134217727] (sy [0, 1, 2, 4, 11, 12, 13, 15, 14, 16, 17, 18, 19, 20, 21] (.cY 3 (.cY 5 (sy [6] (.cY 7 (sy [8, 9] (.cY 10 (.late 22 (sy [23, 24, 25, 26, 27] .done)))))))))), (3, .bS [0, 0, 2, 6, 14, 30, 0, 64, 0, 256, 960, 2046, 4094, 8190, 0, 16384, 1, 131071, 262143] (sy [0, 1, 2, 3, 4, 6, 8, 14, 16, 5, 7, 9, 10, 11, 12, 13, 15, 17, 18] .done)), (5, .bS [0, 0, 2, 0, 0, 16, 0, 64, 0, 1, 711, 1735, 8, 8191, 16383] (sy [0, 1, 3, 4, 6, 8, 9, 12, 2, 7, 10] (.cY 5 (sy [11, 13, 14] .done))))] Tryz.func238 h
theorem s9 {b0 o0 : Nat} {cT : Int} {cU : Int} {cV : Int} (h :
aX M (cl [(iV cT), (iV cU), (iV cV)] 280) fun k1 M2 =>
rS M2 b0 (o0 + 4) fun A3 k4 k5 =>
rI M2 k1 0 fun n6 =>
(0 ≤ n6) ∧
(n6 < k4) ∧
aE A3 fun k7 k8 =>
rP M2 k7 (k8 + (Int.toNat n6)) fun A9 =>
aE A9 fun c6 dQ =>
rI M2 c6 (dQ + 2) fun ik =>
aS (ik == 16)
 (rI M2 k1 0 fun iq =>
 rI M2 k1 1 fun jX =>
 aa Tryz.prog 251 #[(.pointer (some ⟨b0, o0, none⟩)), (iV iq), (iV jX)] M2 (fun ur dZ =>
 (ur = (.tuple #[])) ∧
 rI dZ k1 0 fun iB =>
 aa Tryz.prog 158 #[(.pointer (some ⟨b0, o0, none⟩)), (iV iB)] dZ (fun Ci jx =>
 (Ci = (.tuple #[])) ∧
 K (.tuple #[]) jx) Kp) Kp)
 (rI M2 k1 0 fun fB =>
 aa Tryz.prog 158 #[(.pointer (some ⟨b0, o0, none⟩)), (iV fB)] M2 (fun Wi dn =>
 (Wi = (.tuple #[])) ∧
 K (.tuple #[]) dn) Kp)) :
 aa Tryz.prog 240 #[.pointer (some ⟨b0, o0, none⟩), .agg #[.int .i64 cT, .int .i64 cU, .int .i64 cV]] M K Kp := vw [(1, .bS [0, 1, 3, 7, 0, 16, 63, 127, 255, 511, 1023, 2047, 4095] (sy [0, 1, 2, 4, 3, 5, 6, 7, 8, 9, 10, 11, 12] .done))] Tryz.func240 h
theorem ta {B0 : Option Addr} {m0 c0 : Nat} {x1 : Int} {x2 : Int} {x3 : Int} (h :
aS (decide ((m0 : Int) ≥ 16))
 (K (.tuple #[(.slice B0 m0 c0), (.bool false)]) M)
 (((0 : Int) ≤ m0) ∧
 ((m0 : Int) ≤ c0) ∧
 ((0 : Int) ≤ m0) ∧
 ((m0 : Int) ≤ m0) ∧
 ((0 : Int) ≤ 0) ∧
 ((0 : Int) ≤ m0) ∧
 aX M (cl [(iV x1), (iV 0), (iV x2), (iV 0), (iV 0), (iV 0), (iV 0), (iV 0), (iV 0), (iV 0), (iV x3)] 275) fun k1 M2 =>
 be Tryz.prog (Go.Builtin.append_ #[226, 226] 226 #[(.slice (kP B0 0 (Int.toNat (m0 : Int)) 11) ((Int.toNat (m0 : Int)) - 0) ((Int.toNat (m0 : Int)) - 0)), (.slice (some ⟨k1, 0, none⟩) 1 1)]) M2 (fun v3 M4 =>
 az (some v3) fun A5 k6 k7 =>
 K (.tuple #[(.slice A5 k6 k7), (.bool true)]) M4) Kp)) :
 aa Tryz.prog 241 #[.slice B0 m0 c0, .int .i64 x1, .int .i64 x2, .int .i64 x3] M K Kp := vw [] Tryz.func241 h
theorem pK {B0 : Option Addr} {m0 c0 : Nat} {x1 : Int} (h :
aS (decide ((m0 : Int) < 2))
 (K (.tuple #[(.slice none 0 0), (.bool false)]) M)
 (aX M (cl [] 275) fun k1 M2 =>
 ((0 : Int) ≤ c0) ∧
 ((c0 : Int) ≤ c0) ∧
 ((0 : Int) ≤ (IntKind.wrap .i64 ((m0 : Int) - 1))) ∧
 (((IntKind.wrap .i64 ((m0 : Int) - 1)) : Int) ≤ (c0 : Int)) ∧
 ((0 : Int) ≤ 0) ∧
 ((0 : Int) ≤ (IntKind.wrap .i64 ((m0 : Int) - 1))) ∧
 be Tryz.prog (Go.Builtin.append_ #[226, 226] 226 #[(.slice (some ⟨k1, 0, none⟩) 0 0), (.slice (kP B0 0 (Int.toNat (c0 : Int)) 11) ((Int.toNat (IntKind.wrap .i64 ((m0 : Int) - 1))) - 0) ((Int.toNat (c0 : Int)) - 0))]) M2 (fun v3 M4 =>
 az (some v3) fun A5 k6 k7 =>
 aa Tryz.prog 189 #[(.slice A5 k6 k7)] M4 (fun v8 M9 =>
 cw (some v8) fun yG =>
 aE yG fun dQ gx =>
 aa Tryz.prog 189 #[(.slice B0 m0 c0)] M9 (fun Fm jO =>
 cw (some Fm) fun pg =>
 aE pg fun eN ei =>
 rI jO eN (ei + 10) fun jY =>
 (0 ≤ jY) ∧
 (jY < 8) ∧
 sT jO dQ ((gx + 2) + (Int.toNat jY)) (iV x1) fun jx =>
 K (.tuple #[(.slice A5 k6 k7), (.bool true)]) jx) Kp) Kp) Kp)) :
 aa Tryz.prog 242 #[.slice B0 m0 c0, .int .i64 x1] M K Kp := vw [(4, .bS [0, 1, 0, 7, 15, 31, 63, 0, 3, 259, 1023, 2047] (sy [0, 2, 7, 1, 8, 9, 3, 4, 5, 6, 10, 11] .done))] Tryz.func242 h
theorem wh {b0 o0 : Nat} {x1 : Int} {x2 : Int} (h :
az (Mem.ld M ⟨b0, o0, none⟩) fun A1 k2 k3 =>
aK (Mem.ld M ⟨b0, (o0 + 1), none⟩) .u64 fun n4 =>
aX M (.cells #[(.int .u64 x1), (.int .u64 n4), (.int .i64 x2)] 203 (0, 0)) fun k5 M6 =>
be Tryz.prog (Go.Builtin.append_ #[46, 46] 46 #[(.slice A1 k2 k3), (.slice (some ⟨k5, 0, none⟩) 1 1)]) M6 (fun v7 M8 =>
az (some v7) fun A9 c6 dQ =>
aP M8 ⟨b0, o0, none⟩ (.slice A9 c6 dQ) fun jP =>
aK (Mem.ld jP ⟨b0, (o0 + 1), none⟩) .u64 fun iq =>
aP jP ⟨b0, (o0 + 1), none⟩ (.int .u64 (IntKind.wrap .u64 (iq + 1))) fun jO =>
az (Mem.ld jO ⟨b0, o0, none⟩) fun pg eN ei =>
aa Tryz.prog 156 #[(.pointer (some ⟨b0, o0, none⟩)), (.int .i64 (IntKind.wrap .i64 (((eN : Nat) : Int) - 1)))] jO (fun Ci jx =>
(Ci = (.tuple #[])) ∧
aK (Mem.ld jx ⟨b0, (o0 + 1), none⟩) .u64 fun fB =>
K (.int .u64 (IntKind.wrap .u64 (fB - 1))) jx) Kp) Kp) :
 aa Tryz.prog 244 ([.pointer (some ⟨b0, o0, none⟩), .int .u64 x1, .int .i64 x2] : List Value).toArray M K Kp :=
 bY (C := Cx) good [(1, .bS [0, 0, 2, 6, 14, 0, 0, 64, 192, 448, 0, 2016, 4064, 8190, 16383, 32767, 65535] (.step 0 (.step 1 (.step 2 (.step 3 (.step 5 (.step 6 (.step 7 (.step 8 (.step 10 (.step 4 (.step 9 (.step 11 (.step 12 (.step 13 (.step 14 (.step 15 (.step 16 .done))))))))))))))))))] Tryz.func244 (by kernel_rfl) (by kernel_rfl) h
theorem uM {b0 o0 : Nat} {x1 : Int} (h :
rI M b0 o0 fun n1 =>
aS (n1 != (-1))
 (rS M b0 (o0 + 1) fun A2 k3 k4 =>
 aX M (cl [(iV x1)] 3) fun k5 M6 =>
 aA 36 A2 k3 k4 (some ⟨k5, 0, none⟩) 1 1 M6 (fun v7 M8 =>
 az (some v7) fun A9 c6 dQ =>
 sT M8 b0 (o0 + 1) (.slice A9 c6 dQ) fun jP =>
 K (.bool false) jP) Kp)
 (sT M b0 o0 (iV x1) fun jy =>
 K (.bool true) jy)) :
 aa Tryz.prog 245 #[.pointer (some ⟨b0, o0, none⟩), .int .i64 x1] M K Kp := vw [] Tryz.func245 h
theorem uN {b0 o0 : Nat} {x1 : Int} (h :
rI M b0 o0 fun n1 =>
aS (n1 == (-1))
 (K (.tuple #[(iV (-1)), (iV 5)]) M)
 (rI M b0 o0 fun n2 =>
 aS (n2 != x1)
 (K (.tuple #[(iV (-1)), (iV 5)]) M)
 (sT M b0 o0 (iV (-1)) fun M3 =>
 rS M3 b0 (o0 + 1) fun A4 k5 k6 =>
 aS (decide ((k5 : Int) > 0))
 (rS M3 b0 (o0 + 1) fun A7 k8 k9 =>
 ((0 : Int) ≤ 0) ∧
 ((0 : Int) < k8) ∧
 aE A7 fun c6 dQ =>
 rI M3 c6 (dQ + 0) fun ik =>
 sT M3 b0 o0 (iV ik) fun jy =>
 aX jy (cl [] 3) fun eH r8 =>
 rS r8 b0 (o0 + 1) fun K0 ei dJ =>
 ((0 : Int) ≤ dJ) ∧
 ((dJ : Int) ≤ dJ) ∧
 ((0 : Int) ≤ ei) ∧
 ((ei : Int) ≤ dJ) ∧
 ((0 : Int) ≤ 1) ∧
 ((1 : Int) ≤ ei) ∧
 be Tryz.prog (Go.Builtin.append_ #[36, 36] 36 #[(.slice (some ⟨eH, 0, none⟩) 0 0), (.slice (kP K0 1 (Int.toNat (dJ : Int)) 1) ((Int.toNat (ei : Int)) - 1) ((Int.toNat (dJ : Int)) - 1))]) r8 (fun Jb mb =>
 az (some Jb) fun zk gF iT =>
 sT mb b0 (o0 + 1) (.slice zk gF iT) fun kL =>
 rI kL b0 o0 fun m7 =>
 K (.tuple #[(iV m7), (iV 0)]) kL) Kp)
 (rI M3 b0 o0 fun nC =>
 K (.tuple #[(iV nC), (iV 0)]) M3)))) :
 aa Tryz.prog 246 #[.pointer (some ⟨b0, o0, none⟩), .int .i64 x1] M K Kp := vw [] Tryz.func246 h
theorem uO {b0 o0 : Nat} {x1 : Int} (h :
∃ I1 : Nat → List Value → Mem → Prop, (∃ k2 : Nat, I1 k2 [(.int .i64 x1), (.int .i64 (IntKind.wrap .i64 ((IntKind.wrap .i64 (4 * x1)) + 1)))] M) ∧
∀ k3 : Nat, ∀ UW : Nat → Value, ∀ n5 : Int, ∀ n6 : Int, ∀ M7 : Mem, (I1 k3 [(.int .i64 n5), (.int .i64 n6)] M7) → aS (decide ((n6 : Int) ≤ (IntKind.wrap .i64 ((IntKind.wrap .i64 (4 * x1)) + 4))))
 (az (Mem.ld M7 ⟨b0, o0, none⟩) fun A8 k9 c6 =>
 aS (decide ((n6 : Int) < ((k9 : Nat) : Int)))
  (az (Mem.ld M7 ⟨b0, o0, none⟩) fun Jc gx de =>
  ((0 : Int) ≤ n6) ∧
  ((n6 : Int) < ((gx : Nat) : Int)) ∧
  aE Jc fun eH hU =>
  aK (Mem.ld M7 ⟨eH, (hU + ((Int.toNat n6) * 3)), none⟩) .u64 fun kT =>
  aK (Mem.ld M7 ⟨eH, ((hU + ((Int.toNat n6) * 3)) + 1), none⟩) .u64 fun iB =>
  aK (Mem.ld M7 ⟨eH, ((hU + ((Int.toNat n6) * 3)) + 2), none⟩) .i64 fun jY =>
  az (Mem.ld M7 ⟨b0, o0, none⟩) fun yH g7 fK =>
  ((0 : Int) ≤ n5) ∧
  ((n5 : Int) < ((g7 : Nat) : Int)) ∧
  aE yH fun gF iT =>
  aK (Mem.ld M7 ⟨gF, (iT + ((Int.toNat n5) * 3)), none⟩) .u64 fun zl =>
  aK (Mem.ld M7 ⟨gF, ((iT + ((Int.toNat n5) * 3)) + 1), none⟩) .u64 fun m7 =>
  aK (Mem.ld M7 ⟨gF, ((iT + ((Int.toNat n5) * 3)) + 2), none⟩) .i64 fun nC =>
  aa Tryz.prog 187 #[(.agg #[(.int .u64 kT), (.int .u64 iB), (.int .i64 jY)]), (.agg #[(.int .u64 zl), (.int .u64 m7), (.int .i64 nC)])] M7 (fun IW w4 =>
  dH (some IW) fun t29 =>
  aS t29
   (∃ mq : Nat, (mq < k3) ∧
   I1 mq [(.int .i64 n6), (.int .i64 (IntKind.wrap .i64 (n6 + 1)))] w4)
   (∃ mu : Nat, (mu < k3) ∧
   I1 mu [(.int .i64 n5), (.int .i64 (IntKind.wrap .i64 (n6 + 1)))] w4)) Kp)
  (K (.int .i64 n5) M7))
 (K (.int .i64 n5) M7)) :
 aa Tryz.prog 186 ([.pointer (some ⟨b0, o0, none⟩), .int .i64 x1] : List Value).toArray M K Kp :=
 bY (C := Cx) good [(2000000, .loop [(5, .c (.int .i64)), (6, .c (.int .i64))]), (5, .bS [0, 1, 3, 7, 0, 31, 63, 0, 128, 384, 896, 0, 3968, 8064, 16383] (.step 0 (.step 1 (.step 2 (.step 4 (.step 7 (.step 8 (.step 9 (.step 11 (.step 3 (.step 5 (.step 6 (.step 10 (.step 12 (.step 13 (.step 14 .done))))))))))))))))] Tryz.func186 (by kernel_rfl) (by kernel_rfl) h
theorem AM {nA : Int} {AE : Int} {fR : Int} {cT : Int} {cU : Int} {cV : Int} (h :
aX M (cl [(.int .u64 nA), (.int .u64 AE), (iV fR)] 203) fun k1 M2 =>
aX M2 (cl [(.int .u64 cT), (.int .u64 cU), (iV cV)] 203) fun k3 M4 =>
rU M4 k1 0 fun n5 =>
rU M4 k3 0 fun n6 =>
aS (decide (n5 < n6))
 (K (.bool true) M4)
 (rU M4 k1 0 fun n7 =>
 rU M4 k3 0 fun n8 =>
 aS (n7 == n8)
 (rU M4 k1 1 fun n9 =>
 rU M4 k3 1 fun jA =>
 K (.bool (decide (n9 < jA))) M4)
 (K (.bool false) M4))) :
 aa Tryz.prog 187 #[.agg #[.int .u64 nA, .int .u64 AE, .int .i64 fR], .agg #[.int .u64 cT, .int .u64 cU, .int .i64 cV]] M K Kp := vw [] Tryz.func187 h
theorem pL {b0 o0 : Nat} {x1 : Int} {x2 : Int} (h :
rS M b0 (o0 + 4) fun A1 k2 k3 =>
((0 : Int) ≤ x1) ∧
((x1 : Int) < k2) ∧
aE A1 fun k4 k5 =>
rP M k4 (k5 + (Int.toNat x1)) fun A6 =>
aE A6 fun k7 k8 =>
bM M k7 (k8 + 2) fun n9 jA eD ik =>
aX M xy fun de jO =>
kI jO de (iV n9) (iV jA) (iV eD) (iV ik) fun m6 =>
rS m6 b0 (o0 + 4) fun yH g7 fK =>
((0 : Int) ≤ x1) ∧
((x1 : Int) < g7) ∧
aE yH fun gF iT =>
rP m6 gF (iT + (Int.toNat x1)) fun ze =>
aE ze fun nZ jW =>
rS m6 nZ (jW + 1) fun RJ kF mo =>
rI m6 de 3 fun Dl =>
aa Tryz.prog 189 #[(.slice RJ kF mo)] m6 (fun V6 oF =>
cw (some V6) fun Ge =>
eI oF de 3 Dl ∧
aE Ge fun vS zg =>
(0 ≤ Dl) ∧
(Dl < 8) ∧
sT oF vS ((zg + 2) + (Int.toNat Dl)) (iV x2) fun Cj =>
eI Cj de 3 Dl ∧
rS Cj b0 (o0 + 6) fun H9 ia uu =>
aa Tryz.prog 252 #[(iV x1), (.slice H9 ia uu)] Cj (fun Es uB =>
(Es = (.tuple #[])) ∧
K (.tuple #[]) uB) Kp) Kp) :
 aa Tryz.prog 251 #[.pointer (some ⟨b0, o0, none⟩), .int .i64 x1, .int .i64 x2] M K Kp := vw [(1, .bS [0, 1, 3, 7, 0, 31, 63, 127, 255, 511, 1023, 0, 2048, 0, 2047, 18431, 65535, 131071] (sy [0, 1, 2, 4, 11, 13, 3, 5, 6, 7, 8, 9] (.cY 12 (sy [10, 14, 15, 16, 17] .done))))] Tryz.func251 h
end Go.Proofs
namespace Go.Proofs
open Go.AF
set_option maxRecDepth 100000
theorem Ew {jZ : Option Addr} {j0 j5 : Nat} {jb : Option Addr} {jc jd : Nat} {fR : Int} {j6 : Option Addr} {j7 j8 : Nat} {M : Mem} {K : Value → Mem → Prop} {Kp : List PanicEntry → Mem → Prop} (h :
aX M (cl [(.slice jZ j0 j5), (.slice jb jc jd), (iV fR), (.slice j6 j7 j8)] 39) fun k1 M2 =>
pb M2 k1 0 fun A3 k4 k5 A6 k7 k8 n9 yG dQ gx =>
aa Tryz.prog 112 #[(iV 0), (iV 0)] M2 (fun Fm jO =>
az (some Fm) fun pg eN ei =>
((Mem.fN jO ⟨k1, 0, none⟩ 0 4) = some [(.slice A3 k4 k5), (.slice A6 k7 k8), (iV n9), (.slice yG dQ gx)]) ∧
aX jO (cl [(iV 1), (.slice pg eN ei), (iV 0), (iV 0), (iV 0), (iV 0)] 229) fun dJ jx =>
aX jx (cl [(.pointer (some ⟨dJ, 0, none⟩))] 224) fun g7 jC =>
aX jC (cl [(.slice A3 k4 k5), (.slice A6 k7 k8), (iV n9), (.slice yG dQ gx), (.slice (some ⟨g7, 0, none⟩) 1 1), (.int .u64 0), (.slice none 0 0), (.slice none 0 0), (.slice none 0 0), (.int .u64 0), (.slice none 0 0), (iV 0), (iV 0), (.slice none 0 0), .nilFunc] 161) fun gF gB =>
rS gB k1 1 fun ze nZ jW =>
∃ Wj : IT, (∃ kF, Wj kF [(iV 0)] gB) ∧
∀ (mo : Nat) (_ : Nat → Value) (vR : Int) (oF : Mem), (Wj mo [(iV vR)] oF) → aS (decide (vR < nZ))
 ((0 ≤ vR) ∧
 (vR < nZ) ∧
 aE ze fun pB vS =>
 rI oF pB (vS + (Int.toNat vR)) fun KY =>
 ∃ J36 : List Value → Mem → Prop, ((rS oF gF 6 fun H9 ia uu =>
 aa Tryz.prog 113 #[(iV KY)] oF (fun Es uB =>
 cw (some Es) fun Ep =>
 aX uB (cl [(.pointer Ep)] 230) fun qq Cs =>
 aA 156 H9 ia uu (some ⟨qq, 0, none⟩) 1 1 Cs (fun v45 Ia =>
 az (some v45) fun SK Dm Fs =>
 sT Ia gF 6 (.slice SK Dm Fs) fun B5 =>
 J36 [] B5) Kp) Kp) ∧
 (aa Tryz.prog 113 #[(iV KY)] oF (fun v51 M52 =>
 cw (some v51) fun A53 =>
 rS M52 gF 6 fun A54 k55 Ob =>
 aX M52 (cl [(.pointer A53)] 230) fun xF U0 =>
 aA 156 A54 k55 Ob (some ⟨xF, 0, none⟩) 1 1 U0 (fun v59 zj =>
 az (some v59) fun Wl SL N9 =>
 sT zj gF 6 (.slice Wl SL N9) fun PC =>
 J36 [] PC) Kp) Kp) ∧
 True) ∧
 ∀ junk65 : Nat → Value, ∀ UY : Mem, (J36 [] UY) → ∃ xd : Nat, (xd < mo) ∧
 Wj xd [(iV (IntKind.wrap .i64 (vR + 1)))] UY)
 (rI oF k1 2 fun Pu =>
 ∃ I69 : IT, (∃ zn, I69 zn [(iV 0)] oF) ∧
 ∀ (Gr : Nat) (_ : Nat → Value) (UP : Int) (Gp : Mem), (I69 Gr [(iV UP)] Gp) → aS (decide (UP < Pu))
 (∃ J75 : List Value → Mem → Prop, ((rS Gp gF 7 fun A76 SM Oc =>
 aa Tryz.prog 114 #[] Gp (fun v79 Ey =>
 cw (some v79) fun Wm =>
 aX Ey (cl [(.pointer Wm)] 232) fun Jf Ib =>
 aA 157 A76 SM Oc (some ⟨Jf, 0, none⟩) 1 1 Ib (fun v84 M85 =>
 az (some v84) fun A86 RM MG =>
 sT M85 gF 7 (.slice A86 RM MG) fun Gs =>
 J75 [] Gs) Kp) Kp) ∧
 (aa Tryz.prog 114 #[] Gp (fun PD mh =>
 cw (some PD) fun SN =>
 rS mh gF 7 fun A93 SO k95 =>
 aX mh (cl [(.pointer SN)] 232) fun U1 K2 =>
 aA 157 A93 SO k95 (some ⟨U1, 0, none⟩) 1 1 K2 (fun v98 Wn =>
 az (some v98) fun A100 Wo Jg =>
 sT Wn gF 7 (.slice A100 Wo Jg) fun Ez =>
 J75 [] Ez) Kp) Kp) ∧
 True) ∧
 ∀ junk104 : Nat → Value, ∀ SP : Mem, (J75 [] SP) → ∃ wj : Nat, (wj < Gr) ∧
 I69 wj [(iV (IntKind.wrap .i64 (UP + 1)))] SP)
 (K (.pointer (some ⟨gF, 0, none⟩)) Gp))) Kp) :
 aa Tryz.prog 56 #[.agg #[.slice jZ j0 j5, .slice jb jc jd, .int .i64 fR, .slice j6 j7 j8]] M K Kp := vw [(1, .bS [0, 0, 2, 6, 14, 31, 63, 127] (.cY 0 (sy [1, 2, 3, 4, 5, 6, 7] .done))), (2000000, .loop [(16, .c (.int .i64))]), (5, .FX [0, 0, 2, 6, 14, 0, 32, 96, 254, 511, 1023, 2047] (sy [0, 1, 2, 3, 5] (.fork 4 (sy [6, 7, 8, 9, 10, 11] .done) (.fork 6 (sy [4, 7, 8, 9, 10, 11] .done) .dead))) []), (2000002, .loop [(34, .c (.int .i64))]), (9, .FX [0, 0, 2, 6, 14, 0, 32, 126, 255, 511, 1023] (sy [0, 1, 2, 3] (.fork 4 (sy [5, 6, 7, 8, 9, 10] .done) (.fork 5 (sy [4, 6, 7, 8, 9, 10] .done) .dead))) [])] Tryz.func56 h
theorem kV {b0 o0 : Nat} {x1 : Int} {u2 : Value} {M : Mem} {K : Value → Mem → Prop} {Kp : List PanicEntry → Mem → Prop} (h :
aX M (.cells #[(.bool false), (.slice none 0 0)] 250 (0, 0)) fun k1 M2 =>
aS (decide ((x1 : Int) < 0))
 (aP M2 ⟨k1, 0, none⟩ (.bool false) fun M3 =>
 aP M3 ⟨k1, (0 + 1), none⟩ (.slice none 0 0) fun M4 =>
 dH (Mem.ld M4 ⟨k1, 0, none⟩) fun t5 =>
 az (Mem.ld M4 ⟨k1, (0 + 1), none⟩) fun A6 k7 k8 =>
 K (.agg #[(.bool t5), (.slice A6 k7 k8)]) M4)
 (az (Mem.ld M2 ⟨b0, (o0 + 4), none⟩) fun A9 c6 dQ =>
 aS (decide ((x1 : Int) ≥ ((c6 : Nat) : Int)))
  (aP M2 ⟨k1, 0, none⟩ (.bool false) fun jP =>
  aP jP ⟨k1, (0 + 1), none⟩ (.slice none 0 0) fun jy =>
  dH (Mem.ld jy ⟨k1, 0, none⟩) fun t14 =>
  az (Mem.ld jy ⟨k1, (0 + 1), none⟩) fun pg eN ei =>
  K (.agg #[(.bool t14), (.slice pg eN ei)]) jy)
  (aK (Mem.ld M2 ⟨b0, (o0 + 11), none⟩) .i64 fun jY =>
  aS (jY != 0)
   (aP M2 ⟨k1, 0, none⟩ (.bool false) fun jx =>
   aP jx ⟨k1, (0 + 1), none⟩ (.slice none 0 0) fun mb =>
   dH (Mem.ld mb ⟨k1, 0, none⟩) fun t21 =>
   az (Mem.ld mb ⟨k1, (0 + 1), none⟩) fun MD iT lq =>
   K (.agg #[(.bool t21), (.slice MD iT lq)]) mb)
   (az (Mem.ld M2 ⟨b0, (o0 + 4), none⟩) fun Mw jW nw =>
   ((0 : Int) ≤ x1) ∧
   ((x1 : Int) < ((jW : Nat) : Int)) ∧
   aE Mw fun kF mo =>
   cw (Mem.ld M2 ⟨kF, (mo + (Int.toNat x1)), none⟩) fun zO =>
   aE zO fun mu sF =>
   aK (Mem.ld M2 ⟨mu, sF, none⟩) .i64 fun sG =>
   aS (sG != 1)
    (aP M2 ⟨k1, 0, none⟩ (.bool false) fun pE =>
    aP pE ⟨k1, (0 + 1), none⟩ (.slice none 0 0) fun pM =>
    dH (Mem.ld pM ⟨k1, 0, none⟩) fun t36 =>
    az (Mem.ld pM ⟨k1, (0 + 1), none⟩) fun H9 ia uu =>
    K (.agg #[(.bool t36), (.slice H9 ia uu)]) pM)
    (aP M2 ⟨b0, (o0 + 13), none⟩ (.slice none 0 0) fun Wf =>
    CS u2 <|
    aP Wf ⟨b0, (o0 + 14), none⟩ u2 fun uB =>
    aa Tryz.prog 159 #[(.pointer (some ⟨b0, o0, none⟩)), (.int .i64 x1)] uB (fun v42 zP =>
    dH (some v42) fun t44 =>
    aS (!t44)
     (aK (Mem.ld zP ⟨b0, (o0 + 11), none⟩) .i64 fun B6 =>
     aS (B6 == 0)
      (az (Mem.ld zP ⟨b0, (o0 + 4), none⟩) fun A46 KU Dm =>
      ((0 : Int) ≤ x1) ∧
      ((x1 : Int) < ((KU : Nat) : Int)) ∧
      aE A46 fun Fs zi =>
      cw (Mem.ld zP ⟨Fs, (zi + (Int.toNat x1)), none⟩) fun V5 =>
      aE V5 fun lU rX =>
      aK (Mem.ld zP ⟨lU, rX, none⟩) .i64 fun UZ =>
      az (Mem.ld zP ⟨b0, (o0 + 13), none⟩) fun Wp Ob xF =>
      aP zP ⟨k1, 0, none⟩ (.bool (UZ == 1)) fun U0 =>
      aP U0 ⟨k1, (0 + 1), none⟩ (.slice Wp Ob xF) fun B7 =>
      dH (Mem.ld B7 ⟨k1, 0, none⟩) fun t60 =>
      az (Mem.ld B7 ⟨k1, (0 + 1), none⟩) fun Wl SL N9 =>
      K (.agg #[(.bool t60), (.slice Wl SL N9)]) B7)
      (az (Mem.ld zP ⟨b0, (o0 + 13), none⟩) fun ZC Jh Gt =>
      aP zP ⟨k1, 0, none⟩ (.bool false) fun ZD =>
      aP ZD ⟨k1, (0 + 1), none⟩ (.slice ZC Jh Gt) fun Wq =>
      dH (Mem.ld Wq ⟨k1, 0, none⟩) fun t69 =>
      az (Mem.ld Wq ⟨k1, (0 + 1), none⟩) fun ZE Gr Ji =>
      K (.agg #[(.bool t69), (.slice ZE Gr Ji)]) Wq))
     (az (Mem.ld zP ⟨b0, (o0 + 13), none⟩) fun A73 U2 k75 =>
     aP zP ⟨k1, 0, none⟩ (.bool false) fun M76 =>
     aP M76 ⟨k1, (0 + 1), none⟩ (.slice A73 U2 k75) fun SQ =>
     dH (Mem.ld SQ ⟨k1, 0, none⟩) fun t78 =>
     az (Mem.ld SQ ⟨k1, (0 + 1), none⟩) fun RN Ic RO =>
     K (.agg #[(.bool t78), (.slice RN Ic RO)]) SQ)) Kp))))) :
 aa Tryz.prog 121 ([.pointer (some ⟨b0, o0, none⟩), .int .i64 x1, u2] : List Value).toArray M K Kp :=
 bY (C := Cx) good [(5, .bS [0, 1, 3, 7, 15, 31, 63, 127, 255, 511, 1023, 2047, 4095, 8191, 1023, 32767, 65535, 131071, 262143, 524287, 1048575, 2097151, 0, 4194304, 12582912, 29360128, 67108863, 134217727] (.step 0 (.step 1 (.step 2 (.step 3 (.step 4 (.step 5 (.step 22 (.step 23 (.step 24 (.step 6 (.step 7 (.step 8 (.step 9 (.step 10 (.step 11 (.step 12 (.step 14 (.step 13 (.step 15 (.step 16 (.step 17 (.step 18 (.step 19 (.step 20 (.step 21 (.step 25 (.step 26 (.step 27 .done)))))))))))))))))))))))))))))] Tryz.func121 (by kernel_rfl) (by kernel_rfl) h
variable {M : Mem} {K : Value → Mem → Prop} {Kp : List PanicEntry → Mem → Prop}
theorem qF {b0 o0 : Nat} (h :
aK (Mem.ld M ⟨b0, (o0 + 11), none⟩) .i64 fun n1 =>
aS (n1 != 0)
 (K (.bool false) M)
 (az (Mem.ld M ⟨b0, (o0 + 4), none⟩) fun A2 k3 k4 =>
 ∃ I5 : Nat → List Value → Mem → Prop, (∃ k6 : Nat, I5 k6 [(.int .i64 0)] M) ∧
 ∀ k7 : Nat, ∀ junk8 : Nat → Value, ∀ n9 : Int, ∀ gy : Mem, (I5 k7 [(.int .i64 n9)] gy) → aS (decide ((n9 : Int) < ((k3 : Nat) : Int)))
  (((0 : Int) ≤ n9) ∧
  ((n9 : Int) < ((k3 : Nat) : Int)) ∧
  aE A2 fun dQ gx =>
  cw (Mem.ld gy ⟨dQ, (gx + (Int.toNat n9)), none⟩) fun Fp =>
  aE Fp fun eH hU =>
  aK (Mem.ld gy ⟨eH, hU, none⟩) .i64 fun kT =>
  aS (kT == 1)
   (K (.bool false) gy)
   (aE Fp fun ei dJ =>
   aK (Mem.ld gy ⟨ei, dJ, none⟩) .i64 fun rY =>
   aS (rY == 3)
    (K (.bool false) gy)
    (∃ g7 : Nat, (g7 < k7) ∧
    I5 g7 [(.int .i64 (IntKind.wrap .i64 (n9 + 1)))] gy)))
  (K (.bool true) gy))) :
 aa Tryz.prog 65 ([.pointer (some ⟨b0, o0, none⟩)] : List Value).toArray M K Kp :=
 bY (C := Cx) good [(2000000, .loop [(15, .c (.int .i64))])] Tryz.func65 (by kernel_rfl) (by kernel_rfl) h
theorem qG {b0 o0 : Nat} (h :
rU M b0 (o0 + 5) fun n1 =>
K (.int .u64 n1) M) :
 aa Tryz.prog 86 #[.pointer (some ⟨b0, o0, none⟩)] M K Kp := vw [] Tryz.func86 h
theorem td {b0 o0 : Nat} {x1 : Int} (h :
aS (decide ((x1 : Int) < 0))
 (K (.tuple #[(.int .i64 (-1)), (.slice none 0 0)]) M)
 (az (Mem.ld M ⟨b0, (o0 + 7), none⟩) fun A1 k2 k3 =>
 aS (decide ((x1 : Int) ≥ ((k2 : Nat) : Int)))
  (K (.tuple #[(.int .i64 (-1)), (.slice none 0 0)]) M)
  (az (Mem.ld M ⟨b0, (o0 + 7), none⟩) fun A4 k5 k6 =>
  ((0 : Int) ≤ x1) ∧
  ((x1 : Int) < ((k5 : Nat) : Int)) ∧
  aE A4 fun k7 k8 =>
  cw (Mem.ld M ⟨k7, (k8 + (Int.toNat x1)), none⟩) fun A9 =>
  az (Mem.ld M ⟨b0, (o0 + 7), none⟩) fun yG dQ gx =>
  ((0 : Int) ≤ x1) ∧
  ((x1 : Int) < ((dQ : Nat) : Int)) ∧
  aE yG fun de eH =>
  cw (Mem.ld M ⟨de, (eH + (Int.toNat x1)), none⟩) fun pg =>
  aa Tryz.prog 138 #[(.pointer A9)] M (fun MC lG =>
  aK (some MC) .i64 fun jY =>
  ((Mem.ld lG ⟨de, (eH + (Int.toNat x1)), none⟩) = (some (.pointer pg))) ∧
  ((Mem.ld lG ⟨b0, (o0 + 7), none⟩) = (some (.slice yG dQ gx))) ∧
  aa Tryz.prog 139 #[(.pointer pg)] lG (fun Jb mb =>
  az (some Jb) fun zk gF iT =>
  ((Mem.ld mb ⟨de, (eH + (Int.toNat x1)), none⟩) = (some (.pointer pg))) ∧
  ((Mem.ld mb ⟨b0, (o0 + 7), none⟩) = (some (.slice yG dQ gx))) ∧
  K (.tuple #[(.int .i64 jY), (.slice zk gF iT)]) mb) Kp) Kp))) :
 aa Tryz.prog 90 ([.pointer (some ⟨b0, o0, none⟩), .int .i64 x1] : List Value).toArray M K Kp :=
 bY (C := Cx) good [(3, .bS [0, 1, 3, 7, 0, 31, 63, 127, 0, 256, 768, 1792, 0, 7936, 16128, 32767, 65535, 131071] (.step 0 (.step 1 (.step 2 (.step 4 (.step 8 (.step 9 (.step 10 (.step 12 (.step 3 (.step 5 (.step 6 (.cY 11 (.step 13 (.cY 14 (.step 7 (.step 15 (.step 16 (.step 17 .done)))))))))))))))))))] Tryz.func90 (by kernel_rfl) (by kernel_rfl) h
theorem tf {b0 o0 : Nat} (h :
rI M b0 o0 fun n1 =>
K (iV n1) M) :
 aa Tryz.prog 138 #[.pointer (some ⟨b0, o0, none⟩)] M K Kp := vw [] Tryz.func138 h
theorem tg {b0 o0 : Nat} (h :
aX M (cl [] 3) fun k1 M2 =>
rS M2 b0 (o0 + 1) fun A3 k4 k5 =>
aA 36 (some ⟨k1, 0, none⟩) 0 0 A3 k4 k5 M2 (fun v6 M7 =>
az (some v6) fun A8 k9 c6 =>
K (.slice A8 k9 c6) M7) Kp) :
 aa Tryz.prog 139 #[.pointer (some ⟨b0, o0, none⟩)] M K Kp := vw [] Tryz.func139 h
end Go.Proofs
namespace Go.Proofs
open Go.AF
set_option maxRecDepth 100000
variable {M : Mem} {K : Value → Mem → Prop} {Kp : List PanicEntry → Mem → Prop}
theorem xG {B0 : Option Addr} {m0 c0 : Nat} (h :
aX M (cl [] 32) fun k1 M2 =>
aA 31 (some ⟨k1, 0, none⟩) 0 0 B0 m0 c0 M2 (fun v3 M4 =>
az (some v3) fun A5 k6 k7 =>
aX M4 (cl [(.slice A5 k6 k7), (iV 0)] 147) fun k8 M9 =>
aX M9 (.cells #[(.func (.func 59) #[(.pointer (some ⟨k8, 0, none⟩))] #[]), (.func (.func 60) #[(.pointer (some ⟨k8, 0, none⟩))] #[]), (.slice none 0 0), .nilFunc] 152 (0, 0)) fun c6 iO =>
K (.pointer (some ⟨c6, 0, none⟩)) iO) Kp) :
 aa Tryz.prog 16 #[.slice B0 m0 c0] M K Kp := vw [] Tryz.func16 h
theorem pN {b0 o0 : Nat} {x1 : Int} {x2 : Int} (h :
aK (Mem.ld M ⟨b0, (o0 + 1), none⟩) .i64 fun n1 =>
az (Mem.ld M ⟨b0, o0, none⟩) fun A2 k3 k4 =>
aS (decide ((n1 : Int) ≥ ((k3 : Nat) : Int)))
 (Kp [{ v := (.iface 240 (.agg #[])), recovered := false }] M)
 (aK (Mem.ld M ⟨b0, (o0 + 1), none⟩) .i64 fun n5 =>
 aP M ⟨b0, (o0 + 1), none⟩ (.int .i64 (IntKind.wrap .i64 (n5 + 1))) fun M6 =>
 az (Mem.ld M6 ⟨b0, o0, none⟩) fun A7 k8 k9 =>
 aK (Mem.ld M6 ⟨b0, (o0 + 1), none⟩) .i64 fun jA =>
 ((0 : Int) ≤ (IntKind.wrap .i64 (jA - 1))) ∧
 (((IntKind.wrap .i64 (jA - 1)) : Int) < ((k8 : Nat) : Int)) ∧
 aE A7 fun dQ gx =>
 aK (Mem.ld M6 ⟨dQ, (gx + (Int.toNat (IntKind.wrap .i64 (jA - 1)))), none⟩) .u64 fun iq =>
 (((IntKind.wrap .u64 x2) : Int) ≠ 0) ∧
 K (.int .u64 (Int.tmod iq (IntKind.wrap .u64 x2))) M6)) :
 aa Tryz.prog 59 ([.pointer (some ⟨b0, o0, none⟩), .int .i64 x1, .int .i64 x2] : List Value).toArray M K Kp :=
 bY (C := Cx) good [(1, .bS [0, 1, 3, 7, 0, 16, 48, 112, 240, 511] (.step 0 (.step 1 (.step 2 (.step 4 (.step 5 (.step 6 (.step 3 (.step 7 (.step 8 (.step 9 .done))))))))))), (4, .bS [0, 1, 3, 7, 0, 16, 48, 112, 240, 511, 1023, 0, 2048, 8191, 16383] (.step 0 (.step 1 (.step 2 (.step 4 (.step 5 (.step 6 (.step 11 (.step 12 (.step 3 (.step 7 (.step 8 (.step 9 (.step 10 (.step 13 (.step 14 .done))))))))))))))))] Tryz.func59 (by kernel_rfl) (by kernel_rfl) h
theorem zo {u0 : Value} (h :
aX M uo fun k1 M2 =>
aX M2 O0 fun k3 M4 =>
aX M4 uo fun k5 M6 =>
sT M6 k3 0 (iV 0) fun M7 =>
sT5 M7 k5 (iV 0) (iV 0) (iV 0) (iV 0) (.int .u64 0) fun jP =>
aa Tryz.prog 116 #[u0, (.pointer (some ⟨k3, 0, none⟩)), (.pointer (some ⟨k5, 0, none⟩))] jP (fun Fm jO =>
(Fm = (.tuple #[])) ∧
rI jO k3 0 fun iA =>
O1 jO k5 0 fun kT iB jY rY fB =>
sT5 jO k1 (iV kT) (iV iB) (iV jY) (iV rY) (.int .u64 fB) fun Fq =>
O1 Fq k1 0 fun nC w7 ux vW Dl =>
K (.tuple #[(iV iA), (.agg #[(iV nC), (iV w7), (iV ux), (iV vW), (.int .u64 Dl)])]) Fq) Kp) :
 aa Tryz.prog 61 #[u0] M K Kp := vw [(3, .bS [0, 0, 1, 7] (sy [0, 2, 1, 3] .done))] Tryz.func61 h
theorem th {b0 o0 : Nat} {x1 : Int} {x2 : Int} (h :
aK (Mem.ld M ⟨b0, (o0 + 1), none⟩) .i64 fun n1 =>
az (Mem.ld M ⟨b0, o0, none⟩) fun A2 k3 k4 =>
aS (decide ((n1 : Int) ≥ ((k3 : Nat) : Int)))
 (Kp [{ v := (.iface 240 (.agg #[])), recovered := false }] M)
 (az (Mem.ld M ⟨b0, o0, none⟩) fun A5 k6 k7 =>
 aK (Mem.ld M ⟨b0, (o0 + 1), none⟩) .i64 fun n8 =>
 ((0 : Int) ≤ n8) ∧
 ((n8 : Int) < ((k6 : Nat) : Int)) ∧
 aE A5 fun k9 c6 =>
 aK (Mem.ld M ⟨k9, (c6 + ((Int.toNat n8) * 2)), none⟩) .i64 fun eD =>
 aK (Mem.ld M ⟨k9, ((c6 + ((Int.toNat n8) * 2)) + 1), none⟩) .u64 fun ik =>
 aX M (.cells #[(.int .i64 0), (.int .u64 0)] 95 (0, 0)) fun de jO =>
 aP jO ⟨de, 0, none⟩ (.int .i64 eD) fun r8 =>
 aP r8 ⟨de, (0 + 1), none⟩ (.int .u64 ik) fun dZ =>
 aK (Mem.ld dZ ⟨de, 0, none⟩) .i64 fun iB =>
 aS (iB != x1)
  (aK (Mem.ld dZ ⟨b0, (o0 + 1), none⟩) .i64 fun jY =>
  aK (Mem.ld dZ ⟨de, 0, none⟩) .i64 fun rY =>
  aK (Mem.ld dZ ⟨de, (0 + 1), none⟩) .u64 fun fB =>
  Kp [{ v := (.iface 97 (.agg #[(.int .i64 jY), (.int .i64 x1), (.int .i64 x2), (.int .i64 rY), (.int .u64 fB)])), recovered := false }] dZ)
  (aK (Mem.ld dZ ⟨de, (0 + 1), none⟩) .u64 fun kD =>
  aS (decide ((kD : Int) ≥ (IntKind.wrap .u64 x2)))
   (aK (Mem.ld dZ ⟨b0, (o0 + 1), none⟩) .i64 fun oE =>
   aK (Mem.ld dZ ⟨de, 0, none⟩) .i64 fun oG =>
   aK (Mem.ld dZ ⟨de, (0 + 1), none⟩) .u64 fun zl =>
   Kp [{ v := (.iface 97 (.agg #[(.int .i64 oE), (.int .i64 x1), (.int .i64 x2), (.int .i64 oG), (.int .u64 zl)])), recovered := false }] dZ)
   (aK (Mem.ld dZ ⟨b0, (o0 + 1), none⟩) .i64 fun m7 =>
   aP dZ ⟨b0, (o0 + 1), none⟩ (.int .i64 (IntKind.wrap .i64 (m7 + 1))) fun vr =>
   aK (Mem.ld vr ⟨de, (0 + 1), none⟩) .u64 fun w7 =>
   K (.int .u64 w7) vr)))) :
 aa Tryz.prog 198 ([.pointer (some ⟨b0, o0, none⟩), .int .i64 x1, .int .i64 x2] : List Value).toArray M K Kp :=
 bY (C := Cx) good [(1, .bS [0, 1, 3, 7, 0, 16, 48, 112, 240, 511] (.step 0 (.step 1 (.step 2 (.step 4 (.step 5 (.step 6 (.step 3 (.step 7 (.step 8 (.step 9 .done))))))))))), (3, .bS [0, 1, 3, 7, 0, 16, 48, 112, 255, 511, 0, 2047] (.step 0 (.step 1 (.step 2 (.step 4 (.step 5 (.step 6 (.step 3 (.step 7 (.step 8 (.step 9 (.step 10 (.step 11 .done))))))))))))), (5, .bS [0, 1, 3, 7, 0, 0, 0, 127, 255, 511] (.step 0 (.step 1 (.step 2 (.step 4 (.step 5 (.step 3 (.step 6 (.step 7 (.step 8 (.step 9 .done)))))))))))] Tryz.func198 (by kernel_rfl) (by kernel_rfl) h
theorem pO {b0 o0 : Nat} {x1 : Int} {x2 : Int} (h :
fk (Mem.ld M ⟨b0, o0, none⟩) fun v1 =>
gr Cx v1 [(iV x1), (iV (if (1 : Int) > x2 then 1 else x2))] M (fun v2 M3 =>
aK (some v2) .u64 fun n4 =>
aX M3 SB fun k5 M6 =>
sT2 M6 k5 (iV x1) (.int .u64 n4) fun M8 =>
rS M8 b0 (o0 + 2) fun A9 c6 dQ =>
rIU M8 k5 0 fun ik iq =>
aX M8 (cl [(iV ik), (.int .u64 iq)] 95) fun eH r8 =>
aA 149 A9 c6 dQ (some ⟨eH, 0, none⟩) 1 1 r8 (fun MC lG =>
az (some MC) fun H7 iw g7 =>
sT lG b0 (o0 + 2) (.slice H7 iw g7) fun jC =>
fk (Mem.ld jC ⟨b0, (o0 + 3), none⟩) fun zd =>
Ky zd fun t23 =>
aS (!t23)
 (fk (Mem.ld jC ⟨b0, (o0 + 3), none⟩) fun Wg =>
 rIU jC k5 0 fun m7 nC =>
 gr Cx Wg [(.agg #[(iV m7), (.int .u64 nC)])] jC (fun IW w4 =>
 (IW = (.tuple #[])) ∧
 rU w4 k5 1 fun vW =>
 K (iV (IntKind.wrap .i64 vW)) w4) Kp)
 (rU jC k5 1 fun Dl =>
 K (iV (IntKind.wrap .i64 Dl)) jC)) Kp) Kp) :
 aa Tryz.prog 107 #[.pointer (some ⟨b0, o0, none⟩), .int .i64 x1, .int .i64 x2] M K Kp := vw [(2, .bS [0, 0, 2, 6, 14, 0, 32, 126, 255, 511, 1023] (sy [0, 1, 2, 3, 4, 5, 6, 7, 8, 9, 10] .done)), (4, .bS [0, 1, 3, 7, 0, 31] (sy [0, 1, 2, 3, 4, 5] .done))] Tryz.func107 h
end Go.Proofs
namespace Go.Proofs
open Go.AF
set_option maxRecDepth 100000
variable {M : Mem} {K : Value → Mem → Prop} {Kp : List PanicEntry → Mem → Prop}
theorem EA {x0 : Int} (h :
aa Tryz.prog 115 #[(iV x0)] M (fun v1 M2 =>
cw (some v1) fun A3 =>
aX M2 (cl [(iV (-1)), (.pointer A3)] 237) fun k4 M5 =>
K (.pointer (some ⟨k4, 0, none⟩)) M5) Kp) :
 aa Tryz.prog 57 #[.int .i64 x0] M K Kp := vw [] Tryz.func57 h
theorem tj {b0 o0 : Nat} {B1 : Option Addr} {m1 c1 : Nat} (h :
az (Mem.ld M ⟨b0, o0, none⟩) fun A1 k2 k3 =>
be Tryz.prog (Go.Builtin.append_ #[36, 36] 36 #[(.slice A1 k2 k3), (.slice B1 m1 c1)]) M (fun v4 M5 =>
az (some v4) fun A6 k7 k8 =>
aP M5 ⟨b0, o0, none⟩ (.slice A6 k7 k8) fun M9 =>
K (.tuple #[]) M9) Kp) :
 aa Tryz.prog 58 ([.pointer (some ⟨b0, o0, none⟩), .slice B1 m1 c1] : List Value).toArray M K Kp :=
 bY (C := Cx) good [] Tryz.func58 (by kernel_rfl) (by kernel_rfl) h
theorem tp {b0 o0 : Nat} (h :
rI M b0 o0 fun n1 =>
K (iV n1) M) :
 aa Tryz.prog 148 #[.pointer (some ⟨b0, o0, none⟩)] M K Kp := vw [] Tryz.func148 h
theorem tq {b0 o0 : Nat} (h :
rP M b0 (o0 + 1) fun A1 =>
aa Tryz.prog 194 #[(.pointer A1)] M (fun v2 M3 =>
az (some v2) fun A4 k5 k6 =>
K (.slice A4 k5 k6) M3) Kp) :
 aa Tryz.prog 162 #[.pointer (some ⟨b0, o0, none⟩)] M K Kp := vw [] Tryz.func162 h
theorem qH {b0 o0 : Nat} (h :
aX M (.cells #[] 3 (0, 0)) fun k1 M2 =>
az (Mem.ld M2 ⟨b0, o0, none⟩) fun A3 k4 k5 =>
be Tryz.prog (Go.Builtin.append_ #[36, 36] 36 #[(.slice (some ⟨k1, 0, none⟩) 0 0), (.slice A3 k4 k5)]) M2 (fun v6 M7 =>
az (some v6) fun A8 k9 c6 =>
K (.slice A8 k9 c6) M7) Kp) :
 aa Tryz.prog 64 ([.pointer (some ⟨b0, o0, none⟩)] : List Value).toArray M K Kp :=
 bY (C := Cx) good [] Tryz.func64 (by kernel_rfl) (by kernel_rfl) h
theorem Gu {x0 : Int} (h :
be Tryz.prog (Go.Instr.makeSlice 36 (iV (if (1024 : Int) < (if (1 : Int) > x0 then 1 else x0) then 1024 else (if (1 : Int) > x0 then 1 else x0))) (iV (if (1024 : Int) < (if (1 : Int) > x0 then 1 else x0) then 1024 else (if (1 : Int) > x0 then 1 else x0)))) M (fun v1 M2 =>
az (some v1) fun A3 k4 k5 =>
aX M2 (cl [(.slice A3 k4 k5), (iV 0), (iV 0)] 309) fun k6 M7 =>
K (.pointer (some ⟨k6, 0, none⟩)) M7) Kp) :
 aa Tryz.prog 115 #[.int .i64 x0] M K Kp := vw [] Tryz.func115 h
theorem wk {b0 o0 : Nat} (h :
rI M b0 (o0 + 2) fun n1 =>
∃ I2 : IT, (∃ k3, I2 k3 [(.slice none 0 0), (iV 0)] M) ∧
∀ (k4 : Nat) (_ : Nat → Value) (A6 : Option Addr) (k7 : Nat) (k8 : Nat) (n9 : Int) (gy : Mem), (I2 k4 [(.slice A6 k7 k8), (iV n9)] gy) → aS (decide (n9 < n1))
 (rS gy b0 o0 fun Jc gx de =>
 rI gy b0 (o0 + 1) fun jX =>
 rS gy b0 o0 fun pg eN ei =>
 ((eN : Int) ≠ 0) ∧
 ((0 : Int) ≤ (Int.tmod (IntKind.wrap .i64 (jX + n9)) (eN : Int))) ∧
 (((Int.tmod (IntKind.wrap .i64 (jX + n9)) (eN : Int)) : Int) < (gx : Int)) ∧
 aE Jc fun dJ iw =>
 rI gy dJ (iw + (Int.toNat (Int.tmod (IntKind.wrap .i64 (jX + n9)) (eN : Int)))) fun fB =>
 aX gy (cl [(iV fB)] 3) fun fK dn =>
 aA 36 A6 k7 k8 (some ⟨fK, 0, none⟩) 1 1 dn (fun v23 kL =>
 az (some v23) fun Mw jW nw =>
 ∃ kF : Nat, (kF < k4) ∧
 I2 kF [(.slice Mw jW nw), (iV (IntKind.wrap .i64 (n9 + 1)))] kL) Kp)
 (K (.slice A6 k7 k8) gy)) :
 aa Tryz.prog 194 #[.pointer (some ⟨b0, o0, none⟩)] M K Kp := vw [(2000000, .loop [(3, .c .sl), (9, .c (.int .i64))]), (5, .bS [0, 0, 2, 6, 14, 0, 32, 96, 224, 0, 992, 0, 2048, 6144, 14336, 30720, 65504, 131070, 262142, 524286, 1048575, 2097151] (sy [0, 1, 2, 3, 5, 6, 7, 9, 11, 12, 13, 4, 8, 10, 14, 15, 16, 17, 18, 19, 20, 21] .done))] Tryz.func194 h
theorem tr {x0 : Int} (h :
aX M Mn fun k1 M2 =>
Fo M2 k1 (iV (-1)) (.slice none 0 0) (iV (if ((if (1024 : Int) < x0 then 1024 else x0) : Int) > 1 then (if (1024 : Int) < x0 then 1024 else x0) else 1)) fun M5 =>
rISI M5 k1 0 fun n6 A7 k8 k9 jA =>
K (.agg #[(iV n6), (.slice A7 k8 k9), (iV jA)]) M5) :
 aa Tryz.prog 124 #[.int .i64 x0] M K Kp := vw [] Tryz.func124 h
theorem uP {b0 o0 : Nat} (h :
rI M b0 o0 fun n1 =>
aS (n1 != (-1))
 (sT M b0 o0 (iV (-1)) fun M2 =>
 K (.tuple #[(iV n1), (.bool true)]) M2)
 (rP M b0 (o0 + 1) fun A3 =>
 aa Tryz.prog 177 #[(.pointer A3)] M (fun v4 M5 =>
 ∃ n6 : Int, ∃ t7 : Bool, (v4 = (.tuple #[(iV n6), (.bool t7)])) ∧
 aS (!t7)
 (K (.tuple #[(iV (-1)), (.bool false)]) M5)
 (K (.tuple #[(iV n6), (.bool true)]) M5)) Kp)) :
 aa Tryz.prog 149 #[.pointer (some ⟨b0, o0, none⟩)] M K Kp := vw [] Tryz.func149 h
theorem j9 {b0 o0 : Nat} {b1 o1 : Nat} (h :
Go.AF.ptrEq M (some ⟨b0, o0, none⟩) (some ⟨b1, o1, none⟩) fun t1 =>
aS t1
 (K (.tuple #[(iV (-1)), (.bool false)]) M)
 (rP M b1 (o1 + 1) fun A2 =>
 aa Tryz.prog 181 #[(.pointer A2)] M (fun v3 M4 =>
 aK (some v3) .i64 fun n5 =>
 aS (n5 == 0)
 (rI M4 b1 o1 fun n6 =>
 sT M4 b1 o1 (iV (-1)) fun M7 =>
 K (.tuple #[(iV n6), (.bool (n6 != (-1)))]) M7)
 (((2 : Int) ≠ 0) ∧
 rP M4 b0 (o0 + 1) fun A8 =>
 rP M4 b1 (o1 + 1) fun A9 =>
 rP M4 b0 (o0 + 1) fun yG =>
 aa Tryz.prog 183 #[(.pointer A8)] M4 (fun v11 jP =>
 aK (some v11) .i64 fun iq =>
 ((Mem.ld jP ⟨b0, (o0 + 1), none⟩) = (some (.pointer yG))) ∧
 ((Mem.ld jP ⟨b1, (o1 + 1), none⟩) = (some (.pointer A9))) ∧
 aa Tryz.prog 181 #[(.pointer yG)] jP (fun Wh r8 =>
 aK (some Wh) .i64 fun kT =>
 ((Mem.ld r8 ⟨b0, (o0 + 1), none⟩) = (some (.pointer yG))) ∧
 ((Mem.ld r8 ⟨b1, (o1 + 1), none⟩) = (some (.pointer A9))) ∧
 aa Tryz.prog 182 #[(.pointer A9), (iV (if ((IntKind.wrap .i64 ((IntKind.wrap .i64 (iq - kT)) + 1)) : Int) < (IntKind.wrap .i64 (n5 - (IntKind.wrap .i64 (Int.tdiv n5 2)))) then (IntKind.wrap .i64 ((IntKind.wrap .i64 (iq - kT)) + 1)) else (IntKind.wrap .i64 (n5 - (IntKind.wrap .i64 (Int.tdiv n5 2))))))] r8 (fun SJ m6 =>
 az (some SJ) fun yH g7 fK =>
 ((Mem.ld m6 ⟨b0, (o0 + 1), none⟩) = (some (.pointer yG))) ∧
 ((Mem.ld m6 ⟨b1, (o1 + 1), none⟩) = (some (.pointer A9))) ∧
 ((0 : Int) ≤ fK) ∧
 ((fK : Int) ≤ fK) ∧
 ((0 : Int) ≤ g7) ∧
 ((g7 : Int) ≤ fK) ∧
 ((0 : Int) ≤ 1) ∧
 ((1 : Int) ≤ g7) ∧
 ∃ I22 : IT, (∃ iT, I22 iT [(iV 0)] m6) ∧
 ∀ (lq : Nat) (_ : Nat → Value) (nC : Int) (w6 : Mem), (I22 lq [(iV nC)] w6) → aS (decide ((nC : Int) < ((((Int.toNat (g7 : Int)) - 1) : Nat) : Int)))
 ((0 ≤ nC) ∧
 ((nC : Int) < ((((Int.toNat (g7 : Int)) - 1) : Nat) : Int)) ∧
 aE (kP yH 1 (Int.toNat (fK : Int)) 1) fun kF mo =>
 rI w6 kF (mo + (Int.toNat nC)) fun Dl =>
 rP w6 b0 (o0 + 1) fun Ms =>
 aa Tryz.prog 184 #[(.pointer Ms), (iV Dl)] w6 (fun v32 vq =>
 dH (some v32) fun t34 =>
 ∃ zg : Nat, (zg < lq) ∧
 I22 zg [(iV (IntKind.wrap .i64 (nC + 1)))] vq) Kp)
 (((0 : Int) ≤ 0) ∧
 ((0 : Int) < g7) ∧
 aE yH fun Mz uA =>
 rI w6 Mz (uA + 0) fun Ga =>
 K (.tuple #[(iV Ga), (.bool true)]) w6)) Kp) Kp) Kp)) Kp)) :
 aa Tryz.prog 151 #[.pointer (some ⟨b0, o0, none⟩), .pointer (some ⟨b1, o1, none⟩)] M K Kp := vw [(8, .bS [0, 1, 3, 7, 0, 0, 32, 112, 0, 256, 768, 1792, 3840, 0, 8192, 24576, 57344, 130816, 261888, 524032, 1048560, 2097151, 4194303] (sy [0, 1, 2, 4, 5, 6, 7, 8, 9, 10, 13, 14, 15, 11] (.cY 3 (.cY 16 (sy [12, 17, 18, 19, 20, 21, 22] .done))))), (2000000, .loop [(56, .c (.int .i64))])] Tryz.func151 h
theorem qI {b0 o0 : Nat} {x1 : Int} {b2 o2 : Nat} (h :
rI M b0 o0 fun n1 =>
sT M b0 o0 (iV x1) fun M2 =>
aS (n1 == (-1))
 (K (iV 0) M2)
 (aa Tryz.prog 185 #[(.pointer (some ⟨b0, o0, none⟩)), (iV n1), (.pointer (some ⟨b2, o2, none⟩))] M2 (fun v3 M4 =>
 aK (some v3) .i64 fun n5 =>
 K (iV n5) M4) Kp)) :
 aa Tryz.prog 152 #[.pointer (some ⟨b0, o0, none⟩), .int .i64 x1, .pointer (some ⟨b2, o2, none⟩)] M K Kp := vw [] Tryz.func152 h
theorem xH {b0 o0 : Nat} (h :
rI M b0 (o0 + 2) fun n1 =>
aS (n1 == 0)
 (K (.tuple #[(iV 0), (.bool false)]) M)
 (rS M b0 o0 fun A2 k3 k4 =>
 rI M b0 (o0 + 1) fun n5 =>
 (0 ≤ n5) ∧
 (n5 < k3) ∧
 aE A2 fun k6 k7 =>
 rI M k6 (k7 + (Int.toNat n5)) fun n8 =>
 rI M b0 (o0 + 1) fun n9 =>
 rS M b0 o0 fun yG dQ gx =>
 ((dQ : Int) ≠ 0) ∧
 sT M b0 (o0 + 1) (iV (Int.tmod (IntKind.wrap .i64 (n9 + 1)) (dQ : Int))) fun jy =>
 rI jy b0 (o0 + 2) fun jX =>
 sT jy b0 (o0 + 2) (iV (IntKind.wrap .i64 (jX - 1))) fun r8 =>
 K (.tuple #[(iV n8), (.bool true)]) r8)) :
 aa Tryz.prog 177 #[.pointer (some ⟨b0, o0, none⟩)] M K Kp := vw [(3, .bS [0, 1, 3, 7, 0, 16, 48, 112, 255, 511, 1023] (sy [0, 1, 2, 4, 5, 6, 3, 7, 8, 9, 10] .done)), (4, .bS [0, 0, 2, 6, 14, 30, 0, 64, 192, 448, 960, 2046, 4095, 8191, 16383] (sy [0, 1, 2, 3, 6, 7, 8, 4, 5, 9, 10, 11, 12, 13, 14] .done))] Tryz.func177 h
theorem tu {b0 o0 : Nat} {b1 o1 : Nat} (h :
rI M b0 o0 fun n1 =>
aS (n1 == (-1))
 (K (iV 0) M)
 (sT M b0 o0 (iV (-1)) fun M2 =>
 aa Tryz.prog 185 #[(.pointer (some ⟨b0, o0, none⟩)), (iV n1), (.pointer (some ⟨b1, o1, none⟩))] M2 (fun v3 M4 =>
 aK (some v3) .i64 fun n5 =>
 K (iV n5) M4) Kp)) :
 aa Tryz.prog 178 #[.pointer (some ⟨b0, o0, none⟩), .pointer (some ⟨b1, o1, none⟩)] M K Kp := vw [] Tryz.func178 h
theorem qJ {b0 o0 : Nat} {x1 : Int} (h :
az (Mem.ld M ⟨b0, o0, none⟩) fun A1 k2 k3 =>
aX M (.cells #[] 3 (0, 0)) fun k4 M5 =>
az (Mem.ld M5 ⟨b0, o0, none⟩) fun A6 k7 k8 =>
((0 : Int) ≤ ((k8 : Nat) : Int)) ∧
((((k8 : Nat) : Int) : Int) ≤ ((k8 : Nat) : Int)) ∧
((0 : Int) ≤ (if (((k2 : Nat) : Int) : Int) < (if (0 : Int) > x1 then 0 else x1) then ((k2 : Nat) : Int) else (if (0 : Int) > x1 then 0 else x1))) ∧
(((if (((k2 : Nat) : Int) : Int) < (if (0 : Int) > x1 then 0 else x1) then ((k2 : Nat) : Int) else (if (0 : Int) > x1 then 0 else x1)) : Int) ≤ ((k8 : Nat) : Int)) ∧
((0 : Int) ≤ 0) ∧
((0 : Int) ≤ (if (((k2 : Nat) : Int) : Int) < (if (0 : Int) > x1 then 0 else x1) then ((k2 : Nat) : Int) else (if (0 : Int) > x1 then 0 else x1))) ∧
be Tryz.prog (Go.Builtin.append_ #[36, 36] 36 #[(.slice (some ⟨k4, 0, none⟩) 0 0), (.slice (kP A6 0 (Int.toNat ((k8 : Nat) : Int)) 1) ((Int.toNat (if (((k2 : Nat) : Int) : Int) < (if (0 : Int) > x1 then 0 else x1) then ((k2 : Nat) : Int) else (if (0 : Int) > x1 then 0 else x1))) - 0) ((Int.toNat ((k8 : Nat) : Int)) - 0))]) M5 (fun v9 gy =>
az (some v9) fun Jc gx de =>
aX gy (.cells #[] 3 (0, 0)) fun eH r8 =>
az (Mem.ld r8 ⟨b0, o0, none⟩) fun K0 ei dJ =>
((0 : Int) ≤ ((dJ : Nat) : Int)) ∧
((((dJ : Nat) : Int) : Int) ≤ ((dJ : Nat) : Int)) ∧
((0 : Int) ≤ ((ei : Nat) : Int)) ∧
((((ei : Nat) : Int) : Int) ≤ ((dJ : Nat) : Int)) ∧
((0 : Int) ≤ (if (((k2 : Nat) : Int) : Int) < (if (0 : Int) > x1 then 0 else x1) then ((k2 : Nat) : Int) else (if (0 : Int) > x1 then 0 else x1))) ∧
(((if (((k2 : Nat) : Int) : Int) < (if (0 : Int) > x1 then 0 else x1) then ((k2 : Nat) : Int) else (if (0 : Int) > x1 then 0 else x1)) : Int) ≤ ((ei : Nat) : Int)) ∧
be Tryz.prog (Go.Builtin.append_ #[36, 36] 36 #[(.slice (some ⟨eH, 0, none⟩) 0 0), (.slice (kP K0 (Int.toNat (if (((k2 : Nat) : Int) : Int) < (if (0 : Int) > x1 then 0 else x1) then ((k2 : Nat) : Int) else (if (0 : Int) > x1 then 0 else x1))) (Int.toNat ((dJ : Nat) : Int)) 1) ((Int.toNat ((ei : Nat) : Int)) - (Int.toNat (if (((k2 : Nat) : Int) : Int) < (if (0 : Int) > x1 then 0 else x1) then ((k2 : Nat) : Int) else (if (0 : Int) > x1 then 0 else x1)))) ((Int.toNat ((dJ : Nat) : Int)) - (Int.toNat (if (((k2 : Nat) : Int) : Int) < (if (0 : Int) > x1 then 0 else x1) then ((k2 : Nat) : Int) else (if (0 : Int) > x1 then 0 else x1)))))]) r8 (fun Jb mb =>
az (some Jb) fun zk gF iT =>
aP mb ⟨b0, o0, none⟩ (.slice zk gF iT) fun kL =>
K (.slice Jc gx de) kL) Kp) Kp) :
 aa Tryz.prog 179 ([.pointer (some ⟨b0, o0, none⟩), .int .i64 x1] : List Value).toArray M K Kp :=
 bY (C := Cx) good [] Tryz.func179 (by kernel_rfl) (by kernel_rfl) h
theorem qK {b0 o0 : Nat} {b1 o1 : Nat} {x2 : Int} (h :
rP M b0 (o0 + 1) fun A1 =>
rP M b0 (o0 + 1) fun A2 =>
aa Tryz.prog 202 #[(.pointer (some ⟨b1, o1, none⟩))] M (fun v3 M4 =>
aK (some v3) .i64 fun n5 =>
((Mem.ld M4 ⟨b0, (o0 + 1), none⟩) = (some (.pointer A2))) ∧
((Mem.ld M4 ⟨b0, (o0 + 1), none⟩) = (some (.pointer A1))) ∧
(((if (1 : Int) > x2 then 1 else x2) : Int) ≠ 0) ∧
aa Tryz.prog 183 #[(.pointer A1)] M4 (fun v6 M7 =>
aK (some v6) .i64 fun n8 =>
((Mem.ld M7 ⟨b0, (o0 + 1), none⟩) = (some (.pointer A2))) ∧
((Mem.ld M7 ⟨b0, (o0 + 1), none⟩) = (some (.pointer A1))) ∧
aa Tryz.prog 181 #[(.pointer A2)] M7 (fun v9 gy =>
aK (some v9) .i64 fun eD =>
((Mem.ld gy ⟨b0, (o0 + 1), none⟩) = (some (.pointer A2))) ∧
((Mem.ld gy ⟨b0, (o0 + 1), none⟩) = (some (.pointer A1))) ∧
aS (decide ((x2 : Int) < 1))
 (aa Tryz.prog 179 #[(.pointer (some ⟨b1, o1, none⟩)), (iV 1)] gy (fun zK jy =>
 az (some zK) fun pn hU eN =>
 aS ((hU : Int) == 0)
 (K (.tuple #[(iV (-1)), (.bool false)]) jy)
 (((0 : Int) ≤ eN) ∧
 ((eN : Int) ≤ eN) ∧
 ((0 : Int) ≤ hU) ∧
 ((hU : Int) ≤ eN) ∧
 ((0 : Int) ≤ 1) ∧
 ((1 : Int) ≤ hU) ∧
 ∃ Wr : IT, (∃ dJ, Wr dJ [(iV 0)] jy) ∧
 ∀ (iw : Nat) (_ : Nat → Value) (kD : Int) (dn : Mem), (Wr iw [(iV kD)] dn) → aS (decide ((kD : Int) < ((((Int.toNat (hU : Int)) - 1) : Nat) : Int)))
 ((0 ≤ kD) ∧
 ((kD : Int) < ((((Int.toNat (hU : Int)) - 1) : Nat) : Int)) ∧
 aE (kP pn 1 (Int.toNat (eN : Int)) 1) fun iT lq =>
 rI dn iT (lq + (Int.toNat kD)) fun m7 =>
 rP dn b0 (o0 + 1) fun Ft =>
 aa Tryz.prog 184 #[(.pointer Ft), (iV m7)] dn (fun IW w4 =>
 dH (some IW) fun t29 =>
 ∃ mq : Nat, (mq < iw) ∧
 Wr mq [(iV (IntKind.wrap .i64 (kD + 1)))] w4) Kp)
 (((0 : Int) ≤ 0) ∧
 ((0 : Int) < hU) ∧
 aE pn fun mu sF =>
 rI dn mu (sF + 0) fun sG =>
 K (.tuple #[(iV sG), (.bool true)]) dn))) Kp)
 (aa Tryz.prog 179 #[(.pointer (some ⟨b1, o1, none⟩)), (iV (if ((IntKind.wrap .i64 ((IntKind.wrap .i64 (n8 - eD)) + 1)) : Int) < (IntKind.wrap .i64 ((IntKind.wrap .i64 (Int.tdiv n5 (if (1 : Int) > x2 then 1 else x2))) + 1)) then (IntKind.wrap .i64 ((IntKind.wrap .i64 (n8 - eD)) + 1)) else (IntKind.wrap .i64 ((IntKind.wrap .i64 (Int.tdiv n5 (if (1 : Int) > x2 then 1 else x2))) + 1))))] gy (fun Ws pM =>
 az (some Ws) fun ME uA ia =>
 aS ((uA : Int) == 0)
 (K (.tuple #[(iV (-1)), (.bool false)]) pM)
 (((0 : Int) ≤ ia) ∧
 ((ia : Int) ≤ ia) ∧
 ((0 : Int) ≤ uA) ∧
 ((uA : Int) ≤ ia) ∧
 ((0 : Int) ≤ 1) ∧
 ((1 : Int) ≤ uA) ∧
 ∃ I39 : IT, (∃ zN, I39 zN [(iV 0)] pM) ∧
 ∀ (En : Nat) (_ : Nat → Value) (Gb : Int) (Cs : Mem), (I39 En [(iV Gb)] Cs) → aS (decide ((Gb : Int) < ((((Int.toNat (uA : Int)) - 1) : Nat) : Int)))
 ((0 ≤ Gb) ∧
 ((Gb : Int) < ((((Int.toNat (uA : Int)) - 1) : Nat) : Int)) ∧
 aE (kP ME 1 (Int.toNat (ia : Int)) 1) fun Cg Ch =>
 rI Cs Cg (Ch + (Int.toNat Gb)) fun Gf =>
 rP Cs b0 (o0 + 1) fun N7 =>
 aa Tryz.prog 184 #[(.pointer N7), (iV Gf)] Cs (fun Mv B5 =>
 dH (some Mv) fun t51 =>
 ∃ lU : Nat, (lU < En) ∧
 I39 lU [(iV (IntKind.wrap .i64 (Gb + 1)))] B5) Kp)
 (((0 : Int) ≤ 0) ∧
 ((0 : Int) < uA) ∧
 aE ME fun rX HY =>
 rI Cs rX (HY + 0) fun ZF =>
 K (.tuple #[(iV ZF), (.bool true)]) Cs))) Kp)) Kp) Kp) Kp) :
 aa Tryz.prog 180 #[.pointer (some ⟨b0, o0, none⟩), .pointer (some ⟨b1, o1, none⟩), .int .i64 x2] M K Kp := vw [(1, .bS [0, 1, 0, 4, 15, 31, 0, 64, 192, 448, 963, 0, 2048, 6144, 14336, 32707, 65475, 131011, 262143, 524287] (sy [0, 2, 3, 6, 7, 8, 11, 12, 13] (.cY 9 (.cY 14 (sy [1, 4, 5, 10, 15, 16, 17, 18, 19] .done))))), (2000000, .loop [(42, .c (.int .i64))])] Tryz.func180 h
theorem xI {b0 o0 : Nat} (h :
rI M b0 (o0 + 2) fun n1 =>
K (iV n1) M) :
 aa Tryz.prog 181 #[.pointer (some ⟨b0, o0, none⟩)] M K Kp := vw [] Tryz.func181 h
theorem wm {b0 o0 : Nat} {x1 : Int} (h :
∃ I1 : IT, (∃ k2, I1 k2 [(.slice none 0 0)] M) ∧
∀ (k3 : Nat) (_ : Nat → Value) (A5 : Option Addr) (k6 : Nat) (k7 : Nat) (M8 : Mem), (I1 k3 [(.slice A5 k6 k7)] M8) → aS (decide ((k6 : Int) < x1))
 (aa Tryz.prog 177 #[(.pointer (some ⟨b0, o0, none⟩))] M8 (fun v9 gy =>
 ∃ eD : Int, ∃ t12 : Bool, (v9 = (.tuple #[(iV eD), (.bool t12)])) ∧
 aS (!t12)
 (K (.slice A5 k6 k7) gy)
 (aX gy (cl [(iV eD)] 3) fun de jO =>
 aA 36 A5 k6 k7 (some ⟨de, 0, none⟩) 1 1 jO (fun ur dZ =>
 az (some ur) fun Ce dJ iw =>
 ∃ g7 : Nat, (g7 < k3) ∧
 I1 g7 [(.slice Ce dJ iw)] dZ) Kp)) Kp)
 (K (.slice A5 k6 k7) M8)) :
 aa Tryz.prog 182 #[.pointer (some ⟨b0, o0, none⟩), .int .i64 x1] M K Kp := vw [(2000000, .loop [(5, .c .sl)])] Tryz.func182 h
theorem wq {b0 o0 : Nat} (h :
rS M b0 o0 fun A1 k2 k3 =>
K (iV (k2 : Int)) M) :
 aa Tryz.prog 183 #[.pointer (some ⟨b0, o0, none⟩)] M K Kp := vw [] Tryz.func183 h
theorem wu {b0 o0 : Nat} {x1 : Int} (h :
rI M b0 (o0 + 2) fun n1 =>
rS M b0 o0 fun A2 k3 k4 =>
aS (n1 == (k3 : Int))
 (K (.bool false) M)
 (rS M b0 o0 fun A5 k6 k7 =>
 rI M b0 (o0 + 1) fun n8 =>
 rI M b0 (o0 + 2) fun n9 =>
 rS M b0 o0 fun yG dQ gx =>
 ((dQ : Int) ≠ 0) ∧
 ((0 : Int) ≤ (Int.tmod (IntKind.wrap .i64 (n8 + n9)) (dQ : Int))) ∧
 (((Int.tmod (IntKind.wrap .i64 (n8 + n9)) (dQ : Int)) : Int) < (k6 : Int)) ∧
 aE A5 fun de eH =>
 sT M de (eH + (Int.toNat (Int.tmod (IntKind.wrap .i64 (n8 + n9)) (dQ : Int)))) (iV x1) fun r8 =>
 rI r8 b0 (o0 + 2) fun kT =>
 sT r8 b0 (o0 + 2) (iV (IntKind.wrap .i64 (kT + 1))) fun lG =>
 K (.bool true) lG)) :
 aa Tryz.prog 184 #[.pointer (some ⟨b0, o0, none⟩), .int .i64 x1] M K Kp := vw [(1, .bS [0, 1, 3, 7, 0, 16, 48, 112, 240, 511] (sy [0, 1, 2, 4, 5, 6, 3, 7, 8, 9] .done)), (3, .bS [0, 1, 3, 7, 0, 16, 48, 112, 0, 256, 768, 1792, 4080, 0, 8192, 24576, 57344, 122880, 262128, 0, 1048575, 2097151] (sy [0, 1, 2, 4, 5, 6, 8, 9, 10, 13, 14, 15, 19, 3, 7, 11, 12, 16, 17, 18, 20, 21] .done))] Tryz.func184 h
theorem uQ {b0 o0 : Nat} {x1 : Int} {b2 o2 : Nat} (h :
rP M b0 (o0 + 1) fun A1 =>
aa Tryz.prog 184 #[(.pointer A1), (iV x1)] M (fun v2 M3 =>
dH (some v2) fun t4 =>
aS t4
 (K (iV 0) M3)
 (rP M3 b0 (o0 + 1) fun A5 =>
 rP M3 b0 (o0 + 1) fun A6 =>
 (True) ∧
 aa Tryz.prog 181 #[(.pointer A5)] M3 (fun v7 M8 =>
 aK (some v7) .i64 fun n9 =>
 ((Mem.ld M8 ⟨b0, (o0 + 1), none⟩) = (some (.pointer A6))) ∧
 ((2 : Int) ≠ 0) ∧
 (True) ∧
 aa Tryz.prog 182 #[(.pointer A6), (iV (IntKind.wrap .i64 (Int.tdiv n9 2)))] M8 (fun v10 iO =>
 az (some v10) fun nx de eH =>
 ((Mem.ld iO ⟨b0, (o0 + 1), none⟩) = (some (.pointer A6))) ∧
 aX iO (cl [(iV x1)] 3) fun hU dZ =>
 aA 36 nx de eH (some ⟨hU, 0, none⟩) 1 1 dZ (fun SJ m6 =>
 az (some SJ) fun yH g7 fK =>
 ((Mem.ld m6 ⟨b0, (o0 + 1), none⟩) = (some (.pointer A6))) ∧
 aa Tryz.prog 58 #[(.pointer (some ⟨b2, o2, none⟩)), (.slice yH g7 fK)] m6 (fun zd gB =>
 (zd = (.tuple #[])) ∧
 K (iV (g7 : Int)) gB) Kp) Kp) Kp) Kp)) Kp) :
 aa Tryz.prog 185 #[.pointer (some ⟨b0, o0, none⟩), .int .i64 x1, .pointer (some ⟨b2, o2, none⟩)] M K Kp := vw [(3, .bS [0, 1, 3, 7, 0, 16, 48, 112, 240, 496, 1023, 0, 2048, 8191, 16383] (sy [0, 1, 2, 4, 5, 6, 11, 7] (.cY 3 (.late 8 (sy [9] (.late 10 (sy [12, 13, 14] .done)))))))] Tryz.func185 h
theorem tv {b0 o0 : Nat} (h :
az (Mem.ld M ⟨b0, o0, none⟩) fun A1 k2 k3 =>
K (.int .i64 ((k2 : Nat) : Int)) M) :
 aa Tryz.prog 202 ([.pointer (some ⟨b0, o0, none⟩)] : List Value).toArray M K Kp :=
 bY (C := Cx) good [] Tryz.func202 (by kernel_rfl) (by kernel_rfl) h
end Go.Proofs
namespace Go.Proofs
open Go.AF
set_option maxRecDepth 100000
variable {M : Mem} {K : Value → Mem → Prop} {Kp : List PanicEntry → Mem → Prop}
theorem EB {jZ : Option Addr} {j0 j5 : Nat} {jb : Option Addr} {jc jd : Nat} {fR : Int} {j6 : Option Addr} {j7 j8 : Nat} {cT : Int} {cU : Int} {cV : Int} {eR : Int} {b2 o2 : Nat} (h :
aX M (cl [(.slice jZ j0 j5), (.slice jb jc jd), (iV fR), (.slice j6 j7 j8)] 39) fun k1 M2 =>
aX M2 (cl [(iV cT), (iV cU), (iV cV), (iV eR)] 29) fun k3 M4 =>
pb M4 k1 0 fun A5 k6 k7 A8 k9 c6 eD nx de eH =>
bM M4 k3 0 fun iA kT iB jY =>
aa Tryz.prog 56 #[(.agg #[(.slice A5 k6 k7), (.slice A8 k9 c6), (iV eD), (.slice nx de eH)])] M4 (fun Jb mb =>
cw (some Jb) fun zk =>
((Mem.fN mb ⟨k3, 0, none⟩ 0 4) = some [(iV iA), (iV kT), (iV iB), (iV jY)]) ∧
aX mb (cl [(.pointer zk), (iV iA), (iV kT), (iV iB), (iV jY), (.slice none 0 0), (.slice none 0 0), (.slice none 0 0), (.pointer (some ⟨b2, o2, none⟩)), (iV 0)] 137) fun gF gB =>
rI gB k3 0 fun zl =>
∃ Wu : IT, (∃ jW, Wu jW [(iV 0)] gB) ∧
∀ (nw : Nat) (_ : Nat → Value) (vW : Int) (pe : Mem), (Wu nw [(iV vW)] pe) → aS (decide (vW < zl))
 (∃ J31 : List Value → Mem → Prop, (rI pe k3 2 fun n32 =>
 (rS pe gF 5 fun Ge vS zg =>
 aa Tryz.prog 57 #[(iV n32)] pe (fun v36 Cf =>
 cw (some v36) fun V3 =>
 aX Cf (cl [(.pointer V3), (iV 0), (iV (-1))] 141) fun uu Wf =>
 aA 132 Ge vS zg (some ⟨uu, 0, none⟩) 1 1 Wf (fun v41 Pw =>
 az (some v41) fun U3 zh Cg =>
 sT Pw gF 5 (.slice U3 zh Cg) fun Ia =>
 J31 [] Ia) Kp) Kp) ∧
 (aa Tryz.prog 57 #[(iV n32)] pe (fun v47 Pd =>
 cw (some v47) fun Wv =>
 rS Pd gF 5 fun ZG H8 lU =>
 aX Pd (cl [(.pointer Wv), (iV 0), (iV (-1))] 141) fun rX Gc =>
 aA 132 ZG H8 lU (some ⟨rX, 0, none⟩) 1 1 Gc (fun V9 UM =>
 az (some V9) fun A57 Gg UN =>
 sT UM gF 5 (.slice A57 Gg UN) fun zj =>
 J31 [] zj) Kp) Kp) ∧
 True) ∧
 ∀ junk61 : Nat → Value, ∀ vp : Mem, (J31 [] vp) → ∃ N9 : Nat, (N9 < nw) ∧
 Wu N9 [(iV (IntKind.wrap .i64 (vW + 1)))] vp)
 (rI pe k3 1 fun n64 =>
 ∃ I65 : IT, (∃ Gt, I65 Gt [(iV 0)] pe) ∧
 ∀ (xd : Nat) (_ : Nat → Value) (U4 : Int) (KZ : Mem), (I65 xd [(iV U4)] KZ) → aS (decide (U4 < n64))
 (rS KZ gF 6 fun MH Ji PE =>
 aX KZ (cl [(iV (-1)), (iV (-1)), (iV 0)] 143) fun U2 xJ =>
 aA 133 MH Ji PE (some ⟨U2, 0, none⟩) 1 1 xJ (fun v76 SQ =>
 az (some v76) fun A78 PF Ic =>
 sT SQ gF 6 (.slice A78 PF Ic) fun Jj =>
 ∃ Jf : Nat, (Jf < xd) ∧
 I65 Jf [(iV (IntKind.wrap .i64 (U4 + 1)))] Jj) Kp)
 (aX KZ O0 fun zQ Gv =>
 aa Tryz.prog 58 #[(.pointer (some ⟨gF, 7, none⟩)), (.slice (some ⟨zQ, 0, none⟩) 1 1)] Gv (fun v85 SR =>
 (v85 = (.tuple #[])) ∧
 K (.pointer (some ⟨gF, 0, none⟩)) SR) Kp))) Kp) :
 aa Tryz.prog 15 #[.agg #[.slice jZ j0 j5, .slice jb jc jd, .int .i64 fR, .slice j6 j7 j8], .agg #[.int .i64 cT, .int .i64 cU, .int .i64 cV, .int .i64 eR], .pointer (some ⟨b2, o2, none⟩)] M K Kp := vw [(1, .bS [0, 1, 0, 0, 15, 31, 63] (sy [3, 0] (.cY 2 (sy [1, 4, 5, 6] .done)))), (2000000, .loop [(16, .c (.int .i64))]), (4, .FX [0, 0, 2, 6, 14, 0, 32, 96, 224, 480, 1022, 2047, 4095, 8191] (sy [0, 1, 2, 3, 5, 6] (.fork 4 (sy [7, 8, 9, 10, 11, 12, 13] .done) (.fork 7 (sy [8, 4, 9, 10, 11, 12, 13] .done) .dead))) []), (2000002, .loop [(34, .c (.int .i64))])] Tryz.func15 h
theorem mw {b0 o0 : Nat} (h :
az (Mem.ld M ⟨b0, (o0 + 5), none⟩) fun A1 k2 k3 =>
∃ I4 : Nat → List Value → Mem → Prop, (∃ k5 : Nat, I4 k5 [(.slice none 0 0), (.int .i64 0)] M) ∧
∀ k6 : Nat, ∀ junk7 : Nat → Value, ∀ A8 : Option Addr, ∀ k9 : Nat, ∀ c6 : Nat, ∀ eD : Int, ∀ jP : Mem, (I4 k6 [(.slice A8 k9 c6), (.int .i64 eD)] jP) → aS (decide ((eD : Int) < ((k2 : Nat) : Int)))
 (((0 : Int) ≤ eD) ∧
 ((eD : Int) < ((k2 : Nat) : Int)) ∧
 aE A1 fun de eH =>
 cw (Mem.ld jP ⟨de, (eH + ((Int.toNat eD) * 3)), none⟩) fun pg =>
 aK (Mem.ld jP ⟨de, ((eH + ((Int.toNat eD) * 3)) + 1), none⟩) .i64 fun kT =>
 aK (Mem.ld jP ⟨de, ((eH + ((Int.toNat eD) * 3)) + 2), none⟩) .i64 fun iB =>
 aX jP (.cells #[(.pointer none), (.int .i64 0), (.int .i64 0)] 141 (0, 0)) fun dJ jx =>
 aP jx ⟨dJ, 0, none⟩ (.pointer pg) fun mb =>
 aP mb ⟨dJ, (0 + 1), none⟩ (.int .i64 kT) fun jC =>
 aP jC ⟨dJ, (0 + 2), none⟩ (.int .i64 iB) fun dn =>
 cw (Mem.ld dn ⟨dJ, 0, none⟩) fun Mt =>
 cw (Mem.ld dn ⟨dJ, 0, none⟩) fun ze =>
 aK (Mem.ld dn ⟨dJ, (0 + 1), none⟩) .i64 fun m7 =>
 aK (Mem.ld dn ⟨dJ, (0 + 2), none⟩) .i64 fun nC =>
 aa Tryz.prog 148 #[(.pointer Mt)] dn (fun IW w4 =>
 aK (some IW) .i64 fun vW =>
 ((Mem.ld w4 ⟨dJ, (0 + 2), none⟩) = (some (.int .i64 nC))) ∧
 ((Mem.ld w4 ⟨dJ, (0 + 1), none⟩) = (some (.int .i64 m7))) ∧
 ((Mem.ld w4 ⟨dJ, 0, none⟩) = (some (.pointer ze))) ∧
 aa Tryz.prog 162 #[(.pointer ze)] w4 (fun v30 Jd =>
 az (some v30) fun A32 pB vS =>
 ((Mem.ld Jd ⟨dJ, (0 + 2), none⟩) = (some (.int .i64 nC))) ∧
 ((Mem.ld Jd ⟨dJ, (0 + 1), none⟩) = (some (.int .i64 m7))) ∧
 ((Mem.ld Jd ⟨dJ, 0, none⟩) = (some (.pointer ze))) ∧
 aX Jd (.cells #[(.int .i64 vW), (.slice A32 pB vS), (.int .i64 m7), (.int .i64 nC)] 263 (0, 0)) fun zg Cj =>
 be Tryz.prog (Go.Builtin.append_ #[264, 264] 264 #[(.slice A8 k9 c6), (.slice (some ⟨zg, 0, none⟩) 1 1)]) Cj (fun v37 me =>
 az (some v37) fun Pf zN En =>
 ((Mem.ld me ⟨dJ, (0 + 2), none⟩) = (some (.int .i64 nC))) ∧
 ((Mem.ld me ⟨dJ, (0 + 1), none⟩) = (some (.int .i64 m7))) ∧
 ((Mem.ld me ⟨dJ, 0, none⟩) = (some (.pointer ze))) ∧
 ∃ Em : Nat, (Em < k6) ∧
 I4 Em [(.slice Pf zN En), (.int .i64 (IntKind.wrap .i64 (eD + 1)))] me) Kp) Kp) Kp)
 (K (.slice A8 k9 c6) jP)) :
 aa Tryz.prog 126 ([.pointer (some ⟨b0, o0, none⟩)] : List Value).toArray M K Kp :=
 bY (C := Cx) good [(2000000, .loop [(3, .c .sl), (11, .c (.int .i64))]), (5, .bS [0, 0, 2, 6, 0, 16, 62, 0, 128, 0, 512, 2046, 4094, 8191, 16383] (.step 0 (.step 1 (.step 4 (.step 7 (.step 9 (.step 2 (.cY 5 (.cY 8 (.cY 10 (.step 3 (.step 6 (.step 11 (.step 12 (.step 13 (.step 14 .done))))))))))))))))] Tryz.func126 (by kernel_rfl) (by kernel_rfl) h
theorem nF {b0 o0 : Nat} (h :
az (Mem.ld M ⟨b0, (o0 + 6), none⟩) fun A1 k2 k3 =>
∃ I4 : Nat → List Value → Mem → Prop, (∃ k5 : Nat, I4 k5 [(.slice none 0 0), (.int .i64 0)] M) ∧
∀ k6 : Nat, ∀ junk7 : Nat → Value, ∀ A8 : Option Addr, ∀ k9 : Nat, ∀ c6 : Nat, ∀ eD : Int, ∀ jP : Mem, (I4 k6 [(.slice A8 k9 c6), (.int .i64 eD)] jP) → aS (decide ((eD : Int) < ((k2 : Nat) : Int)))
 (((0 : Int) ≤ eD) ∧
 ((eD : Int) < ((k2 : Nat) : Int)) ∧
 aE A1 fun de eH =>
 aK (Mem.ld jP ⟨de, (eH + ((Int.toNat eD) * 3)), none⟩) .i64 fun iA =>
 aK (Mem.ld jP ⟨de, ((eH + ((Int.toNat eD) * 3)) + 1), none⟩) .i64 fun kT =>
 aK (Mem.ld jP ⟨de, ((eH + ((Int.toNat eD) * 3)) + 2), none⟩) .i64 fun iB =>
 aX jP (.cells #[(.int .i64 0), (.int .i64 0), (.int .i64 0)] 143 (0, 0)) fun dJ jx =>
 aP jx ⟨dJ, 0, none⟩ (.int .i64 iA) fun mb =>
 aP mb ⟨dJ, (0 + 1), none⟩ (.int .i64 kT) fun jC =>
 aP jC ⟨dJ, (0 + 2), none⟩ (.int .i64 iB) fun dn =>
 aK (Mem.ld dn ⟨dJ, 0, none⟩) .i64 fun oG =>
 aK (Mem.ld dn ⟨dJ, (0 + 1), none⟩) .i64 fun zl =>
 aK (Mem.ld dn ⟨dJ, (0 + 2), none⟩) .i64 fun m7 =>
 aX dn (.cells #[(.int .i64 oG), (.int .i64 zl), (.int .i64 m7)] 268 (0, 0)) fun jW w6 =>
 be Tryz.prog (Go.Builtin.append_ #[269, 269] 269 #[(.slice A8 k9 c6), (.slice (some ⟨jW, 0, none⟩) 1 1)]) w6 (fun Pn mE =>
 az (some Pn) fun zO mu sF =>
 ∃ pB : Nat, (pB < k6) ∧
 I4 pB [(.slice zO mu sF), (.int .i64 (IntKind.wrap .i64 (eD + 1)))] mE) Kp)
 (K (.slice A8 k9 c6) jP)) :
 aa Tryz.prog 129 ([.pointer (some ⟨b0, o0, none⟩)] : List Value).toArray M K Kp :=
 bY (C := Cx) good [(2000000, .loop [(3, .c .sl), (11, .c (.int .i64))])] Tryz.func129 (by kernel_rfl) (by kernel_rfl) h
theorem qL {b0 o0 : Nat} (h :
rP M b0 o0 fun A1 =>
K (.pointer A1) M) :
 aa Tryz.prog 18 #[.pointer (some ⟨b0, o0, none⟩)] M K Kp := vw [] Tryz.func18 h
theorem pP {b0 o0 : Nat} (h :
rP M b0 o0 fun A1 =>
aa Tryz.prog 28 #[(.pointer A1)] M (fun v2 M3 =>
∃ n4 n5 : Int, (v2 = (.tuple #[(iV n4), (iV n5)])) ∧
aS (n4 == 1)
 (K (iV 1) M3)
 (aS (n4 == 2)
 (K (iV 2) M3)
 (rP M3 b0 o0 fun A6 =>
 aa Tryz.prog 65 #[(.pointer A6)] M3 (fun v7 M8 =>
 dH (some v7) fun t9 =>
 aS t9
 (K (iV 3) M8)
 (K (iV 0) M8)) Kp))) Kp) :
 aa Tryz.prog 22 #[.pointer (some ⟨b0, o0, none⟩)] M K Kp := vw [] Tryz.func22 h
theorem pQ {b0 o0 : Nat} (h :
aa Tryz.prog 64 #[(.pointer (some ⟨b0, (o0 + 7), none⟩))] M (fun v1 M2 =>
az (some v1) fun A3 k4 k5 =>
K (.slice A3 k4 k5) M2) Kp) :
 aa Tryz.prog 20 #[.pointer (some ⟨b0, o0, none⟩)] M K Kp := vw [] Tryz.func20 h
theorem qM {b0 o0 : Nat} (h :
rI M b0 (o0 + 9) fun n1 =>
K (iV n1) M) :
 aa Tryz.prog 35 #[.pointer (some ⟨b0, o0, none⟩)] M K Kp := vw [] Tryz.func35 h
theorem tw {b0 o0 : Nat} (h :
aX M (.cells #[(.int .i64 0), (.int .i64 0), (.int .i64 0), (.slice none 0 0)] 43 (0, 0)) fun k1 M2 =>
aa Tryz.prog 22 #[(.pointer (some ⟨b0, o0, none⟩))] M2 (fun v3 M4 =>
aK (some v3) .i64 fun n5 =>
aS (n5 != 0)
 (aP M4 ⟨k1, 0, none⟩ (.int .i64 0) fun M6 =>
 aP M6 ⟨k1, (0 + 1), none⟩ (.int .i64 0) fun M7 =>
 aP M7 ⟨k1, (0 + 2), none⟩ (.int .i64 0) fun M8 =>
 aP M8 ⟨k1, (0 + 3), none⟩ (.slice none 0 0) fun M9 =>
 aK (Mem.ld M9 ⟨k1, 0, none⟩) .i64 fun jA =>
 aK (Mem.ld M9 ⟨k1, (0 + 1), none⟩) .i64 fun eD =>
 aK (Mem.ld M9 ⟨k1, (0 + 2), none⟩) .i64 fun ik =>
 az (Mem.ld M9 ⟨k1, (0 + 3), none⟩) fun Fp eH hU =>
 K (.agg #[(.int .i64 jA), (.int .i64 eD), (.int .i64 ik), (.slice Fp eH hU)]) M9)
 (cw (Mem.ld M4 ⟨b0, (o0 + 8), none⟩) fun K0 =>
 aK (Mem.ld M4 ⟨b0, ((o0 + 1) + 1), none⟩) .i64 fun iB =>
 aa Tryz.prog 107 #[(.pointer K0), (.int .i64 1), (.int .i64 (IntKind.wrap .i64 (iB + 1)))] M4 (fun Ci jx =>
 aK (some Ci) .i64 fun fB =>
 aX jx (.cells #[(.int .i64 0), (.int .i64 0), (.int .i64 0), (.slice none 0 0)] 43 (0, 0)) fun fK dn =>
 aK (Mem.ld dn ⟨b0, ((o0 + 1) + 1), none⟩) .i64 fun oG =>
 aS (fB == oG)
  (aa Tryz.prog 108 #[(.pointer (some ⟨b0, o0, none⟩))] dn (fun Wg Fq =>
  ∃ nC : Int, ∃ w7 : Int, ∃ ux : Int, ∃ RI : Option Addr, ∃ mq : Nat, ∃ mu : Nat, (Wg = (.agg #[(.int .i64 nC), (.int .i64 w7), (.int .i64 ux), (.slice RI mq mu)])) ∧
  aP Fq ⟨fK, 0, none⟩ (.int .i64 nC) fun oF =>
  aP oF ⟨fK, (0 + 1), none⟩ (.int .i64 w7) fun vq =>
  aP vq ⟨fK, (0 + 2), none⟩ (.int .i64 ux) fun pE =>
  aP pE ⟨fK, (0 + 3), none⟩ (.slice RI mq mu) fun pM =>
  aK (Mem.ld pM ⟨b0, (o0 + 9), none⟩) .i64 fun w9 =>
  aP pM ⟨b0, (o0 + 9), none⟩ (.int .i64 (IntKind.wrap .i64 (w9 + 1))) fun Cf =>
  aK (Mem.ld Cf ⟨fK, 0, none⟩) .i64 fun Ga =>
  aK (Mem.ld Cf ⟨fK, (0 + 1), none⟩) .i64 fun IP =>
  aK (Mem.ld Cf ⟨fK, (0 + 2), none⟩) .i64 fun SI =>
  az (Mem.ld Cf ⟨fK, (0 + 3), none⟩) fun SD Em qq =>
  aP Cf ⟨k1, 0, none⟩ (.int .i64 Ga) fun Cs =>
  aP Cs ⟨k1, (0 + 1), none⟩ (.int .i64 IP) fun vt =>
  aP vt ⟨k1, (0 + 2), none⟩ (.int .i64 SI) fun Ia =>
  aP Ia ⟨k1, (0 + 3), none⟩ (.slice SD Em qq) fun uF =>
  aK (Mem.ld uF ⟨k1, 0, none⟩) .i64 fun Eu =>
  aK (Mem.ld uF ⟨k1, (0 + 1), none⟩) .i64 fun MI =>
  aK (Mem.ld uF ⟨k1, (0 + 2), none⟩) .i64 fun Gm =>
  az (Mem.ld uF ⟨k1, (0 + 3), none⟩) fun V5 lU rX =>
  K (.agg #[(.int .i64 Eu), (.int .i64 MI), (.int .i64 Gm), (.slice V5 lU rX)]) uF) Kp)
  (az (Mem.ld dn ⟨b0, (o0 + 6), none⟩) fun A54 k55 Ob =>
  ((0 : Int) ≤ fB) ∧
  ((fB : Int) < ((k55 : Nat) : Int)) ∧
  aE A54 fun xF Gg =>
  aK (Mem.ld dn ⟨xF, (Gg + ((Int.toNat fB) * 3)), none⟩) .i64 fun Eo =>
  aS (Eo == (-1))
   (aa Tryz.prog 109 #[(.pointer (some ⟨b0, o0, none⟩)), (.int .i64 fB)] dn (fun v60 Dh =>
   ∃ Oa : Int, ∃ Ck : Int, ∃ n64 : Int, ∃ SS : Option Addr, ∃ Gt : Nat, ∃ xd : Nat, (v60 = (.agg #[(.int .i64 Oa), (.int .i64 Ck), (.int .i64 n64), (.slice SS Gt xd)])) ∧
   aP Dh ⟨fK, 0, none⟩ (.int .i64 Oa) fun Wq =>
   aP Wq ⟨fK, (0 + 1), none⟩ (.int .i64 Ck) fun M69 =>
   aP M69 ⟨fK, (0 + 2), none⟩ (.int .i64 n64) fun KZ =>
   aP KZ ⟨fK, (0 + 3), none⟩ (.slice SS Gt xd) fun RP =>
   aK (Mem.ld RP ⟨b0, (o0 + 9), none⟩) .i64 fun Pv =>
   aP RP ⟨b0, (o0 + 9), none⟩ (.int .i64 (IntKind.wrap .i64 (Pv + 1))) fun B8 =>
   aK (Mem.ld B8 ⟨fK, 0, none⟩) .i64 fun Od =>
   aK (Mem.ld B8 ⟨fK, (0 + 1), none⟩) .i64 fun SE =>
   aK (Mem.ld B8 ⟨fK, (0 + 2), none⟩) .i64 fun KV =>
   az (Mem.ld B8 ⟨fK, (0 + 3), none⟩) fun A77 Oc PF =>
   aP B8 ⟨k1, 0, none⟩ (.int .i64 Od) fun Ey =>
   aP Ey ⟨k1, (0 + 1), none⟩ (.int .i64 SE) fun Jj =>
   aP Jj ⟨k1, (0 + 2), none⟩ (.int .i64 KV) fun SU =>
   aP SU ⟨k1, (0 + 3), none⟩ (.slice A77 Oc PF) fun Ib =>
   aK (Mem.ld Ib ⟨k1, 0, none⟩) .i64 fun IS =>
   aK (Mem.ld Ib ⟨k1, (0 + 1), none⟩) .i64 fun RQ =>
   aK (Mem.ld Ib ⟨k1, (0 + 2), none⟩) .i64 fun n86 =>
   az (Mem.ld Ib ⟨k1, (0 + 3), none⟩) fun A87 MG k89 =>
   K (.agg #[(.int .i64 IS), (.int .i64 RQ), (.int .i64 n86), (.slice A87 MG k89)]) Ib) Kp)
   (az (Mem.ld dn ⟨b0, (o0 + 6), none⟩) fun ZH SW SX =>
   ((0 : Int) ≤ fB) ∧
   ((fB : Int) < ((SW : Nat) : Int)) ∧
   aE ZH fun SY SO =>
   aK (Mem.ld dn ⟨SY, ((SO + ((Int.toNat fB) * 3)) + 1), none⟩) .i64 fun IU =>
   aS (IU == (-1))
    (aa Tryz.prog 110 #[(.pointer (some ⟨b0, o0, none⟩)), (.int .i64 fB)] dn (fun v96 K2 =>
    ∃ ZA : Int, ∃ RR : Int, ∃ vT : Int, ∃ MJ : Option Addr, ∃ Jg : Nat, ∃ nG : Nat, (v96 = (.agg #[(.int .i64 ZA), (.int .i64 RR), (.int .i64 vT), (.slice MJ Jg nG)])) ∧
    aP K2 ⟨fK, 0, none⟩ (.int .i64 ZA) fun Ww =>
    aP Ww ⟨fK, (0 + 1), none⟩ (.int .i64 RR) fun SP =>
    aP SP ⟨fK, (0 + 2), none⟩ (.int .i64 vT) fun MK =>
    aP MK ⟨fK, (0 + 3), none⟩ (.slice MJ Jg nG) fun EC =>
    aK (Mem.ld EC ⟨b0, (o0 + 9), none⟩) .i64 fun AN =>
    aP EC ⟨b0, (o0 + 9), none⟩ (.int .i64 (IntKind.wrap .i64 (AN + 1))) fun vU =>
    aK (Mem.ld vU ⟨fK, 0, none⟩) .i64 fun Pk =>
    aK (Mem.ld vU ⟨fK, (0 + 1), none⟩) .i64 fun Wx =>
    aK (Mem.ld vU ⟨fK, (0 + 2), none⟩) .i64 fun AB =>
    az (Mem.ld vU ⟨fK, (0 + 3), none⟩) fun A113 PG k115 =>
    aP vU ⟨k1, 0, none⟩ (.int .i64 Pk) fun wv =>
    aP wv ⟨k1, (0 + 1), none⟩ (.int .i64 Wx) fun Jk =>
    aP Jk ⟨k1, (0 + 2), none⟩ (.int .i64 AB) fun oK =>
    aP oK ⟨k1, (0 + 3), none⟩ (.slice A113 PG k115) fun ED =>
    aK (Mem.ld ED ⟨k1, 0, none⟩) .i64 fun AO =>
    aK (Mem.ld ED ⟨k1, (0 + 1), none⟩) .i64 fun AP =>
    aK (Mem.ld ED ⟨k1, (0 + 2), none⟩) .i64 fun PI =>
    az (Mem.ld ED ⟨k1, (0 + 3), none⟩) fun A123 Jl Wy =>
    K (.agg #[(.int .i64 AO), (.int .i64 AP), (.int .i64 PI), (.slice A123 Jl Wy)]) ED) Kp)
    (aa Tryz.prog 111 #[(.pointer (some ⟨b0, o0, none⟩)), (.int .i64 fB)] dn (fun Wz SZ =>
    ∃ zp : Int, ∃ n129 : Int, ∃ n130 : Int, ∃ Gw : Option Addr, ∃ Gx : Nat, ∃ Gy : Nat, (Wz = (.agg #[(.int .i64 zp), (.int .i64 n129), (.int .i64 n130), (.slice Gw Gx Gy)])) ∧
    aP SZ ⟨fK, 0, none⟩ (.int .i64 zp) fun PJ =>
    aP PJ ⟨fK, (0 + 1), none⟩ (.int .i64 n129) fun M135 =>
    aP M135 ⟨fK, (0 + 2), none⟩ (.int .i64 n130) fun WB =>
    aP WB ⟨fK, (0 + 3), none⟩ (.slice Gw Gx Gy) fun ML =>
    aK (Mem.ld ML ⟨b0, (o0 + 9), none⟩) .i64 fun n138 =>
    aP ML ⟨b0, (o0 + 9), none⟩ (.int .i64 (IntKind.wrap .i64 (n138 + 1))) fun zq =>
    aK (Mem.ld zq ⟨fK, 0, none⟩) .i64 fun n140 =>
    aK (Mem.ld zq ⟨fK, (0 + 1), none⟩) .i64 fun n141 =>
    aK (Mem.ld zq ⟨fK, (0 + 2), none⟩) .i64 fun WC =>
    az (Mem.ld zq ⟨fK, (0 + 3), none⟩) fun A143 k144 k145 =>
    aP zq ⟨k1, 0, none⟩ (.int .i64 n140) fun M146 =>
    aP M146 ⟨k1, (0 + 1), none⟩ (.int .i64 n141) fun M147 =>
    aP M147 ⟨k1, (0 + 2), none⟩ (.int .i64 WC) fun M148 =>
    aP M148 ⟨k1, (0 + 3), none⟩ (.slice A143 k144 k145) fun Gz =>
    aK (Mem.ld Gz ⟨k1, 0, none⟩) .i64 fun PK =>
    aK (Mem.ld Gz ⟨k1, (0 + 1), none⟩) .i64 fun WD =>
    aK (Mem.ld Gz ⟨k1, (0 + 2), none⟩) .i64 fun Jm =>
    az (Mem.ld Gz ⟨k1, (0 + 3), none⟩) fun A153 PL k155 =>
    K (.agg #[(.int .i64 PK), (.int .i64 WD), (.int .i64 Jm), (.slice A153 PL k155)]) Gz) Kp)))) Kp)) Kp) :
 aa Tryz.prog 54 ([.pointer (some ⟨b0, o0, none⟩)] : List Value).toArray M K Kp :=
 bY (C := Cx) good [(3, .bS [0, 1, 3, 7, 0, 16, 48, 112, 240, 496, 1023, 2047] (.step 0 (.step 1 (.step 2 (.step 4 (.step 5 (.step 6 (.step 7 (.step 3 (.step 8 (.step 9 (.step 10 (.step 11 .done)))))))))))))] Tryz.func54 (by kernel_rfl) (by kernel_rfl) h
theorem tx {b0 o0 : Nat} (h :
aX M nu fun k1 M2 =>
rP M2 b0 o0 fun A3 =>
aa Tryz.prog 120 #[(.pointer A3)] M2 (fun v4 M5 =>
az (some v4) fun A6 k7 k8 =>
aa Tryz.prog 58 #[(.pointer (some ⟨b0, (o0 + 7), none⟩)), (.slice A6 k7 k8)] M5 (fun v9 gy =>
(v9 = (.tuple #[])) ∧
kI gy k1 (iV 1) (iV (-1)) (iV (-1)) (.slice A6 k7 k8) fun jO =>
F7 jO k1 0 fun iA kT iB H7 iw g7 =>
K (.agg #[(iV iA), (iV kT), (iV iB), (.slice H7 iw g7)]) jO) Kp) Kp) :
 aa Tryz.prog 108 #[.pointer (some ⟨b0, o0, none⟩)] M K Kp := vw [] Tryz.func108 h
theorem tB {b0 o0 : Nat} {x1 : Int} (h :
aX M nu fun k1 M2 =>
rS M2 b0 (o0 + 5) fun A3 k4 k5 =>
∃ I6 : IT, (∃ k7, I6 k7 [(iV 0)] M2) ∧
∀ (k8 : Nat) (_ : Nat → Value) (jA : Int) (iO : Mem), (I6 k8 [(iV jA)] iO) → aS (decide (jA < k4))
 (rS iO b0 (o0 + 5) fun nx de eH =>
 (0 ≤ jA) ∧
 (jA < de) ∧
 aE nx fun hU eN =>
 rI iO hU ((eN + ((Int.toNat jA) * 3)) + 2) fun iB =>
 aS (iB == (-1))
 (rS iO b0 (o0 + 5) fun H7 iw g7 =>
 rS iO b0 (o0 + 6) fun zk gF iT =>
 (0 ≤ jA) ∧
 (jA < iw) ∧
 aE H7 fun lq nZ =>
 sT iO lq ((nZ + ((Int.toNat jA) * 3)) + 2) (iV x1) fun vr =>
 ((0 : Int) ≤ x1) ∧
 ((x1 : Int) < gF) ∧
 aE zk fun nw kF =>
 sT vr nw (kF + ((Int.toNat x1) * 3)) (iV jA) fun mE =>
 kI mE k1 (iV 2) (iV x1) (iV (-1)) (.slice none 0 0) fun vq =>
 F7 vq k1 0 fun Pt KY w9 H9 ia uu =>
 K (.agg #[(iV Pt), (iV KY), (iV w9), (.slice H9 ia uu)]) vq)
 (∃ zN : Nat, (zN < k8) ∧
 I6 zN [(iV (IntKind.wrap .i64 (jA + 1)))] iO))
 (sT iO k1 0 (iV 3) fun uB =>
 sT uB k1 1 (iV x1) fun Pw =>
 sT Pw k1 2 (iV (-1)) fun zP =>
 sT zP k1 3 (.slice none 0 0) fun Cs =>
 F7 Cs k1 0 fun B6 H6 Gf N7 Fs zi =>
 K (.agg #[(iV B6), (iV H6), (iV Gf), (.slice N7 Fs zi)]) Cs)) :
 aa Tryz.prog 109 #[.pointer (some ⟨b0, o0, none⟩), .int .i64 x1] M K Kp := vw [(2000000, .loop [(11, .c (.int .i64))]), (5, .bS [0, 1, 3, 7, 0, 0, 32, 96, 224, 0, 0, 0, 1535, 5631, 13823, 32767, 65535, 131071] (sy [0, 1, 2, 4, 5, 6, 7, 9, 10, 11, 3, 8, 12, 13, 14, 15, 16, 17] .done))] Tryz.func109 h
theorem tC {b0 o0 : Nat} {x1 : Int} (h :
aX M (.cells #[(.int .i64 0), (.int .i64 0), (.int .i64 0), (.slice none 0 0)] 43 (0, 0)) fun k1 M2 =>
az (Mem.ld M2 ⟨b0, (o0 + 5), none⟩) fun A3 k4 k5 =>
az (Mem.ld M2 ⟨b0, (o0 + 6), none⟩) fun A6 k7 k8 =>
((0 : Int) ≤ x1) ∧
((x1 : Int) < ((k7 : Nat) : Int)) ∧
aE A6 fun k9 c6 =>
aK (Mem.ld M2 ⟨k9, (c6 + ((Int.toNat x1) * 3)), none⟩) .i64 fun eD =>
((0 : Int) ≤ eD) ∧
((eD : Int) < ((k4 : Nat) : Int)) ∧
aE A3 fun gx de =>
az (Mem.ld M2 ⟨b0, (o0 + 6), none⟩) fun pn hU eN =>
((0 : Int) ≤ x1) ∧
((x1 : Int) < ((hU : Nat) : Int)) ∧
aE pn fun ei dJ =>
aK (Mem.ld M2 ⟨ei, ((dJ + ((Int.toNat x1) * 3)) + 2), none⟩) .i64 fun rY =>
aS (decide ((rY : Int) > 0))
 (cw (Mem.ld M2 ⟨gx, (de + ((Int.toNat eD) * 3)), none⟩) fun A20 =>
 aa Tryz.prog 148 #[(.pointer A20)] M2 (fun Wi dn =>
 aK (some Wi) .i64 fun oG =>
 ∃ J24 : List Value → Mem → Prop, (aS (oG != (-1))
  (cw (Mem.ld dn ⟨gx, (de + ((Int.toNat eD) * 3)), none⟩) fun Mw =>
   az (Mem.ld dn ⟨b0, (o0 + 6), none⟩) fun Ft nw kF =>
   aa Tryz.prog 149 #[(.pointer Mw)] dn (fun V2 pe =>
   ∃ vR : Int, ∃ t32 : Bool, (V2 = (.tuple #[(.int .i64 vR), (.bool t32)])) ∧
   ((Mem.ld pe ⟨b0, (o0 + 6), none⟩) = (some (.slice Ft nw kF))) ∧
   ((0 : Int) ≤ x1) ∧
   ((x1 : Int) < ((nw : Nat) : Int)) ∧
   aE Ft fun pB vS =>
   aP pe ⟨pB, ((vS + ((Int.toNat x1) * 3)) + 1), none⟩ (.int .i64 vR) fun pM =>
   ((Mem.ld pM ⟨b0, (o0 + 6), none⟩) = (some (.slice Ft nw kF))) ∧
   az (Mem.ld pM ⟨b0, (o0 + 6), none⟩) fun ME uA ia =>
   ((0 : Int) ≤ x1) ∧
   ((x1 : Int) < ((uA : Nat) : Int)) ∧
   aE ME fun uu zN =>
   aK (Mem.ld pM ⟨uu, ((zN + ((Int.toNat x1) * 3)) + 1), none⟩) .i64 fun n41 =>
   aP pM ⟨k1, 0, none⟩ (.int .i64 4) fun Pw =>
   aP Pw ⟨k1, (0 + 1), none⟩ (.int .i64 x1) fun zP =>
   aP zP ⟨k1, (0 + 2), none⟩ (.int .i64 n41) fun Cs =>
   aP Cs ⟨k1, (0 + 3), none⟩ (.slice none 0 0) fun vt =>
   aK (Mem.ld vt ⟨k1, 0, none⟩) .i64 fun H6 =>
   aK (Mem.ld vt ⟨k1, (0 + 1), none⟩) .i64 fun Gf =>
   aK (Mem.ld vt ⟨k1, (0 + 2), none⟩) .i64 fun Eu =>
   az (Mem.ld vt ⟨k1, (0 + 3), none⟩) fun Wv zi H8 =>
   K (.agg #[(.int .i64 H6), (.int .i64 Gf), (.int .i64 Eu), (.slice Wv zi H8)]) vt) Kp)
  (J24 [] dn)) ∧
 ∀ junk52 : Nat → Value, ∀ Je : Mem, (J24 [] Je) → aa Tryz.prog 150 #[(.pointer (some ⟨b0, o0, none⟩)), (.pointer (some ⟨gx, (de + ((Int.toNat eD) * 3)), none⟩))] Je (fun MM r7 =>
 ∃ PM : Int, ∃ t57 : Bool, (MM = (.tuple #[(.int .i64 PM), (.bool t57)])) ∧
 aS (!t57)
  (aK (Mem.ld r7 ⟨b0, (o0 + 1), none⟩) .i64 fun Gd =>
  ∃ WE : List Value → Mem → Prop, (aS (decide ((Gd : Int) > 1))
   (cw (Mem.ld r7 ⟨b0, (o0 + 8), none⟩) fun A60 =>
    aK (Mem.ld r7 ⟨b0, (o0 + 1), none⟩) .i64 fun Mx =>
    aa Tryz.prog 107 #[(.pointer A60), (.int .i64 2), (.int .i64 Mx)] r7 (fun SH w5 =>
    aK (some SH) .i64 fun n64 =>
    cw (Mem.ld w5 ⟨gx, (de + ((Int.toNat eD) * 3)), none⟩) fun SS =>
    az (Mem.ld w5 ⟨b0, (o0 + 5), none⟩) fun PN xd K3 =>
    ((0 : Int) ≤ n64) ∧
    ((n64 : Int) < ((xd : Nat) : Int)) ∧
    aE PN fun MN zn =>
    cw (Mem.ld w5 ⟨MN, (zn + ((Int.toNat n64) * 3)), none⟩) fun MH =>
    aa Tryz.prog 151 #[(.pointer SS), (.pointer MH)] w5 (fun v72 B8 =>
    ∃ Od : Int, ∃ t75 : Bool, (v72 = (.tuple #[(.int .i64 Od), (.bool t75)])) ∧
    WE [(.int .i64 5), (.int .i64 Od), (.bool t75)] B8) Kp) Kp)
   (WE [(.int .i64 4), (.int .i64 PM), (.bool t57)] r7)) ∧
  ∀ WG : Nat → Value, ∀ Di : Int, ∀ Fu : Int, ∀ t79 : Bool, ∀ Ey : Mem, (WE [(.int .i64 Di), (.int .i64 Fu), (.bool t79)] Ey) → aS (!t79)
   (az (Mem.ld Ey ⟨b0, (o0 + 6), none⟩) fun Wm Jf zQ =>
   aP Ey ⟨gx, ((de + ((Int.toNat eD) * 3)) + 2), none⟩ (.int .i64 (-1)) fun Gv =>
   ((0 : Int) ≤ x1) ∧
   ((x1 : Int) < ((Jf : Nat) : Int)) ∧
   aE Wm fun Oe K4 =>
   aP Gv ⟨Oe, (K4 + ((Int.toNat x1) * 3)), none⟩ (.int .i64 (-1)) fun GB =>
   aP GB ⟨Oe, ((K4 + ((Int.toNat x1) * 3)) + 1), none⟩ (.int .i64 (-1)) fun RT =>
   aP RT ⟨Oe, ((K4 + ((Int.toNat x1) * 3)) + 2), none⟩ (.int .i64 0) fun Gs =>
   aP Gs ⟨k1, 0, none⟩ (.int .i64 6) fun U5 =>
   aP U5 ⟨k1, (0 + 1), none⟩ (.int .i64 x1) fun mh =>
   aP mh ⟨k1, (0 + 2), none⟩ (.int .i64 (-1)) fun M92 =>
   aP M92 ⟨k1, (0 + 3), none⟩ (.slice none 0 0) fun Ct =>
   aK (Mem.ld Ct ⟨k1, 0, none⟩) .i64 fun Pg =>
   aK (Mem.ld Ct ⟨k1, (0 + 1), none⟩) .i64 fun IU =>
   aK (Mem.ld Ct ⟨k1, (0 + 2), none⟩) .i64 fun My =>
   az (Mem.ld Ct ⟨k1, (0 + 3), none⟩) fun A97 WH ZI =>
   K (.agg #[(.int .i64 Pg), (.int .i64 IU), (.int .i64 My), (.slice A97 WH ZI)]) Ct)
   (aK (Mem.ld Ey ⟨gx, ((de + ((Int.toNat eD) * 3)) + 1), none⟩) .i64 fun vT =>
   aP Ey ⟨gx, ((de + ((Int.toNat eD) * 3)) + 1), none⟩ (.int .i64 (IntKind.wrap .i64 (vT + 1))) fun iS =>
   az (Mem.ld iS ⟨b0, (o0 + 6), none⟩) fun AQ nG Cu =>
   az (Mem.ld iS ⟨b0, (o0 + 6), none⟩) fun EE wj MO =>
   aK (Mem.ld iS ⟨b0, ((o0 + 1) + 3), none⟩) .i64 fun AN =>
   ((0 : Int) ≤ x1) ∧
   ((x1 : Int) < ((nG : Nat) : Int)) ∧
   aE AQ fun Jn GC =>
   aP iS ⟨Jn, ((GC + ((Int.toNat x1) * 3)) + 1), none⟩ (.int .i64 Fu) fun oL =>
   ((0 : Int) ≤ x1) ∧
   ((x1 : Int) < ((wj : Nat) : Int)) ∧
   aE EE fun EF AR =>
   aP oL ⟨EF, ((AR + ((Int.toNat x1) * 3)) + 2), none⟩ (.int .i64 AN) fun zu =>
   aP zu ⟨k1, 0, none⟩ (.int .i64 Di) fun EG =>
   aP EG ⟨k1, (0 + 1), none⟩ (.int .i64 x1) fun wv =>
   aP wv ⟨k1, (0 + 2), none⟩ (.int .i64 Fu) fun Jk =>
   aP Jk ⟨k1, (0 + 3), none⟩ (.slice none 0 0) fun oK =>
   aK (Mem.ld oK ⟨k1, 0, none⟩) .i64 fun PO =>
   aK (Mem.ld oK ⟨k1, (0 + 1), none⟩) .i64 fun AO =>
   aK (Mem.ld oK ⟨k1, (0 + 2), none⟩) .i64 fun AP =>
   az (Mem.ld oK ⟨k1, (0 + 3), none⟩) fun PR EH Jl =>
   K (.agg #[(.int .i64 PO), (.int .i64 AO), (.int .i64 AP), (.slice PR EH Jl)]) oK))
  (∃ PS : List Value → Mem → Prop, (PS [(.int .i64 4), (.int .i64 PM), (.bool t57)] r7) ∧
  ∀ S0 : Nat → Value, ∀ EI : Int, ∀ zp : Int, ∀ t129 : Bool, ∀ tD : Mem, (PS [(.int .i64 EI), (.int .i64 zp), (.bool t129)] tD) → aS (!t129)
   (az (Mem.ld tD ⟨b0, (o0 + 6), none⟩) fun Gw Gx Gy =>
   aP tD ⟨gx, ((de + ((Int.toNat eD) * 3)) + 2), none⟩ (.int .i64 (-1)) fun PJ =>
   ((0 : Int) ≤ x1) ∧
   ((x1 : Int) < ((Gx : Nat) : Int)) ∧
   aE Gw fun Cv tE =>
   aP PJ ⟨Cv, (tE + ((Int.toNat x1) * 3)), none⟩ (.int .i64 (-1)) fun ML =>
   aP ML ⟨Cv, ((tE + ((Int.toNat x1) * 3)) + 1), none⟩ (.int .i64 (-1)) fun WI =>
   aP WI ⟨Cv, ((tE + ((Int.toNat x1) * 3)) + 2), none⟩ (.int .i64 0) fun zq =>
   aP zq ⟨k1, 0, none⟩ (.int .i64 6) fun WJ =>
   aP WJ ⟨k1, (0 + 1), none⟩ (.int .i64 x1) fun MP =>
   aP MP ⟨k1, (0 + 2), none⟩ (.int .i64 (-1)) fun PT =>
   aP PT ⟨k1, (0 + 3), none⟩ (.slice none 0 0) fun AS =>
   aK (Mem.ld AS ⟨k1, 0, none⟩) .i64 fun PU =>
   aK (Mem.ld AS ⟨k1, (0 + 1), none⟩) .i64 fun PV =>
   aK (Mem.ld AS ⟨k1, (0 + 2), none⟩) .i64 fun EJ =>
   az (Mem.ld AS ⟨k1, (0 + 3), none⟩) fun WK PW WL =>
   K (.agg #[(.int .i64 PU), (.int .i64 PV), (.int .i64 EJ), (.slice WK PW WL)]) AS)
   (aK (Mem.ld tD ⟨gx, ((de + ((Int.toNat eD) * 3)) + 1), none⟩) .i64 fun PK =>
   aP tD ⟨gx, ((de + ((Int.toNat eD) * 3)) + 1), none⟩ (.int .i64 (IntKind.wrap .i64 (PK + 1))) fun AT =>
   az (Mem.ld AT ⟨b0, (o0 + 6), none⟩) fun PX PY PL =>
   az (Mem.ld AT ⟨b0, (o0 + 6), none⟩) fun Jo Jp Jq =>
   aK (Mem.ld AT ⟨b0, ((o0 + 1) + 3), none⟩) .i64 fun WM =>
   ((0 : Int) ≤ x1) ∧
   ((x1 : Int) < ((PY : Nat) : Int)) ∧
   aE PX fun WN WO =>
   aP AT ⟨WN, ((WO + ((Int.toNat x1) * 3)) + 1), none⟩ (.int .i64 zp) fun xK =>
   ((0 : Int) ≤ x1) ∧
   ((x1 : Int) < ((Jp : Nat) : Int)) ∧
   aE Jo fun EK PZ =>
   aP xK ⟨EK, ((PZ + ((Int.toNat x1) * 3)) + 2), none⟩ (.int .i64 WM) fun AU =>
   aP AU ⟨k1, 0, none⟩ (.int .i64 EI) fun P0 =>
   aP P0 ⟨k1, (0 + 1), none⟩ (.int .i64 x1) fun P2 =>
   aP P2 ⟨k1, (0 + 2), none⟩ (.int .i64 zp) fun Cw =>
   aP Cw ⟨k1, (0 + 3), none⟩ (.slice none 0 0) fun AV =>
   aK (Mem.ld AV ⟨k1, 0, none⟩) .i64 fun P3 =>
   aK (Mem.ld AV ⟨k1, (0 + 1), none⟩) .i64 fun P4 =>
   aK (Mem.ld AV ⟨k1, (0 + 2), none⟩) .i64 fun P5 =>
   az (Mem.ld AV ⟨k1, (0 + 3), none⟩) fun WQ GD WR =>
   K (.agg #[(.int .i64 P3), (.int .i64 P4), (.int .i64 P5), (.slice WQ GD WR)]) AV))) Kp) Kp)
 (∃ J175 : List Value → Mem → Prop, (J175 [] M2) ∧
 ∀ junk176 : Nat → Value, ∀ M177 : Mem, (J175 [] M177) → aa Tryz.prog 150 #[(.pointer (some ⟨b0, o0, none⟩)), (.pointer (some ⟨gx, (de + ((Int.toNat eD) * 3)), none⟩))] M177 (fun v178 MQ =>
 ∃ WS : Int, ∃ t181 : Bool, (v178 = (.tuple #[(.int .i64 WS), (.bool t181)])) ∧
 aS (!t181)
  (aK (Mem.ld MQ ⟨b0, (o0 + 1), none⟩) .i64 fun n182 =>
  ∃ WT : List Value → Mem → Prop, (aS (decide ((n182 : Int) > 1))
   (cw (Mem.ld MQ ⟨b0, (o0 + 8), none⟩) fun A184 =>
    aK (Mem.ld MQ ⟨b0, (o0 + 1), none⟩) .i64 fun P6 =>
    aa Tryz.prog 107 #[(.pointer A184), (.int .i64 2), (.int .i64 P6)] MQ (fun v186 S1 =>
    aK (some v186) .i64 fun Jr =>
    cw (Mem.ld S1 ⟨gx, (de + ((Int.toNat eD) * 3)), none⟩) fun A189 =>
    az (Mem.ld S1 ⟨b0, (o0 + 5), none⟩) fun A190 k191 WU =>
    ((0 : Int) ≤ Jr) ∧
    ((Jr : Int) < ((k191 : Nat) : Int)) ∧
    aE A190 fun k193 k194 =>
    cw (Mem.ld S1 ⟨k193, (k194 + ((Int.toNat Jr) * 3)), none⟩) fun A195 =>
    aa Tryz.prog 151 #[(.pointer A189), (.pointer A195)] S1 (fun v196 P7 =>
    ∃ S2 : Int, ∃ t199 : Bool, (v196 = (.tuple #[(.int .i64 S2), (.bool t199)])) ∧
    WT [(.int .i64 5), (.int .i64 S2), (.bool t199)] P7) Kp) Kp)
   (WT [(.int .i64 4), (.int .i64 WS), (.bool t181)] MQ)) ∧
  ∀ junk200 : Nat → Value, ∀ S3 : Int, ∀ P8 : Int, ∀ t203 : Bool, ∀ P9 : Mem, (WT [(.int .i64 S3), (.int .i64 P8), (.bool t203)] P9) → aS (!t203)
   (az (Mem.ld P9 ⟨b0, (o0 + 6), none⟩) fun WW WX k207 =>
   aP P9 ⟨gx, ((de + ((Int.toNat eD) * 3)) + 2), none⟩ (.int .i64 (-1)) fun M208 =>
   ((0 : Int) ≤ x1) ∧
   ((x1 : Int) < ((WX : Nat) : Int)) ∧
   aE WW fun WY WZ =>
   aP M208 ⟨WY, (WZ + ((Int.toNat x1) * 3)), none⟩ (.int .i64 (-1)) fun M211 =>
   aP M211 ⟨WY, ((WZ + ((Int.toNat x1) * 3)) + 1), none⟩ (.int .i64 (-1)) fun S4 =>
   aP S4 ⟨WY, ((WZ + ((Int.toNat x1) * 3)) + 2), none⟩ (.int .i64 0) fun W0 =>
   aP W0 ⟨k1, 0, none⟩ (.int .i64 6) fun W1 =>
   aP W1 ⟨k1, (0 + 1), none⟩ (.int .i64 x1) fun M215 =>
   aP M215 ⟨k1, (0 + 2), none⟩ (.int .i64 (-1)) fun M216 =>
   aP M216 ⟨k1, (0 + 3), none⟩ (.slice none 0 0) fun GF =>
   aK (Mem.ld GF ⟨k1, 0, none⟩) .i64 fun n218 =>
   aK (Mem.ld GF ⟨k1, (0 + 1), none⟩) .i64 fun n219 =>
   aK (Mem.ld GF ⟨k1, (0 + 2), none⟩) .i64 fun n220 =>
   az (Mem.ld GF ⟨k1, (0 + 3), none⟩) fun A221 k222 W2 =>
   K (.agg #[(.int .i64 n218), (.int .i64 n219), (.int .i64 n220), (.slice A221 k222 W2)]) GF)
   (aK (Mem.ld P9 ⟨gx, ((de + ((Int.toNat eD) * 3)) + 1), none⟩) .i64 fun W3 =>
   aP P9 ⟨gx, ((de + ((Int.toNat eD) * 3)) + 1), none⟩ (.int .i64 (IntKind.wrap .i64 (W3 + 1))) fun S5 =>
   az (Mem.ld S5 ⟨b0, (o0 + 6), none⟩) fun W4 W5 k228 =>
   az (Mem.ld S5 ⟨b0, (o0 + 6), none⟩) fun A229 W6 k231 =>
   aK (Mem.ld S5 ⟨b0, ((o0 + 1) + 3), none⟩) .i64 fun n232 =>
   ((0 : Int) ≤ x1) ∧
   ((x1 : Int) < ((W5 : Nat) : Int)) ∧
   aE W4 fun k233 W7 =>
   aP S5 ⟨k233, ((W7 + ((Int.toNat x1) * 3)) + 1), none⟩ (.int .i64 P8) fun M235 =>
   ((0 : Int) ≤ x1) ∧
   ((x1 : Int) < ((W6 : Nat) : Int)) ∧
   aE A229 fun k236 W8 =>
   aP M235 ⟨k236, ((W8 + ((Int.toNat x1) * 3)) + 2), none⟩ (.int .i64 n232) fun W9 =>
   aP W9 ⟨k1, 0, none⟩ (.int .i64 S3) fun Xa =>
   aP Xa ⟨k1, (0 + 1), none⟩ (.int .i64 x1) fun S6 =>
   aP S6 ⟨k1, (0 + 2), none⟩ (.int .i64 P8) fun M241 =>
   aP M241 ⟨k1, (0 + 3), none⟩ (.slice none 0 0) fun Qa =>
   aK (Mem.ld Qa ⟨k1, 0, none⟩) .i64 fun Xb =>
   aK (Mem.ld Qa ⟨k1, (0 + 1), none⟩) .i64 fun Xc =>
   aK (Mem.ld Qa ⟨k1, (0 + 2), none⟩) .i64 fun Xd =>
   az (Mem.ld Qa ⟨k1, (0 + 3), none⟩) fun A246 k247 Xe =>
   K (.agg #[(.int .i64 Xb), (.int .i64 Xc), (.int .i64 Xd), (.slice A246 k247 Xe)]) Qa))
  (∃ J249 : List Value → Mem → Prop, (J249 [(.int .i64 4), (.int .i64 WS), (.bool t181)] MQ) ∧
  ∀ junk250 : Nat → Value, ∀ n251 : Int, ∀ Xf : Int, ∀ t253 : Bool, ∀ Qb : Mem, (J249 [(.int .i64 n251), (.int .i64 Xf), (.bool t253)] Qb) → aS (!t253)
   (az (Mem.ld Qb ⟨b0, (o0 + 6), none⟩) fun A255 Xg k257 =>
   aP Qb ⟨gx, ((de + ((Int.toNat eD) * 3)) + 2), none⟩ (.int .i64 (-1)) fun M258 =>
   ((0 : Int) ≤ x1) ∧
   ((x1 : Int) < ((Xg : Nat) : Int)) ∧
   aE A255 fun Xh Xi =>
   aP M258 ⟨Xh, (Xi + ((Int.toNat x1) * 3)), none⟩ (.int .i64 (-1)) fun M261 =>
   aP M261 ⟨Xh, ((Xi + ((Int.toNat x1) * 3)) + 1), none⟩ (.int .i64 (-1)) fun M262 =>
   aP M262 ⟨Xh, ((Xi + ((Int.toNat x1) * 3)) + 2), none⟩ (.int .i64 0) fun M263 =>
   aP M263 ⟨k1, 0, none⟩ (.int .i64 6) fun M264 =>
   aP M264 ⟨k1, (0 + 1), none⟩ (.int .i64 x1) fun M265 =>
   aP M265 ⟨k1, (0 + 2), none⟩ (.int .i64 (-1)) fun M266 =>
   aP M266 ⟨k1, (0 + 3), none⟩ (.slice none 0 0) fun GH =>
   aK (Mem.ld GH ⟨k1, 0, none⟩) .i64 fun Xj =>
   aK (Mem.ld GH ⟨k1, (0 + 1), none⟩) .i64 fun Xk =>
   aK (Mem.ld GH ⟨k1, (0 + 2), none⟩) .i64 fun Xl =>
   az (Mem.ld GH ⟨k1, (0 + 3), none⟩) fun A271 k272 k273 =>
   K (.agg #[(.int .i64 Xj), (.int .i64 Xk), (.int .i64 Xl), (.slice A271 k272 k273)]) GH)
   (aK (Mem.ld Qb ⟨gx, ((de + ((Int.toNat eD) * 3)) + 1), none⟩) .i64 fun Xm =>
   aP Qb ⟨gx, ((de + ((Int.toNat eD) * 3)) + 1), none⟩ (.int .i64 (IntKind.wrap .i64 (Xm + 1))) fun S7 =>
   az (Mem.ld S7 ⟨b0, (o0 + 6), none⟩) fun A276 k277 k278 =>
   az (Mem.ld S7 ⟨b0, (o0 + 6), none⟩) fun A279 k280 k281 =>
   aK (Mem.ld S7 ⟨b0, ((o0 + 1) + 3), none⟩) .i64 fun Xn =>
   ((0 : Int) ≤ x1) ∧
   ((x1 : Int) < ((k277 : Nat) : Int)) ∧
   aE A276 fun k283 k284 =>
   aP S7 ⟨k283, ((k284 + ((Int.toNat x1) * 3)) + 1), none⟩ (.int .i64 Xf) fun S8 =>
   ((0 : Int) ≤ x1) ∧
   ((x1 : Int) < ((k280 : Nat) : Int)) ∧
   aE A279 fun k286 k287 =>
   aP S8 ⟨k286, ((k287 + ((Int.toNat x1) * 3)) + 2), none⟩ (.int .i64 Xn) fun M288 =>
   aP M288 ⟨k1, 0, none⟩ (.int .i64 n251) fun M289 =>
   aP M289 ⟨k1, (0 + 1), none⟩ (.int .i64 x1) fun M290 =>
   aP M290 ⟨k1, (0 + 2), none⟩ (.int .i64 Xf) fun M291 =>
   aP M291 ⟨k1, (0 + 3), none⟩ (.slice none 0 0) fun Qc =>
   aK (Mem.ld Qc ⟨k1, 0, none⟩) .i64 fun n293 =>
   aK (Mem.ld Qc ⟨k1, (0 + 1), none⟩) .i64 fun Xo =>
   aK (Mem.ld Qc ⟨k1, (0 + 2), none⟩) .i64 fun Xp =>
   az (Mem.ld Qc ⟨k1, (0 + 3), none⟩) fun A296 k297 k298 =>
   K (.agg #[(.int .i64 n293), (.int .i64 Xo), (.int .i64 Xp), (.slice A296 k297 k298)]) Qc))) Kp)) :
 aa Tryz.prog 110 ([.pointer (some ⟨b0, o0, none⟩), .int .i64 x1] : List Value).toArray M K Kp :=
 bY (C := Cx) good [(1, .bS [0, 1, 3, 7, 0, 16, 48, 112, 0, 496, 1008, 2032, 4095, 8191] (.step 0 (.step 1 (.step 2 (.step 4 (.step 5 (.step 6 (.step 8 (.step 3 (.step 7 (.step 9 (.step 10 (.step 11 (.step 12 (.step 13 .done))))))))))))))), (3000039, .cut []), (3, .bS [0, 1, 3, 7, 0, 0, 32, 96, 224, 480, 992, 2016, 2016, 4095, 12287, 28671] (.step 0 (.step 1 (.step 2 (.step 4 (.step 5 (.step 6 (.step 7 (.step 8 (.cY 3 (.step 9 (.step 10 (.step 11 (.step 12 (.step 13 (.step 14 (.step 15 .done))))))))))))))))), (3000080, .cut [(6, .c (.int .i64)), (7, .c (.int .i64)), (8, .c .bool)]), (8, .bS [0, 1, 3, 7, 0, 16, 48, 112, 240, 511, 1023] (.step 0 (.step 1 (.step 2 (.step 4 (.step 5 (.step 6 (.step 7 (.step 3 (.step 8 (.step 9 (.step 10 .done)))))))))))), (10, .bS [0, 1, 3, 7, 0, 16, 48, 112, 0, 496, 1008, 2032, 4095, 8191, 16383, 16383, 32767, 131071] (.step 0 (.step 1 (.step 2 (.step 4 (.step 5 (.step 6 (.step 8 (.step 3 (.step 7 (.step 9 (.step 10 (.step 11 (.step 12 (.step 13 (.step 14 (.step 15 (.step 16 (.step 17 .done))))))))))))))))))), (15, .bS [0, 1, 3, 7, 0, 0, 32, 96, 224, 0, 0, 0, 2048, 6144, 14336, 30720, 65023, 130559, 261631, 524287, 1048575, 2097151] (.step 0 (.step 1 (.step 2 (.step 4 (.step 5 (.step 6 (.step 7 (.step 9 (.step 10 (.step 11 (.step 12 (.step 13 (.step 14 (.step 3 (.step 8 (.step 15 (.step 16 (.step 17 (.step 18 (.step 19 (.step 20 (.step 21 .done)))))))))))))))))))))))] Tryz.func110 (by kernel_rfl) (by kernel_rfl) h
theorem uR {b0 o0 : Nat} {x1 : Int} (h :
aX M (.cells #[(.int .i64 0), (.int .i64 0), (.int .i64 0), (.slice none 0 0)] 43 (0, 0)) fun k1 M2 =>
az (Mem.ld M2 ⟨b0, (o0 + 6), none⟩) fun A3 k4 k5 =>
((0 : Int) ≤ x1) ∧
((x1 : Int) < ((k4 : Nat) : Int)) ∧
aE A3 fun k6 k7 =>
aK (Mem.ld M2 ⟨k6, ((k7 + ((Int.toNat x1) * 3)) + 1), none⟩) .i64 fun n8 =>
cw (Mem.ld M2 ⟨b0, o0, none⟩) fun A9 =>
cw (Mem.ld M2 ⟨b0, (o0 + 8), none⟩) fun yG =>
(True) ∧
aa Tryz.prog 121 #[(.pointer A9), (.int .i64 n8), (.func (.func 107) #[(.pointer yG)] #[])] M2 (fun v11 jP =>
∃ t13 : Bool, ∃ pn : Option Addr, ∃ hU : Nat, ∃ eN : Nat, (v11 = (.agg #[(.bool t13), (.slice pn hU eN)])) ∧
aX jP (.cells #[(.bool false), (.slice none 0 0)] 250 (0, 0)) fun ei m6 =>
aP m6 ⟨ei, 0, none⟩ (.bool t13) fun jx =>
aP jx ⟨ei, (0 + 1), none⟩ (.slice pn hU eN) fun mb =>
az (Mem.ld mb ⟨ei, (0 + 1), none⟩) fun zk gF iT =>
∃ Xq : Nat → List Value → Mem → Prop, (∃ nZ : Nat, Xq nZ [(.int .i64 0)] mb) ∧
∀ jW : Nat, ∀ Xr : Nat → Value, ∀ ux : Int, ∀ mE : Mem, (Xq jW [(.int .i64 ux)] mE) → aS (decide ((ux : Int) < ((gF : Nat) : Int)))
 (((0 : Int) ≤ ux) ∧
 ((ux : Int) < ((gF : Nat) : Int)) ∧
 aE zk fun mq mu =>
 aK (Mem.ld mE ⟨mq, (mu + (Int.toNat ux)), none⟩) .i64 fun n32 =>
 az (Mem.ld mE ⟨b0, (o0 + 5), none⟩) fun Ge vS zg =>
 aK (Mem.ld mE ⟨k6, (k7 + ((Int.toNat x1) * 3)), none⟩) .i64 fun w9 =>
 ((0 : Int) ≤ w9) ∧
 ((w9 : Int) < ((vS : Nat) : Int)) ∧
 aE Ge fun uA ia =>
 cw (Mem.ld mE ⟨uA, (ia + ((Int.toNat w9) * 3)), none⟩) fun Pf =>
 aa Tryz.prog 152 #[(.pointer Pf), (.int .i64 n32), (.pointer (some ⟨b0, (o0 + 7), none⟩))] mE (fun Es uB =>
 aK (some Es) .i64 fun SG =>
 ∃ qq : Nat, (qq < jW) ∧
 Xq qq [(.int .i64 (IntKind.wrap .i64 (ux + 1)))] uB) Kp)
 (aK (Mem.ld mE ⟨k6, ((k7 + ((Int.toNat x1) * 3)) + 2), none⟩) .i64 fun Gq =>
 aP mE ⟨k6, ((k7 + ((Int.toNat x1) * 3)) + 2), none⟩ (.int .i64 (IntKind.wrap .i64 (Gq - 1))) fun vt =>
 dH (Mem.ld vt ⟨ei, 0, none⟩) fun t46 =>
 aS (!t46)
  (aP vt ⟨k6, ((k7 + ((Int.toNat x1) * 3)) + 1), none⟩ (.int .i64 (-1)) fun uF =>
  cw (Mem.ld uF ⟨b0, o0, none⟩) fun N7 =>
  aa Tryz.prog 119 #[(.pointer N7), (.int .i64 n8)] uF (fun Mv B5 =>
  aK (some Mv) .i64 fun Cr =>
  aS (Cr == 1)
   (aX B5 (.cells #[(.int .i64 n8)] 3 (0, 0)) fun lU Je =>
   aa Tryz.prog 58 #[(.pointer (some ⟨b0, (o0 + 7), none⟩)), (.slice (some ⟨lU, 0, none⟩) 1 1)] Je (fun MM r7 =>
   (MM = (.tuple #[])) ∧
   az (Mem.ld r7 ⟨ei, (0 + 1), none⟩) fun Ps xF Gg =>
   aP r7 ⟨k1, 0, none⟩ (.int .i64 7) fun B7 =>
   aP B7 ⟨k1, (0 + 1), none⟩ (.int .i64 x1) fun zj =>
   aP zj ⟨k1, (0 + 2), none⟩ (.int .i64 n8) fun Dh =>
   aP Dh ⟨k1, (0 + 3), none⟩ (.slice Ps xF Gg) fun vp =>
   aK (Mem.ld vp ⟨k1, 0, none⟩) .i64 fun Ck =>
   aK (Mem.ld vp ⟨k1, (0 + 1), none⟩) .i64 fun n64 =>
   aK (Mem.ld vp ⟨k1, (0 + 2), none⟩) .i64 fun zf =>
   az (Mem.ld vp ⟨k1, (0 + 3), none⟩) fun PN xd K3 =>
   K (.agg #[(.int .i64 Ck), (.int .i64 n64), (.int .i64 zf), (.slice PN xd K3)]) vp) Kp)
   (az (Mem.ld B5 ⟨ei, (0 + 1), none⟩) fun A69 zn Gr =>
   aP B5 ⟨k1, 0, none⟩ (.int .i64 7) fun UO =>
   aP UO ⟨k1, (0 + 1), none⟩ (.int .i64 x1) fun B8 =>
   aP B8 ⟨k1, (0 + 2), none⟩ (.int .i64 n8) fun Gp =>
   aP Gp ⟨k1, (0 + 3), none⟩ (.slice A69 zn Gr) fun xJ =>
   aK (Mem.ld xJ ⟨k1, 0, none⟩) .i64 fun KV =>
   aK (Mem.ld xJ ⟨k1, (0 + 1), none⟩) .i64 fun Di =>
   aK (Mem.ld xJ ⟨k1, (0 + 2), none⟩) .i64 fun Fu =>
   az (Mem.ld xJ ⟨k1, (0 + 3), none⟩) fun RN Ic RO =>
   K (.agg #[(.int .i64 KV), (.int .i64 Di), (.int .i64 Fu), (.slice RN Ic RO)]) xJ)) Kp)
  (aK (Mem.ld vt ⟨k6, ((k7 + ((Int.toNat x1) * 3)) + 2), none⟩) .i64 fun IQ =>
  aS (IQ == 0)
   (aP vt ⟨k6, ((k7 + ((Int.toNat x1) * 3)) + 1), none⟩ (.int .i64 (-1)) fun Ib =>
   cw (Mem.ld Ib ⟨b0, o0, none⟩) fun A84 =>
   aa Tryz.prog 119 #[(.pointer A84), (.int .i64 n8)] Ib (fun v85 SR =>
   aK (some v85) .i64 fun n87 =>
   aS (n87 == 1)
    (aX SR (.cells #[(.int .i64 n8)] 3 (0, 0)) fun MG Gs =>
    aa Tryz.prog 58 #[(.pointer (some ⟨b0, (o0 + 7), none⟩)), (.slice (some ⟨MG, 0, none⟩) 1 1)] Gs (fun PD mh =>
    (PD = (.tuple #[])) ∧
    az (Mem.ld mh ⟨ei, (0 + 1), none⟩) fun SN SY SO =>
    aP mh ⟨k1, 0, none⟩ (.int .i64 7) fun Js =>
    aP Js ⟨k1, (0 + 1), none⟩ (.int .i64 x1) fun M96 =>
    aP M96 ⟨k1, (0 + 2), none⟩ (.int .i64 n8) fun K2 =>
    aP K2 ⟨k1, (0 + 3), none⟩ (.slice SN SY SO) fun Dp =>
    aK (Mem.ld Dp ⟨k1, 0, none⟩) .i64 fun RR =>
    aK (Mem.ld Dp ⟨k1, (0 + 1), none⟩) .i64 fun vT =>
    aK (Mem.ld Dp ⟨k1, (0 + 2), none⟩) .i64 fun Ph =>
    az (Mem.ld Dp ⟨k1, (0 + 3), none⟩) fun AQ nG Cu =>
    K (.agg #[(.int .i64 RR), (.int .i64 vT), (.int .i64 Ph), (.slice AQ nG Cu)]) Dp) Kp)
    (az (Mem.ld SR ⟨ei, (0 + 1), none⟩) fun EE wj MO =>
    aP SR ⟨k1, 0, none⟩ (.int .i64 7) fun uS =>
    aP uS ⟨k1, (0 + 1), none⟩ (.int .i64 x1) fun vU =>
    aP vU ⟨k1, (0 + 2), none⟩ (.int .i64 n8) fun Xs =>
    aP Xs ⟨k1, (0 + 3), none⟩ (.slice EE wj MO) fun oL =>
    aK (Mem.ld oL ⟨k1, 0, none⟩) .i64 fun AB =>
    aK (Mem.ld oL ⟨k1, (0 + 1), none⟩) .i64 fun IV =>
    aK (Mem.ld oL ⟨k1, (0 + 2), none⟩) .i64 fun Pm =>
    az (Mem.ld oL ⟨k1, (0 + 3), none⟩) fun Xt MR Qd =>
    K (.agg #[(.int .i64 AB), (.int .i64 IV), (.int .i64 Pm), (.slice Xt MR Qd)]) oL)) Kp)
   (az (Mem.ld vt ⟨ei, (0 + 1), none⟩) fun Xu EL Xv =>
   aP vt ⟨k1, 0, none⟩ (.int .i64 7) fun Xw =>
   aP Xw ⟨k1, (0 + 1), none⟩ (.int .i64 x1) fun Xx =>
   aP Xx ⟨k1, (0 + 2), none⟩ (.int .i64 n8) fun MS =>
   aP MS ⟨k1, (0 + 3), none⟩ (.slice Xu EL Xv) fun xL =>
   aK (Mem.ld xL ⟨k1, 0, none⟩) .i64 fun Jt =>
   aK (Mem.ld xL ⟨k1, (0 + 1), none⟩) .i64 fun Qe =>
   aK (Mem.ld xL ⟨k1, (0 + 2), none⟩) .i64 fun EI =>
   az (Mem.ld xL ⟨k1, (0 + 3), none⟩) fun Xy Qf Xz =>
   K (.agg #[(.int .i64 Jt), (.int .i64 Qe), (.int .i64 EI), (.slice Xy Qf Xz)]) xL)))) Kp) :
 aa Tryz.prog 111 ([.pointer (some ⟨b0, o0, none⟩), .int .i64 x1] : List Value).toArray M K Kp :=
 bY (C := Cx) good [(3, .bS [0, 1, 3, 7, 0, 0, 32, 96, 224, 480, 1023, 0, 4095] (.step 0 (.step 1 (.step 2 (.step 4 (.step 5 (.step 6 (.step 7 (.step 3 (.step 8 (.step 9 (.late 10 (.step 11 (.step 12 .done)))))))))))))), (2000000, .loop [(34, .c (.int .i64))]), (7, .bS [0, 1, 3, 7, 0, 16, 48, 112, 255, 511, 1023, 0, 0, 4096, 12288, 32767] (.step 0 (.step 1 (.step 2 (.step 4 (.step 5 (.step 6 (.step 11 (.step 12 (.step 13 (.step 14 (.step 3 (.step 7 (.step 8 (.step 9 (.step 10 (.step 15 .done)))))))))))))))))] Tryz.func111 (by kernel_rfl) (by kernel_rfl) h
theorem uT {b0 o0 : Nat} {b1 o1 : Nat} (h :
rP M b1 o1 fun A1 =>
aa Tryz.prog 178 #[(.pointer A1), (.pointer (some ⟨b0, (o0 + 7), none⟩))] M (fun v2 M3 =>
aK (some v2) .i64 fun n4 =>
rI M3 b1 (o1 + 1) fun n5 =>
((7 : Int) ≠ 0) ∧
aS ((Int.tmod n5 7) == 6)
 (aa Tryz.prog 179 #[(.pointer (some ⟨b0, (o0 + 7), none⟩)), (iV 1)] M3 (fun v6 M7 =>
 az (some v6) fun A8 k9 c6 =>
 aS ((k9 : Int) == 1)
 (((0 : Int) ≤ 0) ∧
 ((0 : Int) < k9) ∧
 aE A8 fun dQ gx =>
 rI M7 dQ (gx + 0) fun iq =>
 K (.tuple #[(iV iq), (.bool true)]) M7)
 (rP M7 b1 o1 fun pn =>
 aa Tryz.prog 149 #[(.pointer pn)] M7 (fun ur dZ =>
 ∃ iB : Int, ∃ t18 : Bool, (ur = (.tuple #[(iV iB), (.bool t18)])) ∧
 aS t18
 (K (.tuple #[(iV iB), (.bool true)]) dZ)
 (rP dZ b1 o1 fun yH =>
 aa Tryz.prog 180 #[(.pointer yH), (.pointer (some ⟨b0, (o0 + 7), none⟩)), (iV 0)] dZ (fun v20 jC =>
 ∃ oE : Int, ∃ t23 : Bool, (v20 = (.tuple #[(iV oE), (.bool t23)])) ∧
 K (.tuple #[(iV oE), (.bool t23)]) jC) Kp)) Kp)) Kp)
 (rP M3 b1 o1 fun ze =>
 aa Tryz.prog 149 #[(.pointer ze)] M3 (fun MB vr =>
 ∃ w7 : Int, ∃ t28 : Bool, (MB = (.tuple #[(iV w7), (.bool t28)])) ∧
 aS t28
 (K (.tuple #[(iV w7), (.bool true)]) vr)
 (rP vr b1 o1 fun RI =>
 aa Tryz.prog 180 #[(.pointer RI), (.pointer (some ⟨b0, (o0 + 7), none⟩)), (iV 0)] vr (fun v30 Jd =>
 ∃ n32 : Int, ∃ t33 : Bool, (v30 = (.tuple #[(iV n32), (.bool t33)])) ∧
 K (.tuple #[(iV n32), (.bool t33)]) Jd) Kp)) Kp)) Kp) :
 aa Tryz.prog 150 #[.pointer (some ⟨b0, o0, none⟩), .pointer (some ⟨b1, o1, none⟩)] M K Kp := vw [(1, .bS [0, 1, 3, 7, 0, 16, 48, 127] (sy [0, 1, 2, 4, 5, 6, 3, 7] .done)), (9, .bS [0, 1, 3, 7, 0, 16, 48, 127, 255, 255, 1023, 2047] (sy [0, 1, 2, 4, 5, 6, 3, 7, 8, 9, 10, 11] .done))] Tryz.func150 h
end Go.Proofs
namespace Go.AF
theorem cZ.two : ∀ (zs : List HP) (i j : Nat), i ≠ j → i < zs.length → j < zs.length → ∃ rest, ∀ P Q, ∃ l1, cZ ((zs.set i P).set j Q) P l1 ∧ cZ l1 Q rest
 | [], _, _, _, h, _ => by simp at h
 | z :: zs, 0, 0, h, _, _ => absurd rfl h
 | z :: zs, 0, j + 1, _, _, hj => ⟨zs.eraseIdx j, fun P Q => ⟨zs.set j Q, by simp only [List.set_cons_zero, List.set_cons_succ]; exact .here, cZ.idx (by simpa using hj)⟩⟩
 | z :: zs, i + 1, 0, _, hi, _ => ⟨zs.eraseIdx i, fun P Q => ⟨Q :: zs.eraseIdx i, by simp only [List.set_cons_zero, List.set_cons_succ]; exact .there (cZ.idx (by simpa using hi)), .here⟩⟩
 | z :: zs, i + 1, j + 1, h, hi, hj => by
  obtain ⟨rest, hr⟩ := cZ.two zs i j (by omega) (by simpa using hi) (by simpa using hj)
  refine ⟨z :: rest, fun P Q => ?_⟩
  obtain ⟨l1, h1, h2⟩ := hr P Q
  exact ⟨z :: l1, by simp only [List.set_cons_succ]; exact .there h1, .there h2⟩
section
variable {α : Type} {r : um α} {R : Mem} {L L' nY : List HP} {M : Mem} {bs : List Nat} {cs : List α} {b b' i j : Nat} {c c' : α}
theorem Hp.Qg (h : Hp R L M) (r : um α) {bs : List Nat} {cs : List α} [o : gk r L bs cs L'] (hij : i ≠ j) (hb : bs[i]? = some b) (hc : cs[i]? = some c) (hb' : bs[j]? = some b') (HZ : cs[j]? = some c') :
  ∃ X : HP, Hp R (ay r b c :: ay r b' c' :: X :: L') M ∧ ∀ {R' : Mem} {L2 : List HP} {M' : Mem} {d d' : α}, Hp R' (ay r b d :: ay r b' d' :: X :: L2) M' → Hp R' (bp r bs ((cs.set i d).set j d') :: L2) M' := by
 have hi := (List.getElem?_eq_some_iff.1 hb).1
 have hj := (List.getElem?_eq_some_iff.1 hb').1
 have Qh := (List.getElem?_eq_some_iff.1 hc).1
 have KI := (List.getElem?_eq_some_iff.1 HZ).1
 have hl : (List.zipWith (ay r) bs cs).length = min bs.length cs.length := List.length_zipWith
 obtain ⟨rest, hr⟩ := cZ.two (List.zipWith (ay r) bs cs) i j hij (by omega) (by omega)
 refine ⟨sep rest, ?_, ?_⟩
 ·have h0 : Hp R (sep (List.zipWith (ay r) bs cs) :: L') M := h.pick o.pick
  obtain ⟨l1, p1, p2⟩ := hr (ay r b c) (ay r b' c')
  have e : ((List.zipWith (ay r) bs cs).set i (ay r b c)).set j (ay r b' c') = List.zipWith (ay r) bs cs := by
   rw [oH hb, oH hb']
   congr 1
   obtain ⟨_, e1⟩ := List.getElem?_eq_some_iff.1 hc
   obtain ⟨_, e2⟩ := List.getElem?_eq_some_iff.1 HZ
   subst e1; subst e2
   rw [List.set_getElem_self, List.set_getElem_self]
  rw [e] at p1
  refine h0.map fun A hs => ?_
  have h1 := cq.pick p1.app (cq.bl.1 hs)
  exact h1.tail fun B N5 => (cq.pick p2.app N5).tail fun C KX => cq.bl.2 KX
 ·intro R' L2 M' d d' h1
  obtain ⟨l1, p1, p2⟩ := hr (ay r b d) (ay r b' d')
  rw [oH hb, oH hb'] at p1
  show Hp R' (sep (List.zipWith (ay r) bs ((cs.set i d).set j d')) :: L2) M'
  refine h1.map fun A hs => cq.bl.2 (cq.ov p1.app ?_)
  exact hs.tail fun B N5 => cq.ov p2.app (N5.tail fun C KX => cq.bl.1 KX)
end
end Go.AF
