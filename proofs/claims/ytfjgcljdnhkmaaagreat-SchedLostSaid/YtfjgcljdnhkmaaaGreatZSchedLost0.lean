/- A part of proofs about one program. -/
import Derived.Scope
import Derived.Test.YtfjgcljdnhkmaaaGreatProg
import Derived.WalkKit
import Derived.Test.YtfjgcljdnhkmaaaGreatZSchedLostBase
import Derived.Test.YtfjgcljdnhkmaaaGreatZSchedLostOps
import Derived.Test.YtfjgcljdnhkmaaaGreatZSchedLostOpsB
import Derived.Test.YtfjgcljdnhkmaaaGreatZSchedLostOpC
import Derived.Test.YtfjgcljdnhkmaaaGreatZSchedLostFrame
import Derived.Test.YtfjgcljdnhkmaaaGreatZSchedLostReg
import Derived.Test.YtfjgcljdnhkmaaaGreatZSchedLostRegB
import Derived.Test.YtfjgcljdnhkmaaaGreatZSchedLostRegL
import Derived.Test.YtfjgcljdnhkmaaaGreatZSchedLostRegC
import Derived.Test.YtfjgcljdnhkmaaaGreatZSchedLostExec
import Derived.Test.YtfjgcljdnhkmaaaGreatZSchedLostSound
import Derived.Test.YtfjgcljdnhkmaaaGreatZSchedLostSoundB
import Derived.Test.YtfjgcljdnhkmaaaGreatZSchedLostLib
import Derived.Test.YtfjgcljdnhkmaaaGreatZSchedLostHp
import Derived.Test.YtfjgcljdnhkmaaaGreatZSchedLostRow
import Derived.Test.YtfjgcljdnhkmaaaGreatZSchedLostBig
import Derived.Test.YtfjgcljdnhkmaaaGreatZSchedLostStC
import Derived.Test.YtfjgcljdnhkmaaaGreatZSchedLostMod
set_option linter.unusedVariables false
namespace Go.Proofs
open Go.AF
noncomputable def Cx : Ctx := ⟨Tryz.prog, 228⟩
theorem good : Cx.Good := by
 refine ⟨?_, by kernel_rfl⟩
 have h : (List.range 226).all (fun g => oU Tryz.prog (g + 2)) = true := by kernel_rfl
 intro g hg
 have h1 : g < 228 := hg.2
 have := List.all_eq_true.1 h (g - 2) (List.mem_range.2 (by omega))
 have e : g - 2 + 2 = g := by omega
 simp only [e] at this
 exact this
end Go.Proofs
namespace Go.Proofs
open Go.AF
set_option maxRecDepth 100000
variable {M : Mem} {K : Value → Mem → Prop} {Kp : List PanicEntry → Mem → Prop}
theorem Ch {x0 : Int} (h :
bj M (.cells #[(iV (if (16 : Int) < (if (0 : Int) > x0 then 0 else x0) then 16 else (if (0 : Int) > x0 then 0 else x0))), (.slice none 0 0), (.slice none 0 0), (.slice none 0 0), (.bool false)] 236 (0, 0)) fun k1 M2 =>
K (.pointer (some ⟨k1, 0, none⟩)) M2) :
 ae Tryz.prog 72 ([.int .i64 x0] : List Value).toArray M K Kp :=
 aA (C := Cx) good [] Tryz.func72 (by kernel_rfl) (by kernel_rfl) h
theorem nu {b0 o0 : Nat} {cV : Int} {cW : Int} {cX : Int} (h :
bj M (.cells #[(iV cV), (iV cW), (iV cX)] 298 (0, 0)) fun k1 M2 =>
rS M2 b0 (o0 + 3) fun A3 k4 k5 =>
rI M2 k1 0 fun n6 =>
rI M2 k1 1 fun n7 =>
rI M2 k1 2 fun n8 =>
bj M2 (.cells #[(iV n6), (iV n7), (iV n8)] 298 (0, 0)) fun k9 gS =>
aS Tryz.prog (Go.Builtin.append_ #[199, 199] 199 #[(.slice A3 k4 k5), (.slice (some ⟨k9, 0, none⟩) 1 1)]) gS (fun v11 jH =>
aD (some v11) fun KP fX fT =>
sT jH b0 (o0 + 3) (.slice KP fX fT) fun eT =>
K (.tuple #[]) eT) Kp) :
 ae Tryz.prog 205 ([.pointer (some ⟨b0, o0, none⟩), .agg #[.int .i64 cV, .int .i64 cW, .int .i64 cX]] : List Value).toArray M K Kp :=
 aA (C := Cx) good [(1, .bS [0, 0, 2, 6, 14, 0, 32, 126, 255, 511, 1023] (.step 0 (.step 1 (.step 2 (.step 3 (.step 4 (.step 5 (.step 6 (.step 7 (.step 8 (.step 9 (.step 10 .done))))))))))))] Tryz.func205 (by kernel_rfl) (by kernel_rfl) h
theorem nv {b0 o0 : Nat} {cV : Int} {cW : Int} {cX : Int} (h :
bj M (.cells #[(iV cV), (iV cW), (iV cX)] 298 (0, 0)) fun k1 M2 =>
rS M2 b0 (o0 + 2) fun A3 k4 k5 =>
rI M2 k1 0 fun n6 =>
rI M2 k1 1 fun n7 =>
rI M2 k1 2 fun n8 =>
bj M2 (.cells #[(iV n6), (iV n7), (iV n8)] 298 (0, 0)) fun k9 gS =>
aS Tryz.prog (Go.Builtin.append_ #[199, 199] 199 #[(.slice A3 k4 k5), (.slice (some ⟨k9, 0, none⟩) 1 1)]) gS (fun v11 jH =>
aD (some v11) fun KP fX fT =>
sT jH b0 (o0 + 2) (.slice KP fX fT) fun eT =>
K (.tuple #[]) eT) Kp) :
 ae Tryz.prog 206 ([.pointer (some ⟨b0, o0, none⟩), .agg #[.int .i64 cV, .int .i64 cW, .int .i64 cX]] : List Value).toArray M K Kp :=
 aA (C := Cx) good [(1, .bS [0, 0, 2, 6, 14, 0, 32, 126, 255, 511, 1023] (.step 0 (.step 1 (.step 2 (.step 3 (.step 4 (.step 5 (.step 6 (.step 7 (.step 8 (.step 9 (.step 10 .done))))))))))))] Tryz.func206 (by kernel_rfl) (by kernel_rfl) h
theorem sv {b0 o0 : Nat} {x1 : Int} (h :
bj M (.cells #[(iV 0), (iV 0), (iV 0)] 298 (0, 0)) fun k1 M2 =>
cD (Mem.ld M2 ⟨b0, (o0 + 4), none⟩) fun t3 =>
aV t3
 (sT M2 k1 0 (iV 0) fun M4 =>
 sT M4 k1 1 (iV 0) fun M5 =>
 sT M5 k1 2 (iV 0) fun M6 =>
 rI M6 k1 0 fun n7 =>
 rI M6 k1 1 fun n8 =>
 rI M6 k1 2 fun n9 =>
 K (.tuple #[(.agg #[(iV n7), (iV n8), (iV n9)]), (.bool false), (iV 10)]) M6)
 (rS M2 b0 (o0 + 3) fun Db eB fK =>
 aV (decide ((((eB : Nat) : Int) : Int) > 0))
 (bj M2 (.cells #[(iV 0), (iV 0), (iV 0)] 298 (0, 0)) fun c7 ik =>
 rS ik b0 (o0 + 3) fun qt dF eE =>
 ae Tryz.prog 222 #[(.slice qt dF eE)] ik (fun DV hH =>
 ∃ fq : Int, ∃ nw : Int, ∃ rU : Int, ∃ OL : Option Addr, ∃ qF : Nat, ∃ sw : Nat, (DV = (.tuple #[(.agg #[(iV fq), (iV nw), (iV rU)]), (.slice OL qF sw)])) ∧
 sT hH c7 0 (iV fq) fun wj =>
 sT wj c7 1 (iV nw) fun rV =>
 sT rV c7 2 (iV rU) fun yg =>
 sT yg b0 (o0 + 3) (.slice OL qF sw) fun lT =>
 sT lT c7 2 (iV x1) fun oe =>
 rI oe c7 0 fun tv =>
 rI oe c7 1 fun n32 =>
 rI oe c7 2 fun kY =>
 sT oe k1 0 (iV tv) fun lY =>
 sT lY k1 1 (iV n32) fun qu =>
 sT qu k1 2 (iV kY) fun oQ =>
 rI oQ k1 0 fun Md =>
 rI oQ k1 1 fun Jw =>
 rI oQ k1 2 fun HV =>
 K (.tuple #[(.agg #[(iV Md), (iV Jw), (iV HV)]), (.bool true), (iV 0)]) oQ) Kp)
 (rS M2 b0 (o0 + 1) fun A40 Me KQ =>
 rI M2 b0 o0 fun Dc =>
 aV (decide ((((Me : Nat) : Int) : Int) < Dc))
 (rS M2 b0 (o0 + 1) fun Zf KR HW =>
 bj M2 (.cells #[(iV x1)] 2 (0, 0)) fun KS Mf =>
 aS Tryz.prog (Go.Builtin.append_ #[59, 59] 59 #[(.slice Zf KR HW), (.slice (some ⟨KS, 0, none⟩) 1 1)]) Mf (fun HX zE =>
 aD (some HX) fun SK kj jI =>
 sT zE b0 (o0 + 1) (.slice SK kj jI) fun Ci =>
 sT Ci k1 0 (iV 0) fun mV =>
 sT mV k1 1 (iV 0) fun Fg =>
 sT Fg k1 2 (iV 0) fun wW =>
 rI wW k1 0 fun DW =>
 rI wW k1 1 fun Cj =>
 rI wW k1 2 fun HY =>
 K (.tuple #[(.agg #[(iV DW), (iV Cj), (iV HY)]), (.bool false), (iV 0)]) wW) Kp)
 (sT M2 k1 0 (iV 0) fun vf =>
 sT vf k1 1 (iV 0) fun qv =>
 sT qv k1 2 (iV 0) fun wk =>
 rI wk k1 0 fun n64 =>
 rI wk k1 1 fun vg =>
 rI wk k1 2 fun SL =>
 K (.tuple #[(.agg #[(iV n64), (iV vg), (iV SL)]), (.bool false), (iV 6)]) wk)))) :
 ae Tryz.prog 207 ([.pointer (some ⟨b0, o0, none⟩), .int .i64 x1] : List Value).toArray M K Kp :=
 aA (C := Cx) good [(8, .bS [0, 1, 3, 7, 15, 0, 32, 96, 224, 511, 1023] (.step 0 (.step 1 (.step 2 (.step 5 (.step 6 (.step 7 (.step 3 (.step 4 (.step 8 (.step 9 (.step 10 .done))))))))))))] Tryz.func207 (by kernel_rfl) (by kernel_rfl) h
theorem sy {b0 o0 : Nat} (h :
bj M (.cells #[(iV 0), (.bool false), (iV 0), (iV 0), (iV 0), (.bool false)] 335 (0, 0)) fun k1 M2 =>
bj M2 (.cells #[(iV 0), (.bool false), (iV 0), (iV 0), (iV 0), (.bool false)] 335 (0, 0)) fun k3 M4 =>
rS M4 b0 (o0 + 2) fun A5 k6 k7 =>
∃ J8 : List Value → Mem → Prop, (aV (decide ((((k6 : Nat) : Int) : Int) > 0))
 (rS M4 b0 (o0 + 2) fun A9 eA eB =>
 ae Tryz.prog 222 #[(.slice A9 eA eB)] M4 (fun Pn jN =>
 ∃ je : Int, ∃ jY : Int, ∃ mz : Int, ∃ KT : Option Addr, ∃ dS : Nat, ∃ iO : Nat, (Pn = (.tuple #[(.agg #[(iV je), (iV jY), (iV mz)]), (.slice KT dS iO)])) ∧
 sT jN k3 2 (iV je) fun nx =>
 sT nx k3 (2 + 1) (iV jY) fun iP =>
 sT iP k3 (2 + 2) (iV mz) fun cR =>
 sT cR b0 (o0 + 2) (.slice KT dS iO) fun kL =>
 sT kL k3 5 (.bool true) fun ie =>
 rS ie b0 (o0 + 1) fun Jx lC oh =>
 rI ie k3 (2 + 2) fun wm =>
 bj ie (.cells #[(iV wm)] 2 (0, 0)) fun jZ oe =>
 aS Tryz.prog (Go.Builtin.append_ #[59, 59] 59 #[(.slice Jx lC oh), (.slice (some ⟨jZ, 0, none⟩) 1 1)]) oe (fun SM mA =>
 aD (some SM) fun Jy tR sA =>
 sT mA b0 (o0 + 1) (.slice Jy tR sA) fun oQ =>
 J8 [] oQ) Kp) Kp)
 (J8 [] M4)) ∧
∀ junk37 : Nat → Value, ∀ jJ : Mem, (J8 [] jJ) → rS jJ b0 (o0 + 1) fun V2 zR Me =>
aV (decide ((((zR : Nat) : Int) : Int) > 0))
 (rS jJ b0 (o0 + 1) fun KU nW Jz =>
 ((0 : Int) ≤ 0) ∧
 ((0 : Int) < ((nW : Nat) : Int)) ∧
 aI KU fun KR HW =>
 rI jJ KR (HW + 0) fun AV =>
 sT jJ k3 0 (iV AV) fun Mf =>
 sT Mf k3 1 (.bool true) fun xy =>
 bj xy (.cells #[] 2 (0, 0)) fun yh Zg =>
 rS Zg b0 (o0 + 1) fun SN jI Ck =>
 ((0 : Int) ≤ ((Ck : Nat) : Int)) ∧
 ((((Ck : Nat) : Int) : Int) ≤ ((Ck : Nat) : Int)) ∧
 ((0 : Int) ≤ ((jI : Nat) : Int)) ∧
 ((((jI : Nat) : Int) : Int) ≤ ((Ck : Nat) : Int)) ∧
 ((0 : Int) ≤ 1) ∧
 ((1 : Int) ≤ ((jI : Nat) : Int)) ∧
 aS Tryz.prog (Go.Builtin.append_ #[59, 59] 59 #[(.slice (some ⟨yh, 0, none⟩) 0 0), (.slice (lj SN 1 (Int.toNat ((Ck : Nat) : Int)) 1) ((Int.toNat ((jI : Nat) : Int)) - 1) ((Int.toNat ((Ck : Nat) : Int)) - 1))]) Zg (fun Xa Fg =>
 aD (some Xa) fun A57 DX SO =>
 sT Fg b0 (o0 + 1) (.slice A57 DX SO) fun rW =>
 rI rW k3 0 fun JA =>
 cD (Mem.ld rW ⟨k3, 1, none⟩) fun t62 =>
 rI rW k3 2 fun yj =>
 rI rW k3 3 fun n64 =>
 rI rW k3 4 fun vg =>
 cD (Mem.ld rW ⟨k3, 5, none⟩) fun t66 =>
 sT rW k1 0 (iV JA) fun KV =>
 sT KV k1 1 (.bool t62) fun Mg =>
 sT Mg k1 2 (iV yj) fun Xb =>
 sT Xb k1 3 (iV n64) fun zF =>
 sT zF k1 4 (iV vg) fun Dd =>
 sT Dd k1 5 (.bool t66) fun vj =>
 rI vj k1 0 fun OM =>
 cD (Mem.ld vj ⟨k1, 1, none⟩) fun t74 =>
 rI vj k1 2 fun Mh =>
 rI vj k1 3 fun Mi =>
 rI vj k1 4 fun DY =>
 cD (Mem.ld vj ⟨k1, 5, none⟩) fun t78 =>
 K (.tuple #[(.agg #[(iV OM), (.bool t74), (iV Mh), (iV Mi), (iV DY), (.bool t78)]), (iV 0)]) vj) Kp)
 (cD (Mem.ld jJ ⟨b0, (o0 + 4), none⟩) fun t79 =>
 aV t79
 (rI jJ k3 0 fun Xc =>
 cD (Mem.ld jJ ⟨k3, 1, none⟩) fun t81 =>
 rI jJ k3 2 fun HZ =>
 rI jJ k3 3 fun Ro =>
 rI jJ k3 4 fun JB =>
 cD (Mem.ld jJ ⟨k3, 5, none⟩) fun t85 =>
 sT jJ k1 0 (iV Xc) fun AW =>
 sT AW k1 1 (.bool t81) fun zG =>
 sT zG k1 2 (iV HZ) fun SP =>
 sT SP k1 3 (iV Ro) fun Cl =>
 sT Cl k1 4 (iV JB) fun SQ =>
 sT SQ k1 5 (.bool t85) fun jK =>
 rI jK k1 0 fun n92 =>
 cD (Mem.ld jK ⟨k1, 1, none⟩) fun t93 =>
 rI jK k1 2 fun Po =>
 rI jK k1 3 fun JC =>
 rI jK k1 4 fun JD =>
 cD (Mem.ld jK ⟨k1, 5, none⟩) fun t97 =>
 K (.tuple #[(.agg #[(iV n92), (.bool t93), (iV Po), (iV JC), (iV JD), (.bool t97)]), (iV 0)]) jK)
 (rI jJ k3 0 fun V3 =>
 cD (Mem.ld jJ ⟨k3, 1, none⟩) fun t99 =>
 rI jJ k3 2 fun tS =>
 rI jJ k3 3 fun Mj =>
 rI jJ k3 4 fun FY =>
 cD (Mem.ld jJ ⟨k3, 5, none⟩) fun t103 =>
 sT jJ k1 0 (iV V3) fun FZ =>
 sT FZ k1 1 (.bool t99) fun mB =>
 sT mB k1 2 (iV tS) fun yl =>
 sT yl k1 3 (iV Mj) fun ym =>
 sT ym k1 4 (iV FY) fun wX =>
 sT wX k1 5 (.bool t103) fun ny =>
 rI ny k1 0 fun DZ =>
 cD (Mem.ld ny ⟨k1, 1, none⟩) fun t111 =>
 rI ny k1 2 fun yn =>
 rI ny k1 3 fun F0 =>
 rI ny k1 4 fun Mk =>
 cD (Mem.ld ny ⟨k1, 5, none⟩) fun t115 =>
 K (.tuple #[(.agg #[(iV DZ), (.bool t111), (iV yn), (iV F0), (iV Mk), (.bool t115)]), (iV 5)]) ny))) :
 ae Tryz.prog 209 ([.pointer (some ⟨b0, o0, none⟩)] : List Value).toArray M K Kp :=
 aA (C := Cx) good [(3000010, .cut []), (5, .bS [0, 0, 2, 6, 14, 0, 32, 96, 224, 510, 1023, 2047, 4095] (.step 0 (.step 1 (.step 2 (.step 3 (.step 5 (.step 6 (.step 4 (.step 7 (.step 8 (.step 9 (.step 10 (.step 11 (.step 12 .done))))))))))))))] Tryz.func209 (by kernel_rfl) (by kernel_rfl) h
theorem qG {b0 o0 : Nat} (h :
cD (Mem.ld M ⟨b0, (o0 + 4), none⟩) fun t1 =>
aV t1
 (K (.tuple #[(.slice none 0 0), (.slice none 0 0), (iV 10)]) M)
 (rS M b0 (o0 + 3) fun A2 k3 k4 =>
 rS M b0 (o0 + 2) fun A5 k6 k7 =>
 sT M b0 (o0 + 4) (.bool true) fun M8 =>
 sT M8 b0 (o0 + 3) (.slice none 0 0) fun M9 =>
 sT M9 b0 (o0 + 2) (.slice none 0 0) fun gS =>
 K (.tuple #[(.slice A2 k3 k4), (.slice A5 k6 k7), (iV 0)]) gS)) :
 ae Tryz.prog 213 ([.pointer (some ⟨b0, o0, none⟩)] : List Value).toArray M K Kp :=
 aA (C := Cx) good [(3, .bS [0, 1, 3, 7, 0, 16, 48, 112, 15, 511] (.step 0 (.step 1 (.step 2 (.step 4 (.step 5 (.step 6 (.step 3 (.step 8 (.step 7 (.step 9 .done)))))))))))] Tryz.func213 (by kernel_rfl) (by kernel_rfl) h
theorem om {b0 o0 : Nat} (h :
cD (Mem.ld M ⟨b0, (o0 + 4), none⟩) fun t1 =>
aV t1
 (K (.bool true) M)
 (rS M b0 (o0 + 2) fun A2 k3 k4 =>
 aV (decide ((((k3 : Nat) : Int) : Int) > 0))
 (K (.bool true) M)
 (rS M b0 (o0 + 1) fun A5 k6 k7 =>
 K (.bool (decide ((((k6 : Nat) : Int) : Int) > 0))) M))) :
 ae Tryz.prog 220 ([.pointer (some ⟨b0, o0, none⟩)] : List Value).toArray M K Kp :=
 aA (C := Cx) good [] Tryz.func220 (by kernel_rfl) (by kernel_rfl) h
theorem oq {b0 o0 : Nat} (h :
cD (Mem.ld M ⟨b0, (o0 + 4), none⟩) fun t1 =>
aV t1
 (K (.bool true) M)
 (rS M b0 (o0 + 3) fun A2 k3 k4 =>
 aV (decide ((((k3 : Nat) : Int) : Int) > 0))
 (K (.bool true) M)
 (rS M b0 (o0 + 1) fun A5 k6 k7 =>
 rI M b0 o0 fun n8 =>
 K (.bool (decide ((((k6 : Nat) : Int) : Int) < n8))) M))) :
 ae Tryz.prog 221 ([.pointer (some ⟨b0, o0, none⟩)] : List Value).toArray M K Kp :=
 aA (C := Cx) good [(1, .bS [0, 1, 3, 7, 15, 31, 63, 127, 255, 511, 1023, 2047, 4095, 8191, 16383, 32767, 65535, 131071, 8191, 270335, 794623, 1843199, 4194303, 8388607, 16777215] (.step 0 (.step 1 (.step 2 (.step 3 (.step 4 (.step 5 (.step 6 (.step 7 (.step 8 (.step 9 (.step 10 (.step 11 (.step 12 (.step 13 (.step 14 (.step 15 (.step 18 (.step 19 (.step 20 (.step 16 (.step 17 (.step 21 (.step 22 (.step 23 (.step 24 .done))))))))))))))))))))))))))] Tryz.func221 (by kernel_rfl) (by kernel_rfl) h
theorem yo {B0 : Option Addr} {m0 c0 : Nat} (h :
bj M (.cells #[(iV 0), (iV 0), (iV 0)] 298 (0, 0)) fun k1 M2 =>
((0 : Int) ≤ 0) ∧
((0 : Int) < ((m0 : Nat) : Int)) ∧
aI B0 fun k3 k4 =>
((0 : Int) ≤ ((c0 : Nat) : Int)) ∧
((((c0 : Nat) : Int) : Int) ≤ ((c0 : Nat) : Int)) ∧
((0 : Int) ≤ ((m0 : Nat) : Int)) ∧
((((m0 : Nat) : Int) : Int) ≤ ((c0 : Nat) : Int)) ∧
((0 : Int) ≤ 1) ∧
((1 : Int) ≤ ((m0 : Nat) : Int)) ∧
rI M2 k3 (k4 + 0) fun n5 =>
rI M2 k3 ((k4 + 0) + 1) fun n6 =>
rI M2 k3 ((k4 + 0) + 2) fun n7 =>
bj M2 (.cells #[] 298 (0, 0)) fun k8 M9 =>
aS Tryz.prog (Go.Builtin.append_ #[199, 199] 199 #[(.slice (some ⟨k8, 0, none⟩) 0 0), (.slice (lj B0 1 (Int.toNat ((c0 : Nat) : Int)) 3) ((Int.toNat ((m0 : Nat) : Int)) - 1) ((Int.toNat ((c0 : Nat) : Int)) - 1))]) M9 (fun v10 iq =>
aD (some v10) fun sB c7 fX =>
((Mem.fy iq ⟨k3, (k4 + 0), none⟩ 0 3) = some [(iV n5), (iV n6), (iV n7)]) ∧
sT iq k1 0 (iV n5) fun nX =>
sT nX k1 1 (iV n6) fun eT =>
sT eT k1 2 (iV n7) fun jO =>
((Mem.fy jO ⟨k3, (k4 + 0), none⟩ 0 3) = some [(iV n5), (iV n6), (iV n7)]) ∧
rI jO k1 0 fun kq =>
rI jO k1 1 fun wq =>
rI jO k1 2 fun fq =>
K (.tuple #[(.agg #[(iV kq), (iV wq), (iV fq)]), (.slice sB c7 fX)]) jO) Kp) :
 ae Tryz.prog 222 ([.slice B0 m0 c0] : List Value).toArray M K Kp :=
 aA (C := Cx) good [(1, .bS [0, 1, 3, 0, 0, 16, 56, 127, 255] (.step 0 (.step 1 (.step 4 (.step 5 (.dx 2 (.step 3 (.step 6 (.step 7 (.step 8 .done))))))))))] Tryz.func222 (by kernel_rfl) (by kernel_rfl) h
theorem sC {b0 o0 : Nat} {x1 : Int} (h :
rS M b0 (o0 + 2) fun A1 k2 k3 =>
(ae Tryz.prog 227 #[(.slice A1 k2 k3), (iV x1)] M (fun v4 M5 =>
 aD (some v4) fun A6 k7 k8 =>
 rS M5 b0 (o0 + 3) fun A9 eA eB =>
 ae Tryz.prog 227 #[(.slice A9 eA eB), (iV x1)] M5 (fun Pn jN =>
 aD (some Pn) fun nY fT dF =>
 sT jN b0 (o0 + 2) (.slice A6 k7 k8) fun jO =>
 sT jO b0 (o0 + 3) (.slice nY fT dF) fun mC =>
 K (.tuple #[]) mC) Kp) Kp) ∧
(rS M b0 (o0 + 3) fun zH ig fa =>
 ae Tryz.prog 227 #[(.slice A1 k2 k3), (iV x1)] M (fun F1 kL =>
 aD (some F1) fun F2 sw lC =>
 ae Tryz.prog 227 #[(.slice zH ig fa), (iV x1)] kL (fun Ml yg =>
 aD (some Ml) fun Rp kZ nA =>
 sT yg b0 (o0 + 2) (.slice F2 sw lC) fun mA =>
 sT mA b0 (o0 + 3) (.slice Rp kZ nA) fun tT =>
 K (.tuple #[]) tT) Kp) Kp) ∧
True) :
 ae Tryz.prog 226 ([.pointer (some ⟨b0, o0, none⟩), .int .i64 x1] : List Value).toArray M K Kp :=
 aA (C := Cx) good [(0, .bS [0, 0, 0, 4, 12, 28, 0, 124, 0, 256, 768, 1792, 0, 8188, 16381, 32765, 65533, 131071, 262143, 524287] (.step 0 (.step 1 (.step 2 (.step 3 (.step 4 (.step 6 (.step 8 (.step 9 (.step 10 (.step 12 (.step 5 (.fork 7 (.step 11 (.step 13 (.step 14 (.step 15 (.step 16 (.step 17 (.step 18 (.step 19 .done)))))))) (.fork 11 (.step 7 (.step 13 (.step 14 (.step 15 (.step 16 (.step 17 (.step 18 (.step 19 .done)))))))) .dead))))))))))))))] Tryz.func226 (by kernel_rfl) (by kernel_rfl) h
theorem vk {B0 : Option Addr} {m0 c0 : Nat} {x1 : Int} (h :
∃ I1 : Nat → List Value → Mem → Prop, (∃ k2 : Nat, I1 k2 [(.slice none 0 0), (iV 0)] M) ∧
∀ k3 : Nat, ∀ wu : Nat → Value, ∀ A5 : Option Addr, ∀ k6 : Nat, ∀ k7 : Nat, ∀ n8 : Int, ∀ M9 : Mem, (I1 k3 [(.slice A5 k6 k7), (iV n8)] M9) → aV (decide ((n8 : Int) < ((m0 : Nat) : Int)))
 (((0 : Int) ≤ n8) ∧
 ((n8 : Int) < ((m0 : Nat) : Int)) ∧
 aI B0 fun eA eB =>
 rI M9 eA (eB + ((Int.toNat n8) * 3)) fun jf =>
 rI M9 eA ((eB + ((Int.toNat n8) * 3)) + 1) fun jg =>
 rI M9 eA ((eB + ((Int.toNat n8) * 3)) + 2) fun je =>
 bj M9 (.cells #[(iV 0), (iV 0), (iV 0)] 298 (0, 0)) fun fT eT =>
 sT eT fT 0 (iV jf) fun jO =>
 sT jO fT 1 (iV jg) fun mC =>
 sT mC fT 2 (iV je) fun hH =>
 rI hH fT 0 fun fq =>
 aV (fq != x1)
 (rI hH fT 0 fun nw =>
 rI hH fT 1 fun rU =>
 rI hH fT 2 fun nB =>
 bj hH (.cells #[(iV nw), (iV rU), (iV nB)] 298 (0, 0)) fun qF AX =>
 aS Tryz.prog (Go.Builtin.append_ #[199, 199] 199 #[(.slice A5 k6 k7), (.slice (some ⟨qF, 0, none⟩) 1 1)]) AX (fun Xd rV =>
 aD (some Xd) fun JE jZ kZ =>
 ∃ nA : Nat, (nA < k3) ∧
 I1 nA [(.slice JE jZ kZ), (iV (IntKind.wrap .i64 (n8 + 1)))] rV) Kp)
 (∃ tw : Nat, (tw < k3) ∧
 I1 tw [(.slice A5 k6 k7), (iV (IntKind.wrap .i64 (n8 + 1)))] hH))
 (K (.slice A5 k6 k7) M9)) :
 ae Tryz.prog 227 ([.slice B0 m0 c0, .int .i64 x1] : List Value).toArray M K Kp :=
 aA (C := Cx) good [(2000000, .loop [(5, .c .sl), (10, .c (.int .i64))])] Tryz.func227 (by kernel_rfl) (by kernel_rfl) h
end Go.Proofs
namespace Go.Proofs
open Go.AF
set_option maxRecDepth 100000
set_option maxHeartbeats 1000000
attribute [local irreducible] aK cD fH bL aD fx aI aO bj aS bI aV
theorem Cm : bh Tryz.prog 59 2 1 8 [.int .i64 0] := bh.mk' (zv := .int .i64 0) (by kernel_rfl) (by kernel_rfl) rfl (by omega)
theorem xz : bh Tryz.prog 199 298 3 24 [.int .i64 0, .int .i64 0, .int .i64 0] := bh.mk' (zv := .agg #[.int .i64 0, .int .i64 0, .int .i64 0]) (by kernel_rfl) (by kernel_rfl) rfl (by omega)
abbrev yp (A : Option Addr) (c : Nat) (l : List Int) : HP := bG bu 2 A c l
abbrev tU (A : Option Addr) (c : Nat) (l : List Wt) : HP := bG gH 298 A c l
abbrev hJ (c : aX) (Ab : Option Addr) (cb : Nat) (As : Option Addr) (cs : Nat) (Ar : Option Addr) (cr : Nat) : List Value :=
 [.int .i64 (c.room : Int), .slice Ab c.buf.length cb, .slice As c.snd.length cs, .slice Ar c.en.length cr, .bool c.closed]
def bJ : tu aX := ⟨fun b c => exs fun Ab : Option Addr => exs fun cb : Nat => exs fun As : Option Addr => exs fun cs : Nat => exs fun Ar : Option Addr => exs fun cr : Nat =>
 sep [pt b (hJ c Ab cb As cs Ar cr) 236, yp Ab cb c.buf, tU As cs c.snd, tU Ar cr c.en]⟩
section
variable {R : Mem} {L L' : List HP} {M : Mem} {K : Value → Mem → Prop} {Kp : List PanicEntry → Mem → Prop} {b : Nat} {c : aX}
theorem hO (h : Hp R L M) [o : b7 bJ b L c L'] : ∃ Ab cb As cs Ar cr, Hp R (pt b (hJ c Ab cb As cs Ar cr) 236 :: yp Ab cb c.buf :: tU As cs c.snd :: tU Ar cr c.en :: L') M := by
 have := h.obj bJ b
 simpa only [bJ, Hp.dQ, Hp.bl, List.cons_append, List.nil_append] using this
theorem H6 {Ab As Ar : Option Addr} {cb cs cr : Nat} (h : Hp R (pt b (hJ c Ab cb As cs Ar cr) 236 :: yp Ab cb c.buf :: tU As cs c.snd :: tU Ar cr c.en :: L) M) : Hp R (aB bJ b c :: L) M := by
 refine Hp.wS ?_
 simp only [bJ, Hp.dQ, Hp.bl, List.cons_append, List.nil_append]
 exact ⟨_, _, _, _, _, _, h⟩
theorem dg {Ab As Ar : Option Addr} {nb cb ns cs nr cr room : Nat} {closed : Bool} {buf : List Int} {snd en : List Wt} {L1 L2 L3 L4 : List HP} (h : Hp R L M) (b : Nat)
  [p : jE b L [.int .i64 (room : Int), .slice Ab nb cb, .slice As ns cs, .slice Ar nr cr, .bool closed] 236 L1] [p1 : cG Ab L1 Int bu 2 cb buf L2] [p2 : cG As L2 Wt gH 298 cs snd L3] [p3 : cG Ar L3 Wt gH 298 cr en L4]
  (e1 : nb = buf.length := by first | rfl | simp) (e2 : ns = snd.length := by first | rfl | simp) (e3 : nr = en.length := by first | rfl | simp) : Hp R (aB bJ b ⟨room, buf, snd, en, closed⟩ :: L4) M := by
 subst e1; subst e2; subst e3
 exact H6 (h.sub (.cons p.pick (.cons p1.pick (.cons p2.pick (.cons p3.pick .refl)))))
theorem AY {room : Int} (h : Hp R L M) (k : ∀ b M', Hp R (aB bJ b (.new room) :: L) M' → K (.pointer (some ⟨b, 0, none⟩)) M') :
  ae Tryz.prog 72 #[.int .i64 room] M K Kp := by
 refine Ch ?_
 rw [LR]
 refine av h fun b M' h => k b M' (H6 ((((h.bT gH _).bT gH _).bT bu _).sub (by repeat (first | exact .refl | refine .cons (by repeat (first | exact .here | apply aF.there)) ?_ | apply Sub.drop))))
theorem wv {B : Option Addr} {m c : Nat} {w : Wt} {r : List Wt} (h : Hp R L M) (hB : Src R L B (gH.cells (w :: r))) (hm : m = r.length + 1) (hc : m ≤ c) (hn : m ≤ 1000000000)
  (k : ∀ A' c' M', Hp R (tU A' c' r :: L) M' → K (.tuple #[.agg #[.int .i64 w.g, .int .i64 w.cs, .int .i64 w.v], .slice A' r.length c']) M') :
  ae Tryz.prog 222 #[.slice B m c] M K Kp := by
 refine yo ?_
 obtain ⟨b, o, rfl⟩ := hB.mw h (by simp) (by decide)
 repeat (first | (refine av h ?_; clear h; intro kb M h) | (refine az h ?_; clear h; intro M h) | refine St.to h ?_ | (apply Exists.intro; (repeat apply Exists.intro); refine And.intro rfl ?_) | (refine And.intro ?_ ?_; first | exact rfl | (refine aa (aj h) ?_; (repeat (refine aa (aj h) ?_)); exact ai) | omega) | refine aq ?_ | refine au ?_)
 refine be (hB.cons.at h (i := 0) (j := 0) rfl rfl (by omega)) ?_
 refine be (hB.cons.at h (i := 0) (j := 1) rfl rfl (by omega)) ?_
 refine be (hB.cons.at h (i := 0) (j := 2) rfl rfl (by omega)) ?_
 repeat (first | (refine av h ?_; clear h; intro kb M h) | (refine az h ?_; clear h; intro M h) | refine St.to h ?_ | (apply Exists.intro; (repeat apply Exists.intro); refine And.intro rfl ?_) | (refine And.intro ?_ ?_; first | exact rfl | (refine aa (aj h) ?_; (repeat (refine aa (aj h) ?_)); exact ai) | omega) | refine aq ?_ | refine au ?_)
 have s2 := hB.drop (m := 1) (c := c) (by simp; omega)
 simp only [Int.toNat_natCast]
 refine h.jX gH xz r s2.cons.cons (by omega) (by omega) ?_
 clear h
 intro A' c' M h
 repeat (first | (refine av h ?_; clear h; intro kb M h) | (refine az h ?_; clear h; intro M h) | refine St.to h ?_ | (apply Exists.intro; (repeat apply Exists.intro); refine And.intro rfl ?_) | (refine And.intro ?_ ?_; first | exact rfl | (refine aa (aj h) ?_; (repeat (refine aa (aj h) ?_)); exact ai) | omega) | refine aq ?_ | refine au ?_)
 refine ⟨hB.cons.cons.fy h (i := 0) rfl (by omega), ?_⟩
 repeat (first | (refine av h ?_; clear h; intro kb M h) | (refine az h ?_; clear h; intro M h) | refine St.to h ?_ | (apply Exists.intro; (repeat apply Exists.intro); refine And.intro rfl ?_) | (refine And.intro ?_ ?_; first | exact rfl | (refine aa (aj h) ?_; (repeat (refine aa (aj h) ?_)); exact ai) | omega) | refine aq ?_ | refine au ?_)
 refine ⟨hB.cons.cons.fy h (i := 0) rfl (by omega), ?_⟩
 repeat (first | (refine av h ?_; clear h; intro kb M h) | (refine az h ?_; clear h; intro M h) | refine St.to h ?_ | (apply Exists.intro; (repeat apply Exists.intro); refine And.intro rfl ?_) | (refine And.intro ?_ ?_; first | exact rfl | (refine aa (aj h) ?_; (repeat (refine aa (aj h) ?_)); exact ai) | omega) | refine aq ?_ | refine au ?_)
 exact k _ _ _ h.vb
theorem zS (h : Hp R L M) [o : b7 bJ b L c L'] (k : K (.bool c.tM) M) : ae Tryz.prog 221 #[.pointer (some ⟨b, 0, none⟩)] M K Kp := by
 refine oq ?_
 have h' := hO h (b := b)
 clear h
 obtain ⟨Ab, cb, As, cs, Ar, cr, h⟩ := h'
 repeat (first | (refine av h ?_; clear h; intro kb M h) | (refine az h ?_; clear h; intro M h) | refine St.to h ?_ | (apply Exists.intro; (repeat apply Exists.intro); refine And.intro rfl ?_) | (refine And.intro ?_ ?_; first | exact rfl | (refine aa (aj h) ?_; (repeat (refine aa (aj h) ?_)); exact ai) | omega) | refine aq ?_ | refine au ?_)
 refine gC.2 ⟨fun hc => ?_, fun hc => ?_⟩
 ·rwa [aX.tM, hc] at k
 ·repeat (first | (refine av h ?_; clear h; intro kb M h) | (refine az h ?_; clear h; intro M h) | refine St.to h ?_ | (apply Exists.intro; (repeat apply Exists.intro); refine And.intro rfl ?_) | (refine And.intro ?_ ?_; first | exact rfl | (refine aa (aj h) ?_; (repeat (refine aa (aj h) ?_)); exact ai) | omega) | refine aq ?_ | refine au ?_)
  refine aP.2 ⟨fun hr => ?_, fun hr => ?_⟩
  ·have : c.en.isEmpty = false := by cases hc : c.en <;> simp_all
   rwa [aX.tM, hc, this] at k
  ·repeat (first | (refine av h ?_; clear h; intro kb M h) | (refine az h ?_; clear h; intro M h) | refine St.to h ?_ | (apply Exists.intro; (repeat apply Exists.intro); refine And.intro rfl ?_) | (refine And.intro ?_ ?_; first | exact rfl | (refine aa (aj h) ?_; (repeat (refine aa (aj h) ?_)); exact ai) | omega) | refine aq ?_ | refine au ?_)
   have : c.en.isEmpty = true := by cases hc : c.en <;> simp_all
   rw [aX.tM, hc, this] at k
   simpa using k
theorem zT (h : Hp R L M) [o : b7 bJ b L c L'] (k : K (.bool c.tN) M) : ae Tryz.prog 220 #[.pointer (some ⟨b, 0, none⟩)] M K Kp := by
 refine om ?_
 have h' := hO h (b := b)
 clear h
 obtain ⟨Ab, cb, As, cs, Ar, cr, h⟩ := h'
 repeat (first | (refine av h ?_; clear h; intro kb M h) | (refine az h ?_; clear h; intro M h) | refine St.to h ?_ | (apply Exists.intro; (repeat apply Exists.intro); refine And.intro rfl ?_) | (refine And.intro ?_ ?_; first | exact rfl | (refine aa (aj h) ?_; (repeat (refine aa (aj h) ?_)); exact ai) | omega) | refine aq ?_ | refine au ?_)
 refine gC.2 ⟨fun hc => ?_, fun hc => ?_⟩
 ·rwa [aX.tN, hc] at k
 ·repeat (first | (refine av h ?_; clear h; intro kb M h) | (refine az h ?_; clear h; intro M h) | refine St.to h ?_ | (apply Exists.intro; (repeat apply Exists.intro); refine And.intro rfl ?_) | (refine And.intro ?_ ?_; first | exact rfl | (refine aa (aj h) ?_; (repeat (refine aa (aj h) ?_)); exact ai) | omega) | refine aq ?_ | refine au ?_)
  refine aP.2 ⟨fun hr => ?_, fun hr => ?_⟩
  ·have : c.snd.isEmpty = false := by cases hc : c.snd <;> simp_all
   rwa [aX.tN, hc, this] at k
  ·repeat (first | (refine av h ?_; clear h; intro kb M h) | (refine az h ?_; clear h; intro M h) | refine St.to h ?_ | (apply Exists.intro; (repeat apply Exists.intro); refine And.intro rfl ?_) | (refine And.intro ?_ ?_; first | exact rfl | (refine aa (aj h) ?_; (repeat (refine aa (aj h) ?_)); exact ai) | omega) | refine aq ?_ | refine au ?_)
   have : c.snd.isEmpty = true := by cases hc : c.snd <;> simp_all
   rw [aX.tN, hc, this] at k
   have e : (!c.buf.isEmpty) = decide ((c.buf.length : Int) > 0) := by cases c.buf <;> simp
   rw [← e]; simpa using k
theorem pz {w : Wt} (h : Hp R L M) [o : b7 bJ b L c L'] (hs : c.Small 1000000000) (k : ∀ M', Hp R (aB bJ b { c with snd := c.snd ++ [w] } :: L') M' → K (.tuple #[]) M') :
  ae Tryz.prog 206 #[.pointer (some ⟨b, 0, none⟩), .agg #[.int .i64 w.g, .int .i64 w.cs, .int .i64 w.v]] M K Kp := by
 refine nv ?_
 have h' := hO h (b := b)
 clear h
 obtain ⟨Ab, cb, As, cs, Ar, cr, h⟩ := h'
 obtain ⟨h1, h2, h3⟩ := hs
 repeat (first | (refine av h ?_; clear h; intro kb M h) | (refine az h ?_; clear h; intro M h) | refine St.to h ?_ | (apply Exists.intro; (repeat apply Exists.intro); refine And.intro rfl ?_) | (refine And.intro ?_ ?_; first | exact rfl | (refine aa (aj h) ?_; (repeat (refine aa (aj h) ?_)); exact ai) | omega) | refine aq ?_ | refine au ?_)
 refine h.bO xz [w] rfl rfl (by simp; omega) ?_
 clear h
 intro A' c' M h
 repeat (first | (refine av h ?_; clear h; intro kb M h) | (refine az h ?_; clear h; intro M h) | refine St.to h ?_ | (apply Exists.intro; (repeat apply Exists.intro); refine And.intro rfl ?_) | (refine And.intro ?_ ?_; first | exact rfl | (refine aa (aj h) ?_; (repeat (refine aa (aj h) ?_)); exact ai) | omega) | refine aq ?_ | refine au ?_)
 exact k _ (dg h b).bX
theorem pA {w : Wt} (h : Hp R L M) [o : b7 bJ b L c L'] (hs : c.Small 1000000000) (k : ∀ M', Hp R (aB bJ b { c with en := c.en ++ [w] } :: L') M' → K (.tuple #[]) M') :
  ae Tryz.prog 205 #[.pointer (some ⟨b, 0, none⟩), .agg #[.int .i64 w.g, .int .i64 w.cs, .int .i64 w.v]] M K Kp := by
 refine nu ?_
 have h' := hO h (b := b)
 clear h
 obtain ⟨Ab, cb, As, cs, Ar, cr, h⟩ := h'
 obtain ⟨h1, h2, h3⟩ := hs
 repeat (first | (refine av h ?_; clear h; intro kb M h) | (refine az h ?_; clear h; intro M h) | refine St.to h ?_ | (apply Exists.intro; (repeat apply Exists.intro); refine And.intro rfl ?_) | (refine And.intro ?_ ?_; first | exact rfl | (refine aa (aj h) ?_; (repeat (refine aa (aj h) ?_)); exact ai) | omega) | refine aq ?_ | refine au ?_)
 refine h.bO xz [w] rfl rfl (by simp; omega) ?_
 clear h
 intro A' c' M h
 repeat (first | (refine av h ?_; clear h; intro kb M h) | (refine az h ?_; clear h; intro M h) | refine St.to h ?_ | (apply Exists.intro; (repeat apply Exists.intro); refine And.intro rfl ?_) | (refine And.intro ?_ ?_; first | exact rfl | (refine aa (aj h) ?_; (repeat (refine aa (aj h) ?_)); exact ai) | omega) | refine aq ?_ | refine au ?_)
 exact k _ (dg h b).bX
def Rq (x : Wt × Bool × Int) : Value := .tuple #[.agg #[.int .i64 x.1.g, .int .i64 x.1.cs, .int .i64 x.1.v], .bool x.2.1, .int .i64 x.2.2]
theorem F3 {v : Int} (h : Hp R L M) [o : b7 bJ b L c L'] (hs : c.Small 1000000000) (k : ∀ M', Hp R (aB bJ b (c.send v).1 :: L') M' → K (Rq (c.send v).2) M') :
  ae Tryz.prog 207 #[.pointer (some ⟨b, 0, none⟩), .int .i64 v] M K Kp := by
 refine sv ?_
 obtain ⟨room, buf, snd, en, closed⟩ := c
 obtain ⟨h1, h2, h3⟩ := hs
 have h' := hO h (b := b)
 clear h
 obtain ⟨Ab, cb, As, cs, Ar, cr, h⟩ := h'
 dsimp only [hJ] at h1 h2 h3 h
 repeat (first | (refine av h ?_; clear h; intro kb M h) | (refine az h ?_; clear h; intro M h) | refine St.to h ?_ | (apply Exists.intro; (repeat apply Exists.intro); refine And.intro rfl ?_) | (refine And.intro ?_ ?_; first | exact rfl | (refine aa (aj h) ?_; (repeat (refine aa (aj h) ?_)); exact ai) | omega) | refine aq ?_ | refine au ?_)
 refine gC.2 ⟨fun hc => ?_, fun hc => ?_⟩
 ·subst hc
  repeat (first | (refine av h ?_; clear h; intro kb M h) | (refine az h ?_; clear h; intro M h) | refine St.to h ?_ | (apply Exists.intro; (repeat apply Exists.intro); refine And.intro rfl ?_) | (refine And.intro ?_ ?_; first | exact rfl | (refine aa (aj h) ?_; (repeat (refine aa (aj h) ?_)); exact ai) | omega) | refine aq ?_ | refine au ?_)
  exact k _ (dg h b).bX
 subst hc
 repeat (first | (refine av h ?_; clear h; intro kb M h) | (refine az h ?_; clear h; intro M h) | refine St.to h ?_ | (apply Exists.intro; (repeat apply Exists.intro); refine And.intro rfl ?_) | (refine And.intro ?_ ?_; first | exact rfl | (refine aa (aj h) ?_; (repeat (refine aa (aj h) ?_)); exact ai) | omega) | refine aq ?_ | refine au ?_)
 refine aP.2 ⟨fun hr => ?_, fun hr => ?_⟩
 ·cases en with
  | nil => simp at hr
  | cons w r =>
   repeat (first | (refine av h ?_; clear h; intro kb M h) | (refine az h ?_; clear h; intro M h) | refine St.to h ?_ | (apply Exists.intro; (repeat apply Exists.intro); refine And.intro rfl ?_) | (refine And.intro ?_ ?_; first | exact rfl | (refine aa (aj h) ?_; (repeat (refine aa (aj h) ?_)); exact ai) | omega) | refine aq ?_ | refine au ?_)
   refine wv h (h.src (A := Ar)) rfl (h.jF Ar) (by simpa using h3) ?_
   clear h
   intro A' c' M h
   repeat (first | (refine av h ?_; clear h; intro kb M h) | (refine az h ?_; clear h; intro M h) | refine St.to h ?_ | (apply Exists.intro; (repeat apply Exists.intro); refine And.intro rfl ?_) | (refine And.intro ?_ ?_; first | exact rfl | (refine aa (aj h) ?_; (repeat (refine aa (aj h) ?_)); exact ai) | omega) | refine aq ?_ | refine au ?_)
   exact k _ (dg h b).bX
 cases en with
 | cons w r => simp at hr
 | nil =>
 simp only [aX.send, Bool.false_eq_true, if_false] at k
 repeat (first | (refine av h ?_; clear h; intro kb M h) | (refine az h ?_; clear h; intro M h) | refine St.to h ?_ | (apply Exists.intro; (repeat apply Exists.intro); refine And.intro rfl ?_) | (refine And.intro ?_ ?_; first | exact rfl | (refine aa (aj h) ?_; (repeat (refine aa (aj h) ?_)); exact ai) | omega) | refine aq ?_ | refine au ?_)
 refine aP.2 ⟨fun hl => ?_, fun hl => ?_⟩
 ·rw [if_pos (by omega)] at k
  repeat (first | (refine av h ?_; clear h; intro kb M h) | (refine az h ?_; clear h; intro M h) | refine St.to h ?_ | (apply Exists.intro; (repeat apply Exists.intro); refine And.intro rfl ?_) | (refine And.intro ?_ ?_; first | exact rfl | (refine aa (aj h) ?_; (repeat (refine aa (aj h) ?_)); exact ai) | omega) | refine aq ?_ | refine au ?_)
  refine h.bO Cm [v] rfl rfl (by simp; omega) ?_
  clear h
  intro A' c' M h
  repeat (first | (refine av h ?_; clear h; intro kb M h) | (refine az h ?_; clear h; intro M h) | refine St.to h ?_ | (apply Exists.intro; (repeat apply Exists.intro); refine And.intro rfl ?_) | (refine And.intro ?_ ?_; first | exact rfl | (refine aa (aj h) ?_; (repeat (refine aa (aj h) ?_)); exact ai) | omega) | refine aq ?_ | refine au ?_)
  exact k _ (dg h b).bX
 ·rw [if_neg (by omega)] at k
  repeat (first | (refine av h ?_; clear h; intro kb M h) | (refine az h ?_; clear h; intro M h) | refine St.to h ?_ | (apply Exists.intro; (repeat apply Exists.intro); refine And.intro rfl ?_) | (refine And.intro ?_ ?_; first | exact rfl | (refine aa (aj h) ?_; (repeat (refine aa (aj h) ?_)); exact ai) | omega) | refine aq ?_ | refine au ?_)
  exact k _ (dg h b).bX
def Rr (x : Int × Bool × Wt × Bool × Int) : Value := .tuple #[.agg #[.int .i64 x.1, .bool x.2.1, .int .i64 x.2.2.1.g, .int .i64 x.2.2.1.cs, .int .i64 x.2.2.1.v, .bool x.2.2.2.1], .int .i64 x.2.2.2.2]
theorem F4 (h : Hp R L M) [o : b7 bJ b L c L'] (hs : c.Small 1000000000) (k : ∀ M', Hp R (aB bJ b c.recv.1 :: L') M' → K (Rr c.recv.2) M') :
  ae Tryz.prog 209 #[.pointer (some ⟨b, 0, none⟩)] M K Kp := by
 refine sy ?_
 obtain ⟨room, buf, snd, en, closed⟩ := c
 obtain ⟨h1, h2, h3⟩ := hs
 have h' := hO h (b := b)
 clear h
 obtain ⟨Ab, cb, As, cs, Ar, cr, h⟩ := h'
 dsimp only [hJ] at h1 h2 h3 h
 refine av h ?_
 clear h
 intro kr M h
 refine av h ?_
 clear h
 intro kg M h
 repeat (first | (refine av h ?_; clear h; intro kb M h) | (refine az h ?_; clear h; intro M h) | refine St.to h ?_ | (apply Exists.intro; (repeat apply Exists.intro); refine And.intro rfl ?_) | (refine And.intro ?_ ?_; first | exact rfl | (refine aa (aj h) ?_; (repeat (refine aa (aj h) ?_)); exact ai) | omega) | refine aq ?_ | refine au ?_)
 refine ⟨fun vs M => vs = [] ∧ ∃ Ab cb As cs, Hp R (pt kr [.int .i64 0, .bool false, .int .i64 0, .int .i64 0, .int .i64 0, .bool false] 335 ::
  pt kg [.int .i64 0, .bool false, .int .i64 (snd.headD .zero).g, .int .i64 (snd.headD .zero).cs, .int .i64 (snd.headD .zero).v, .bool (!snd.isEmpty)] 335 ::
  pt b (hJ ⟨room, aX.all ⟨room, buf, snd, en, closed⟩, snd.tail, en, closed⟩ Ab cb As cs Ar cr) 236 :: yp Ab cb (aX.all ⟨room, buf, snd, en, closed⟩) :: tU As cs snd.tail :: tU Ar cr en :: L') M, ?_, ?_⟩
 ·refine aP.2 ⟨fun hr => ?_, fun hr => ?_⟩
  ·cases snd with
   | nil => simp at hr
   | cons w r =>
    repeat (first | (refine av h ?_; clear h; intro kb M h) | (refine az h ?_; clear h; intro M h) | refine St.to h ?_ | (apply Exists.intro; (repeat apply Exists.intro); refine And.intro rfl ?_) | (refine And.intro ?_ ?_; first | exact rfl | (refine aa (aj h) ?_; (repeat (refine aa (aj h) ?_)); exact ai) | omega) | refine aq ?_ | refine au ?_)
    refine wv h (h.src (A := As)) rfl (h.jF As) (by simpa using h2) ?_
    clear h
    intro A' c' M h
    repeat (first | (refine av h ?_; clear h; intro kb M h) | (refine az h ?_; clear h; intro M h) | refine St.to h ?_ | (apply Exists.intro; (repeat apply Exists.intro); refine And.intro rfl ?_) | (refine And.intro ?_ ?_; first | exact rfl | (refine aa (aj h) ?_; (repeat (refine aa (aj h) ?_)); exact ai) | omega) | refine aq ?_ | refine au ?_)
    refine h.bO Cm [w.v] rfl rfl (by simp; omega) ?_
    clear h
    intro A2 c2 M h
    repeat (first | (refine av h ?_; clear h; intro kb M h) | (refine az h ?_; clear h; intro M h) | refine St.to h ?_ | (apply Exists.intro; (repeat apply Exists.intro); refine And.intro rfl ?_) | (refine And.intro ?_ ?_; first | exact rfl | (refine aa (aj h) ?_; (repeat (refine aa (aj h) ?_)); exact ai) | omega) | refine aq ?_ | refine au ?_)
    exact ⟨A2, c2, A', c', h.sub (by repeat (first | exact .refl | refine .cons (by repeat (first | exact .here | apply aF.there)) ?_ | apply Sub.drop))⟩
  ·cases snd with
   | cons w r => simp at hr
   | nil => exact ⟨rfl, Ab, cb, As, cs, h.sub (by repeat (first | exact .refl | refine .cons (by repeat (first | exact .here | apply aF.there)) ?_ | apply Sub.drop))⟩
 clear h
 rintro _ M ⟨_, Ab, cb, As, cs, h⟩
 unfold aX.recv at k
 dsimp only at k
 have gJ : (aX.all ⟨room, buf, snd, en, closed⟩).length ≤ 1000000001 := by unfold aX.all; split <;> simp <;> omega
 have O9 : aX.all ⟨room, buf, snd, en, closed⟩ = [] → snd = [] ∧ buf = [] := by unfold aX.all; dsimp only; cases snd <;> simp
 generalize aX.all ⟨room, buf, snd, en, closed⟩ = all at h k gJ O9
 dsimp only [hJ] at h
 repeat (first | (refine av h ?_; clear h; intro kb M h) | (refine az h ?_; clear h; intro M h) | refine St.to h ?_ | (apply Exists.intro; (repeat apply Exists.intro); refine And.intro rfl ?_) | (refine And.intro ?_ ?_; first | exact rfl | (refine aa (aj h) ?_; (repeat (refine aa (aj h) ?_)); exact ai) | omega) | refine aq ?_ | refine au ?_)
 refine aP.2 ⟨fun hr => ?_, fun hr => ?_⟩
 ·cases all with
  | nil => simp at hr
  | cons v l =>
   dsimp only at k
   repeat (first | (refine av h ?_; clear h; intro kb M h) | (refine az h ?_; clear h; intro M h) | refine St.to h ?_ | (apply Exists.intro; (repeat apply Exists.intro); refine And.intro rfl ?_) | (refine And.intro ?_ ?_; first | exact rfl | (refine aa (aj h) ?_; (repeat (refine aa (aj h) ?_)); exact ai) | omega) | refine aq ?_ | refine au ?_)
   obtain ⟨x, rfl⟩ := h.bx (A := Ab) (by simp) (by decide)
   repeat (first | (refine av h ?_; clear h; intro kb M h) | (refine az h ?_; clear h; intro M h) | refine St.to h ?_ | (apply Exists.intro; (repeat apply Exists.intro); refine And.intro rfl ?_) | (refine And.intro ?_ ?_; first | exact rfl | (refine aa (aj h) ?_; (repeat (refine aa (aj h) ?_)); exact ai) | omega) | refine aq ?_ | refine au ?_)
   refine be ((h.src (A := some ⟨x, 0, none⟩)).at h (i := 0) (j := 0) rfl rfl (by omega)) ?_
   have hcap := h.jF (some ⟨x, 0, none⟩)
   have hlen : l.length + 1 ≤ 1000000001 := by simpa using gJ
   repeat (first | (refine av h ?_; clear h; intro kb M h) | (refine az h ?_; clear h; intro M h) | refine St.to h ?_ | (apply Exists.intro; (repeat apply Exists.intro); refine And.intro rfl ?_) | (refine And.intro ?_ ?_; first | exact rfl | (refine aa (aj h) ?_; (repeat (refine aa (aj h) ?_)); exact ai) | omega) | refine aq ?_ | refine au ?_)
   simp only [Int.toNat_natCast]
   refine h.jX bu Cm l ((h.src (A := some ⟨x, 0, none⟩)).drop (m := 1) hcap) (by simp) (by omega) ?_
   clear h
   intro A' c' M h
   repeat (first | (refine av h ?_; clear h; intro kb M h) | (refine az h ?_; clear h; intro M h) | refine St.to h ?_ | (apply Exists.intro; (repeat apply Exists.intro); refine And.intro rfl ?_) | (refine And.intro ?_ ?_; first | exact rfl | (refine aa (aj h) ?_; (repeat (refine aa (aj h) ?_)); exact ai) | omega) | refine aq ?_ | refine au ?_)
   exact k _ (dg h b).bX
 ·cases all with
  | cons v l => simp at hr
  | nil =>
  obtain ⟨rfl, rfl⟩ := O9 rfl
  repeat (first | (refine av h ?_; clear h; intro kb M h) | (refine az h ?_; clear h; intro M h) | refine St.to h ?_ | (apply Exists.intro; (repeat apply Exists.intro); refine And.intro rfl ?_) | (refine And.intro ?_ ?_; first | exact rfl | (refine aa (aj h) ?_; (repeat (refine aa (aj h) ?_)); exact ai) | omega) | refine aq ?_ | refine au ?_)
  refine gC.2 ⟨fun hc => ?_, fun hc => ?_⟩
  ·subst hc
   repeat (first | (refine av h ?_; clear h; intro kb M h) | (refine az h ?_; clear h; intro M h) | refine St.to h ?_ | (apply Exists.intro; (repeat apply Exists.intro); refine And.intro rfl ?_) | (refine And.intro ?_ ?_; first | exact rfl | (refine aa (aj h) ?_; (repeat (refine aa (aj h) ?_)); exact ai) | omega) | refine aq ?_ | refine au ?_)
   exact k _ (dg h b).bX
  ·subst hc
   repeat (first | (refine av h ?_; clear h; intro kb M h) | (refine az h ?_; clear h; intro M h) | refine St.to h ?_ | (apply Exists.intro; (repeat apply Exists.intro); refine And.intro rfl ?_) | (refine And.intro ?_ ?_; first | exact rfl | (refine aa (aj h) ?_; (repeat (refine aa (aj h) ?_)); exact ai) | omega) | refine aq ?_ | refine au ?_)
   exact k _ (dg h b).bX
theorem D0 (h : Hp R L M) [o : b7 bJ b L c L']
  (k : ∀ A ca B cb M', Hp R (aB bJ b c.close.1 :: tU B cb c.close.2.2.1 :: tU A ca c.close.2.1 :: L') M' → K (.tuple #[.slice A c.close.2.1.length ca, .slice B c.close.2.2.1.length cb, .int .i64 c.close.2.2.2]) M') :
  ae Tryz.prog 213 #[.pointer (some ⟨b, 0, none⟩)] M K Kp := by
 refine qG ?_
 obtain ⟨room, buf, snd, en, closed⟩ := c
 have h' := hO h (b := b)
 clear h
 obtain ⟨Ab, cb, As, cs, Ar, cr, h⟩ := h'
 dsimp only [hJ] at h
 repeat (first | (refine av h ?_; clear h; intro kb M h) | (refine az h ?_; clear h; intro M h) | refine St.to h ?_ | (apply Exists.intro; (repeat apply Exists.intro); refine And.intro rfl ?_) | (refine And.intro ?_ ?_; first | exact rfl | (refine aa (aj h) ?_; (repeat (refine aa (aj h) ?_)); exact ai) | omega) | refine aq ?_ | refine au ?_)
 refine gC.2 ⟨fun hc => ?_, fun hc => ?_⟩
 ·subst hc
  have h := dg ((h.bT gH 298).bT gH 298) b
  exact k none 0 none 0 _ h
 ·subst hc
  repeat (first | (refine av h ?_; clear h; intro kb M h) | (refine az h ?_; clear h; intro M h) | refine St.to h ?_ | (apply Exists.intro; (repeat apply Exists.intro); refine And.intro rfl ?_) | (refine And.intro ?_ ?_; first | exact rfl | (refine aa (aj h) ?_; (repeat (refine aa (aj h) ?_)); exact ai) | omega) | refine aq ?_ | refine au ?_)
  have h := (h.bT gH 298).bT gH 298
  exact k _ _ _ _ _ ((dg h b).sub (by repeat (first | exact .refl | refine .cons (by repeat (first | exact .here | apply aF.there)) ?_ | apply Sub.drop)))
theorem jh {B : Option Addr} {n cc : Nat} {g : Int} {l : List Wt} (h : Hp R L M) (hB : Src R L B (gH.cells l)) (hn : n = l.length) (hs : l.length ≤ 1000000000)
  (k : ∀ A' c' M', Hp R (tU A' c' (wo g l) :: L) M' → K (.slice A' (wo g l).length c') M') :
  ae Tryz.prog 227 #[.slice B n cc, .int .i64 g] M K Kp := by
 subst hn
 refine vk ⟨fun d vs M => ∃ i A c, vs = [.slice A (wo g (l.take i)).length c, .int .i64 (i : Int)] ∧ d = l.length - i ∧ i ≤ l.length ∧ Hp R (tU A c (wo g (l.take i)) :: L) M,
  ⟨_, 0, none, 0, rfl, rfl, by omega, h.bT _ _⟩, ?_⟩
 clear h
 rintro d _ A n c' ii M ⟨i, _, _, he, hd, hi, h⟩
 simp only [List.cons.injEq, Value.slice.injEq, Value.int.injEq, and_true, true_and] at he
 obtain ⟨⟨rfl, rfl, rfl⟩, rfl⟩ := he
 refine aP.2 ⟨fun hlt => ?_, fun hge => ?_⟩
 ·obtain ⟨w, hw⟩ := aQ (l := l) (i := i) (by omega)
  obtain ⟨b, o, rfl⟩ := hB.cons.mw h (by omega) (by decide)
  have e1 : IntKind.wrap .i64 ((i : Int) + 1) = ((i + 1 : Nat) : Int) := aT (by omega)
  have hl := FU g (l.take i)
  have kM := List.length_take_le i l
  rw [e1]
  repeat (first | (refine av h ?_; clear h; intro kb M h) | (refine az h ?_; clear h; intro M h) | refine St.to h ?_ | (apply Exists.intro; (repeat apply Exists.intro); refine And.intro rfl ?_) | (refine And.intro ?_ ?_; first | exact rfl | (refine aa (aj h) ?_; (repeat (refine aa (aj h) ?_)); exact ai) | omega) | refine aq ?_ | refine au ?_)
  refine be (hB.cons.at h (j := 0) hw rfl (by simp [gH])) ?_
  refine be (hB.cons.at h (j := 1) hw rfl (by simp [gH]; omega)) ?_
  refine be (hB.cons.at h (j := 2) hw rfl (by simp [gH]; omega)) ?_
  repeat (first | (refine av h ?_; clear h; intro kb M h) | (refine az h ?_; clear h; intro M h) | refine St.to h ?_ | (apply Exists.intro; (repeat apply Exists.intro); refine And.intro rfl ?_) | (refine And.intro ?_ ?_; first | exact rfl | (refine aa (aj h) ?_; (repeat (refine aa (aj h) ?_)); exact ai) | omega) | refine aq ?_ | refine au ?_)
  refine de.2 ⟨fun hne => ?_, fun heq => ?_⟩
  ·have e2 : wo g (l.take (i + 1)) = wo g (l.take i) ++ [w] := by rw [cq hw, LU]; simp [wo, hne]
   repeat (first | (refine av h ?_; clear h; intro kb M h) | (refine az h ?_; clear h; intro M h) | refine St.to h ?_ | (apply Exists.intro; (repeat apply Exists.intro); refine And.intro rfl ?_) | (refine And.intro ?_ ?_; first | exact rfl | (refine aa (aj h) ?_; (repeat (refine aa (aj h) ?_)); exact ai) | omega) | refine aq ?_ | refine au ?_)
   refine h.bO xz [w] rfl rfl (by simp; omega) ?_
   clear h
   intro A' c' M h
   repeat (first | (refine av h ?_; clear h; intro kb M h) | (refine az h ?_; clear h; intro M h) | refine St.to h ?_ | (apply Exists.intro; (repeat apply Exists.intro); refine And.intro rfl ?_) | (refine And.intro ?_ ?_; first | exact rfl | (refine aa (aj h) ?_; (repeat (refine aa (aj h) ?_)); exact ai) | omega) | refine aq ?_ | refine au ?_)
   exact ⟨l.length - (i + 1), by omega, i + 1, A', c', by rw [e2], rfl, by omega, by rw [e2]; exact h.bX⟩
  ·have e2 : wo g (l.take (i + 1)) = wo g (l.take i) := by rw [cq hw, LU]; simp [wo, heq]
   exact ⟨l.length - (i + 1), by omega, i + 1, A, c', by rw [e2], rfl, by omega, by rw [e2]; exact h.vb⟩
 ·have : i = l.length := by omega
  subst this
  rw [List.take_length] at h ⊢
  exact k _ _ _ h
theorem F5 {g : Int} (h : Hp R L M) [o : b7 bJ b L c L'] (hs : c.Small 1000000000) (k : ∀ M', Hp R (aB bJ b (c.drop g) :: L') M' → K (.tuple #[]) M') :
  ae Tryz.prog 226 #[.pointer (some ⟨b, 0, none⟩), .int .i64 g] M K Kp := by
 refine sC ?_
 have h' := hO h (b := b)
 clear h
 obtain ⟨Ab, cb, As, cs, Ar, cr, h⟩ := h'
 obtain ⟨h1, h2, h3⟩ := hs
 repeat (first | (refine av h ?_; clear h; intro kb M h) | (refine az h ?_; clear h; intro M h) | refine St.to h ?_ | (apply Exists.intro; (repeat apply Exists.intro); refine And.intro rfl ?_) | (refine And.intro ?_ ?_; first | exact rfl | (refine aa (aj h) ?_; (repeat (refine aa (aj h) ?_)); exact ai) | omega) | refine aq ?_ | refine au ?_)
 refine ⟨?_, ?_, trivial⟩
 ·refine jh h (h.src (A := As)) rfl h2 ?_
  clear h
  intro A' c' M h
  repeat (first | (refine av h ?_; clear h; intro kb M h) | (refine az h ?_; clear h; intro M h) | refine St.to h ?_ | (apply Exists.intro; (repeat apply Exists.intro); refine And.intro rfl ?_) | (refine And.intro ?_ ?_; first | exact rfl | (refine aa (aj h) ?_; (repeat (refine aa (aj h) ?_)); exact ai) | omega) | refine aq ?_ | refine au ?_)
  refine jh h (h.src (A := Ar)) rfl h3 ?_
  clear h
  intro B' d' M h
  repeat (first | (refine av h ?_; clear h; intro kb M h) | (refine az h ?_; clear h; intro M h) | refine St.to h ?_ | (apply Exists.intro; (repeat apply Exists.intro); refine And.intro rfl ?_) | (refine And.intro ?_ ?_; first | exact rfl | (refine aa (aj h) ?_; (repeat (refine aa (aj h) ?_)); exact ai) | omega) | refine aq ?_ | refine au ?_)
  exact k _ (dg h b).bX
 ·repeat (first | (refine av h ?_; clear h; intro kb M h) | (refine az h ?_; clear h; intro M h) | refine St.to h ?_ | (apply Exists.intro; (repeat apply Exists.intro); refine And.intro rfl ?_) | (refine And.intro ?_ ?_; first | exact rfl | (refine aa (aj h) ?_; (repeat (refine aa (aj h) ?_)); exact ai) | omega) | refine aq ?_ | refine au ?_)
  refine jh h (h.src (A := As)) rfl h2 ?_
  clear h
  intro A' c' M h
  repeat (first | (refine av h ?_; clear h; intro kb M h) | (refine az h ?_; clear h; intro M h) | refine St.to h ?_ | (apply Exists.intro; (repeat apply Exists.intro); refine And.intro rfl ?_) | (refine And.intro ?_ ?_; first | exact rfl | (refine aa (aj h) ?_; (repeat (refine aa (aj h) ?_)); exact ai) | omega) | refine aq ?_ | refine au ?_)
  refine jh h (h.src (A := Ar)) rfl h3 ?_
  clear h
  intro B' d' M h
  repeat (first | (refine av h ?_; clear h; intro kb M h) | (refine az h ?_; clear h; intro M h) | refine St.to h ?_ | (apply Exists.intro; (repeat apply Exists.intro); refine And.intro rfl ?_) | (refine And.intro ?_ ?_; first | exact rfl | (refine aa (aj h) ?_; (repeat (refine aa (aj h) ?_)); exact ai) | omega) | refine aq ?_ | refine au ?_)
  exact k _ (dg h b).bX
end
end Go.Proofs
namespace Go.AF
theorem nC {α β γ : Type} {f : α → β → γ} : ∀ {l : List α} {m : List β} {i : Nat} {a : α} {b : β}, l[i]? = some a → (List.zipWith f l m).set i (f a b) = List.zipWith f l (m.set i b)
 | [], _, _, _, _, h => by simp at h
 | x :: l, [], i, a, b, h => by simp
 | x :: l, y :: m, 0, a, b, h => by simp at h; subst h; rfl
 | x :: l, y :: m, i + 1, a, b, h => by
  have := nC (f := f) (m := m) (b := b) (show l[i]? = some a from by simpa using h)
  simp [this]
theorem F6 {α β γ : Type} {f : α → β → γ} : ∀ {l : List α} {m : List β} {i : Nat} {a : α} {b : β}, l[i]? = some a → m[i]? = some b → (List.zipWith f l m)[i]? = some (f a b)
 | [], _, _, _, _, h, _ => by simp at h
 | x :: l, [], i, a, b, h, g => by simp at g
 | x :: l, y :: m, 0, a, b, h, g => by simp at h g; subst h; subst g; rfl
 | x :: l, y :: m, i + 1, a, b, h, g => by simpa using F6 (f := f) (show l[i]? = some a from by simpa using h) (show m[i]? = some b from by simpa using g)
theorem aF.Xe {P : HP} {L : List HP} : ∀ (l : List HP), aF (l ++ P :: L) P (l ++ L)
 | [] => .here
 | Q :: l => .there (aF.Xe l)
section
variable {α : Type} {r : tu α} {R : Mem} {L L' nm : List HP} {M : Mem} {bs : List Nat} {cs : List α} {b i : Nat} {c : α}
def bn (r : tu α) (bs : List Nat) (cs : List α) : HP := sep (List.zipWith (aB r) bs cs)
def lD (r : tu α) (bs : List Nat) (cs : List α) (i : Nat) : HP := sep ((List.zipWith (aB r) bs cs).eraseIdx i)
class fD (r : tu α) (L : List HP) (bs : outParam (List Nat)) (cs : outParam (List α)) (L' : outParam (List HP)) : Prop where
 pick : aF L (bn r bs cs) L'
instance fD.here : fD r (bn r bs cs :: L) bs cs L := ⟨.here⟩
instance (priority := low) fD.there {P : HP} [h : fD r L bs cs L'] : fD r (P :: L) bs cs (P :: L') := ⟨.there h.pick⟩
class wz (r : tu α) (L : List HP) (bs : outParam (List Nat)) (cs : outParam (List α)) (i : outParam Nat) (L' : outParam (List HP)) : Prop where
 pick : aF L (lD r bs cs i) L'
instance wz.here : wz r (lD r bs cs i :: L) bs cs i L := ⟨.here⟩
instance (priority := low) wz.there {P : HP} [h : wz r L bs cs i L'] : wz r (P :: L) bs cs i (P :: L') := ⟨.there h.pick⟩
theorem Hp.nD (h : Hp R L M) (r : tu α) {bs : List Nat} {cs : List α} [o : fD r L bs cs L'] : Hp R (bn r bs cs :: L') M := h.pick o.pick
theorem Hp.tV (h : Hp R L M) (r : tu α) : Hp R (bn r [] [] :: L) M := Hp.bl.2 h
theorem Hp.cY (h : Hp R L M) (r : tu α) {bs : List Nat} {cs : List α} [o : fD r L bs cs L'] (hb : bs[i]? = some b) (hc : cs[i]? = some c) : Hp R (aB r b c :: lD r bs cs i :: L') M :=
 (h.pick o.pick).focus (F6 hb hc)
theorem Hp.dU (h : Hp R L M) (r : tu α) (b : Nat) {bs : List Nat} {cs : List α} {i : Nat} {c : α} [o : b7 r b L c L'] [x : wz r L' bs cs i nm] (hb : bs[i]? = some b) (hc : i < cs.length) : Hp R (bn r bs (cs.set i c) :: nm) M := by
 have h1 : Hp R (aB r b c :: lD r bs cs i :: nm) M := (h.pick o.pick).map fun _ hs => hs.tail (fun _ => bW.pick x.pick)
 have h2 := Hp.Ph (ls := List.zipWith (aB r) bs cs) h1 (by rw [List.length_zipWith]; have := (List.getElem?_eq_some_iff.1 hb).1; omega)
 rw [nC hb] at h2
 exact h2
theorem Hp.qw (h : Hp R L M) (r : tu α) (b : Nat) {bs : List Nat} {cs : List α} {i : Nat} {c : α} [o : b7 r b L c L'] [x : wz r L' bs cs i nm] (hb : bs[i]? = some b) (hc : cs[i]? = some c) : Hp R (bn r bs cs :: nm) M := by
 have := h.dU r b hb (List.getElem?_eq_some_iff.1 hc).1
 obtain ⟨hi, rfl⟩ := List.getElem?_eq_some_iff.1 hc
 rwa [List.set_getElem_self] at this
theorem Hp.ku (h : Hp R L M) (r : tu α) (b : Nat) {bs : List Nat} {cs : List α} {c : α} [o : b7 r b L c L'] [x : fD r L' bs cs nm] (hl : bs.length = cs.length) : Hp R (bn r (bs ++ [b]) (cs ++ [c]) :: nm) M := by
 have h1 : Hp R (aB r b c :: bn r bs cs :: nm) M := (h.pick o.pick).map fun _ hs => hs.tail (fun _ => bW.pick x.pick)
 refine Hp.bl.2 ?_
 rw [List.zipWith_append hl, List.append_assoc]
 refine Hp.nj (P := aB r b c) ?_ (aF.Xe _)
 exact h1.map fun _ hs => hs.tail fun _ hb => bW.bl.1 hb
end
end Go.AF
namespace Go.Proofs
open Go.AF
set_option maxRecDepth 100000
variable {M : Mem} {K : Value → Mem → Prop} {Kp : List PanicEntry → Mem → Prop}
theorem vl {B0 : Option Addr} {m0 c0 : Nat} {B1 : Option Addr} {m1 c1 : Nat} (h :
∃ I1 : Nat → List Value → Mem → Prop, (∃ k2 : Nat, I1 k2 [(.slice none 0 0), (iV 0)] M) ∧
∀ k3 : Nat, ∀ wu : Nat → Value, ∀ A5 : Option Addr, ∀ k6 : Nat, ∀ k7 : Nat, ∀ n8 : Int, ∀ M9 : Mem, (I1 k3 [(.slice A5 k6 k7), (iV n8)] M9) → aV (decide ((n8 : Int) < ((m0 : Nat) : Int)))
 (((0 : Int) ≤ n8) ∧
 ((n8 : Int) < ((m0 : Nat) : Int)) ∧
 aI B0 fun eA eB =>
 rI M9 eA (eB + ((Int.toNat n8) * 3)) fun jf =>
 rI M9 eA ((eB + ((Int.toNat n8) * 3)) + 1) fun jg =>
 rI M9 eA ((eB + ((Int.toNat n8) * 3)) + 2) fun je =>
 bj M9 (.cells #[(iV 0), (iV 0), (iV 0)] 172 (0, 0)) fun fT eT =>
 sT eT fT 0 (iV jf) fun jO =>
 sT jO fT 1 (iV jg) fun mC =>
 sT mC fT 2 (iV je) fun hH =>
 rI hH fT 0 fun fq =>
 rI hH fT 1 fun nw =>
 rI hH fT 2 fun rU =>
 ae Tryz.prog 204 #[(.agg #[(iV fq), (iV nw), (iV rU)]), (.slice B1 m1 c1)] hH (fun SR ie =>
 cD (some SR) fun t25 =>
 aV t25
 (bj ie (.cells #[(iV n8)] 3 (0, 0)) fun lC rV =>
 aS Tryz.prog (Go.Builtin.append_ #[38, 38] 38 #[(.slice A5 k6 k7), (.slice (some ⟨lC, 0, none⟩) 1 1)]) rV (fun Mm lT =>
 aD (some Mm) fun Fh nA tw =>
 ∃ nE : Nat, (nE < k3) ∧
 I1 nE [(.slice Fh nA tw), (iV (IntKind.wrap .i64 (n8 + 1)))] lT) Kp)
 (∃ tR : Nat, (tR < k3) ∧
 I1 tR [(.slice A5 k6 k7), (iV (IntKind.wrap .i64 (n8 + 1)))] ie)) Kp)
 (K (.slice A5 k6 k7) M9)) :
 ae Tryz.prog 155 ([.slice B0 m0 c0, .slice B1 m1 c1] : List Value).toArray M K Kp :=
 aA (C := Cx) good [(2000000, .loop [(5, .c .sl), (10, .c (.int .i64))])] Tryz.func155 (by kernel_rfl) (by kernel_rfl) h
theorem zU {B0 : Option Addr} {m0 c0 : Nat} (h :
∃ I1 : Nat → List Value → Mem → Prop, (∃ k2 : Nat, I1 k2 [(iV 0)] M) ∧
∀ k3 : Nat, ∀ wu : Nat → Value, ∀ n5 : Int, ∀ M6 : Mem, (I1 k3 [(iV n5)] M6) → aV (decide ((n5 : Int) < ((m0 : Nat) : Int)))
 (((0 : Int) ≤ n5) ∧
 ((n5 : Int) < ((m0 : Nat) : Int)) ∧
 aI B0 fun k7 k8 =>
 rI M6 k7 (k8 + ((Int.toNat n5) * 3)) fun n9 =>
 rI M6 k7 ((k8 + ((Int.toNat n5) * 3)) + 1) fun jP =>
 rI M6 k7 ((k8 + ((Int.toNat n5) * 3)) + 2) fun fu =>
 bj M6 (.cells #[(iV 0), (iV 0), (iV 0)] 172 (0, 0)) fun fK jN =>
 sT jN fK 0 (iV n9) fun ik =>
 sT ik fK 1 (iV jP) fun nX =>
 sT nX fK 2 (iV fu) fun eT =>
 rI eT fK 0 fun hU =>
 aV (hU == 2)
 (K (.tuple #[(iV n5), (.bool true)]) eT)
 (∃ dS : Nat, (dS < k3) ∧
 I1 dS [(iV (IntKind.wrap .i64 (n5 + 1)))] eT))
 (K (.tuple #[(iV 0), (.bool false)]) M6)) :
 ae Tryz.prog 156 ([.slice B0 m0 c0] : List Value).toArray M K Kp :=
 aA (C := Cx) good [(2000000, .loop [(8, .c (.int .i64))])] Tryz.func156 (by kernel_rfl) (by kernel_rfl) h
theorem zV {x0 : Int} {B1 : Option Addr} {m1 c1 : Nat} {B2 : Option Addr} {m2 c2 : Nat} {B3 : Option Addr} {m3 c3 : Nat} (h :
∃ I1 : Nat → List Value → Mem → Prop, (∃ k2 : Nat, I1 k2 [(iV 0)] M) ∧
∀ k3 : Nat, ∀ wu : Nat → Value, ∀ n5 : Int, ∀ M6 : Mem, (I1 k3 [(iV n5)] M6) → aV (decide ((n5 : Int) < ((m1 : Nat) : Int)))
 (((0 : Int) ≤ n5) ∧
 ((n5 : Int) < ((m1 : Nat) : Int)) ∧
 aI B1 fun k7 k8 =>
 rI M6 k7 (k8 + ((Int.toNat n5) * 3)) fun n9 =>
 rI M6 k7 ((k8 + ((Int.toNat n5) * 3)) + 1) fun jP =>
 rI M6 k7 ((k8 + ((Int.toNat n5) * 3)) + 2) fun fu =>
 bj M6 (.cells #[(iV 0), (iV 0), (iV 0)] 172 (0, 0)) fun fK jN =>
 sT jN fK 0 (iV n9) fun ik =>
 sT ik fK 1 (iV jP) fun nX =>
 sT nX fK 2 (iV fu) fun eT =>
 rI eT fK 0 fun hU =>
 aV (hU == 0)
 (rI eT fK 1 fun kq =>
 ((0 : Int) ≤ kq) ∧
 ((kq : Int) < ((m3 : Nat) : Int)) ∧
 aI B3 fun iO ig =>
 bL (Mem.ld eT ⟨iO, (ig + (Int.toNat kq)), none⟩) fun Cn =>
 ae Tryz.prog 205 #[(.pointer Cn), (.agg #[(iV x0), (iV n5), (iV 0)])] eT (fun F1 kL =>
 (F1 = (.tuple #[])) ∧
 ∃ qF : Nat, (qF < k3) ∧
 I1 qF [(iV (IntKind.wrap .i64 (n5 + 1)))] kL) Kp)
 (aV (hU == 1)
 (rI eT fK 1 fun lZ =>
 ((0 : Int) ≤ lZ) ∧
 ((lZ : Int) < ((m3 : Nat) : Int)) ∧
 aI B3 fun lC oh =>
 bL (Mem.ld eT ⟨lC, (oh + (Int.toNat lZ)), none⟩) fun JE =>
 rI eT fK 2 fun wA =>
 ((0 : Int) ≤ wA) ∧
 ((wA : Int) < ((m2 : Nat) : Int)) ∧
 aI B2 fun kZ nA =>
 rI eT kZ (nA + (Int.toNat wA)) fun n32 =>
 ae Tryz.prog 206 #[(.pointer JE), (.agg #[(iV x0), (iV n5), (iV n32)])] eT (fun v33 lY =>
 (v33 = (.tuple #[])) ∧
 ∃ sA : Nat, (sA < k3) ∧
 I1 sA [(iV (IntKind.wrap .i64 (n5 + 1)))] lY) Kp)
 (∃ De : Nat, (De < k3) ∧
 I1 De [(iV (IntKind.wrap .i64 (n5 + 1)))] eT)))
 (K (.tuple #[]) M6)) :
 ae Tryz.prog 157 ([.int .i64 x0, .slice B1 m1 c1, .slice B2 m2 c2, .slice B3 m3 c3] : List Value).toArray M K Kp :=
 aA (C := Cx) good [(2000000, .loop [(12, .c (.int .i64))]), (7, .bS [0, 0, 2, 7, 15, 0, 0, 0, 0, 256, 896, 1920, 4064, 8191] (.step 0 (.step 1 (.step 5 (.step 6 (.step 7 (.step 8 (.step 2 (.step 3 (.step 4 (.step 9 (.step 10 (.step 11 (.step 12 (.step 13 .done)))))))))))))))] Tryz.func157 (by kernel_rfl) (by kernel_rfl) h
theorem tW {D1 : Int} {D2 : Int} {gn : Int} {B1 : Option Addr} {m1 c1 : Nat} (h :
bj M (.cells #[(iV D1), (iV D2), (iV gn)] 172 (0, 0)) fun k1 M2 =>
rI M2 k1 0 fun n3 =>
aV (n3 == 0)
 (rI M2 k1 1 fun n4 =>
 ((0 : Int) ≤ n4) ∧
 ((n4 : Int) < ((m1 : Nat) : Int)) ∧
 aI B1 fun k5 k6 =>
 bL (Mem.ld M2 ⟨k5, (k6 + (Int.toNat n4)), none⟩) fun A7 =>
 ae Tryz.prog 220 #[(.pointer A7)] M2 (fun v8 M9 =>
 cD (some v8) fun t10 =>
 K (.bool t10) M9) Kp)
 (aV (n3 == 1)
 (rI M2 k1 1 fun fu =>
 ((0 : Int) ≤ fu) ∧
 ((fu : Int) < ((m1 : Nat) : Int)) ∧
 aI B1 fun fK c7 =>
 bL (Mem.ld M2 ⟨fK, (c7 + (Int.toNat fu)), none⟩) fun nY =>
 ae Tryz.prog 221 #[(.pointer nY)] M2 (fun Co eT =>
 cD (some Co) fun t17 =>
 K (.bool t17) eT) Kp)
 (K (.bool false) M2))) :
 ae Tryz.prog 204 ([.agg #[.int .i64 D1, .int .i64 D2, .int .i64 gn], .slice B1 m1 c1] : List Value).toArray M K Kp :=
 aA (C := Cx) good [] Tryz.func204 (by kernel_rfl) (by kernel_rfl) h
theorem yq {x0 : Int} {B1 : Option Addr} {m1 c1 : Nat} (h :
∃ I1 : Nat → List Value → Mem → Prop, (∃ k2 : Nat, I1 k2 [(iV 0)] M) ∧
∀ k3 : Nat, ∀ wu : Nat → Value, ∀ n5 : Int, ∀ M6 : Mem, (I1 k3 [(iV n5)] M6) → aV (decide ((n5 : Int) < ((m1 : Nat) : Int)))
 (((0 : Int) ≤ n5) ∧
 ((n5 : Int) < ((m1 : Nat) : Int)) ∧
 aI B1 fun k7 k8 =>
 bL (Mem.ld M6 ⟨k7, (k8 + (Int.toNat n5)), none⟩) fun A9 =>
 ae Tryz.prog 226 #[(.pointer A9), (iV x0)] M6 (fun v10 iq =>
 (v10 = (.tuple #[])) ∧
 ∃ fK : Nat, (fK < k3) ∧
 I1 fK [(iV (IntKind.wrap .i64 (n5 + 1)))] iq) Kp)
 (K (.tuple #[]) M6)) :
 ae Tryz.prog 225 ([.int .i64 x0, .slice B1 m1 c1] : List Value).toArray M K Kp :=
 aA (C := Cx) good [(2000000, .loop [(8, .c (.int .i64))])] Tryz.func225 (by kernel_rfl) (by kernel_rfl) h
end Go.Proofs
namespace Go.Proofs
open Go.AF
set_option maxRecDepth 100000
set_option maxHeartbeats 1000000
attribute [local irreducible] aK cD fH bL aD fx aI aO bj aS bI aV
structure nZ where
 way : Int
 ch : Int
 bS : Int
 deriving DecidableEq
def ij : gy nZ := ⟨3, fun w => [.int .i64 w.way, .int .i64 w.ch, .int .i64 w.bS], fun _ => rfl, fun w v hv => by
 simp only [List.mem_cons, List.not_mem_nil, or_false] at hv; obtain rfl | rfl | rfl := hv <;> rfl⟩
def nZ.Ok (n : Nat) (c : nZ) : Prop := 0 ≤ c.way ∧ c.way ≤ 2 ∧ (c.way ≠ 2 → 0 ≤ c.ch ∧ c.ch < n ∧ 0 ≤ c.bS ∧ c.bS < 8)
instance (n : Nat) (c : nZ) : Decidable (c.Ok n) := by unfold nZ.Ok; infer_instance
def dL (cs : List aX) (k : Int) : aX := cs.getD k.toNat ⟨0, [], [], [], false⟩
def can (cs : List aX) (c : nZ) : Bool := if c.way = 0 then (dL cs c.ch).tN else if c.way = 1 then (dL cs c.ch).tM else false
def Mn (cases : List nZ) (cs : List aX) (j : Nat) : Bool := match cases[j]? with
 | some c => can cs c
 | none => false
def Cp (cases : List nZ) (cs : List aX) (i : Nat) : List Int := ((List.range i).filter (Mn cases cs)).map Int.ofNat
def enabled (cases : List nZ) (cs : List aX) : List Int := Cp cases cs cases.length
theorem D3 (cases : List nZ) (cs : List aX) (i : Nat) : (Cp cases cs i).length ≤ i := by
 unfold Cp; rw [List.length_map]; exact Nat.le_trans (List.length_filter_le ..) (by simp)
theorem AZ {cases : List nZ} {cs : List aX} {i : Nat} {c : nZ} (h : cases[i]? = some c) : Cp cases cs (i + 1) = Cp cases cs i ++ (if can cs c then [(i : Int)] else []) := by
 unfold Cp
 rw [List.range_succ, List.filter_append, List.map_append]
 simp only [List.filter_cons, Mn, h, List.filter_nil]
 split <;> simp_all
def els (cases : List nZ) : Option Nat := cases.findIdx? (fun c => c.way == 2)
def j0 (g : Int) (fE : List Int) (i : Nat) (c : nZ) (cs : List aX) : List aX :=
 if c.way = 0 then cs.set c.ch.toNat { dL cs c.ch with en := (dL cs c.ch).en ++ [⟨g, i, 0⟩] }
 else if c.way = 1 then cs.set c.ch.toNat { dL cs c.ch with snd := (dL cs c.ch).snd ++ [⟨g, i, fE.getD c.bS.toNat 0⟩] } else cs
def dZ (g : Int) (fE : List Int) (cases : List nZ) (cs : List aX) : Nat → List aX
 | 0 => cs
 | i + 1 => match cases[i]? with
  | some c => j0 g fE i c (dZ g fE cases cs i)
  | none => dZ g fE cases cs i
theorem D4 (g : Int) (fE : List Int) (i : Nat) (c : nZ) (cs : List aX) : (j0 g fE i c cs).length = cs.length := by
 unfold j0; split
 ·simp
 ·split <;> simp
theorem kN (g : Int) (fE : List Int) (cases : List nZ) (cs : List aX) : ∀ i, (dZ g fE cases cs i).length = cs.length
 | 0 => rfl
 | i + 1 => by
  unfold dZ; split
  ·rw [D4, kN _ _ _ _ i]
  ·exact kN _ _ _ _ i
theorem mem_set {α : Type} {l : List α} {i : Nat} {x y : α} (h : y ∈ l.set i x) : y ∈ l ∨ y = x := by
 rcases List.mem_or_eq_of_mem_set h with h | h
 ·exact .inl h
 ·exact .inr h
theorem tX {cs : List aX} {k : Int} (h0 : 0 ≤ k) (h : k < cs.length) : dL cs k ∈ cs := by
 unfold dL; rw [List.getD_eq_getElem?_getD, List.getElem?_eq_getElem (by omega)]; exact List.getElem_mem _
theorem zW {g : Int} {fE : List Int} {i : Nat} {c : nZ} {cs : List aX} {N : Nat} (hs : ∀ x ∈ cs, x.Small N) (hc : c.Ok cs.length) : ∀ x ∈ j0 g fE i c cs, x.Small (N + 1) := by
 obtain ⟨_, _, kk⟩ := hc
 intro x hm
 unfold j0 at hm
 split at hm
 ·rename_i hw
  have hx := hs _ (tX (kk (by omega)).1 (kk (by omega)).2.1)
  rcases mem_set hm with h | rfl
  ·exact (hs x h).mono (by omega)
  ·exact hx.wr _
 split at hm
 ·rename_i hw
  have hx := hs _ (tX (kk (by omega)).1 (kk (by omega)).2.1)
  rcases mem_set hm with h | rfl
  ·exact (hs x h).mono (by omega)
  ·exact hx.ws _
 ·exact (hs x hm).mono (by omega)
theorem nF {g : Int} {fE : List Int} {cases : List nZ} {cs : List aX} {N : Nat} (hs : ∀ x ∈ cs, x.Small N) (hok : ∀ c ∈ cases, c.Ok cs.length) : ∀ i, ∀ x ∈ dZ g fE cases cs i, x.Small (N + i)
 | 0 => hs
 | i + 1 => by
  unfold dZ; split
  ·rename_i c hc
   exact zW (nF hs hok i) (by rw [kN]; exact hok c (List.mem_of_getElem? hc))
  ·exact fun x hx => (nF hs hok i x hx).mono (by omega)
section
variable {R : Mem} {L L' : List HP} {M : Mem} {K : Value → Mem → Prop} {Kp : List PanicEntry → Mem → Prop} {bs : List Nat} {cs : List aX}
theorem sD : bh Tryz.prog 38 3 1 8 [.int .i64 0] := bh.mk' (zv := .int .i64 0) (by kernel_rfl) (by kernel_rfl) rfl (by omega)
theorem Mo {cases : List nZ} {i : Nat} {c : nZ} (hc : cases[i]? = some c) (hw : c.way = 2) (hp : ∀ j c, j < i → cases[j]? = some c → c.way ≠ 2) : els cases = some i := by
 obtain ⟨hi, e⟩ := List.getElem?_eq_some_iff.1 hc
 refine List.findIdx?_eq_some_iff_getElem.2 ⟨hi, by rw [e]; simpa using hw, fun j hj => ?_⟩
 have := hp j _ hj (List.getElem?_eq_getElem (by omega))
 simpa using this
theorem Mp {cases : List nZ} (hp : ∀ j c, j < cases.length → cases[j]? = some c → c.way ≠ 2) : els cases = none := by
 refine List.findIdx?_eq_none_iff.2 fun c hc => ?_
 obtain ⟨j, hj, e⟩ := List.getElem_of_mem hc
 have := hp j c hj (by rw [← e]; exact List.getElem?_eq_getElem hj)
 simpa using this
theorem F7 {B : Option Addr} {m cc : Nat} {cases : List nZ} (h : Hp R L M) (hB : Src R L B (ij.cells cases)) (hm : m = cases.length) (hb : cases.length ≤ 1000000000)
  (k : ∀ M', Hp R L M' → K (.tuple #[.int .i64 (match els cases with | some i => (i : Int) | none => 0), .bool (els cases).isSome]) M') :
  ae Tryz.prog 156 #[.slice B m cc] M K Kp := by
 subst hm
 refine zU ⟨fun d ws M => ∃ i : Nat, ws = [.int .i64 (i : Int)] ∧ d = cases.length - i ∧ i ≤ cases.length ∧ (∀ j c, j < i → cases[j]? = some c → c.way ≠ 2) ∧ Hp R L M, ⟨_, 0, rfl, rfl, by omega, fun j c hj => by omega, h⟩, ?_⟩
 clear h
 rintro d _ ii M ⟨i, he, hd, hi, hp, h⟩
 simp only [List.cons.injEq, Value.int.injEq, and_true, true_and] at he
 subst he
 refine aP.2 ⟨fun hlt => ?_, fun hge => ?_⟩
 ·obtain ⟨c, hc⟩ := aQ (l := cases) (i := i) (by omega)
  obtain ⟨b, o, rfl⟩ := hB.mw h (by omega) (by decide)
  repeat (first | (refine av h ?_; clear h; intro kb M h) | (refine az h ?_; clear h; intro M h) | refine St.to h ?_ | (apply Exists.intro; (repeat apply Exists.intro); refine And.intro rfl ?_) | (refine And.intro ?_ ?_; first | exact rfl | (refine aa (aj h) ?_; (repeat (refine aa (aj h) ?_)); exact ai) | omega) | refine aq ?_ | refine au ?_)
  simp only [Int.toNat_natCast]
  refine be (hB.at h (i := i) (j := 0) hc rfl rfl) ?_
  refine be (hB.at h (i := i) (j := 1) hc rfl rfl) ?_
  refine be (hB.at h (i := i) (j := 2) hc rfl rfl) ?_
  repeat (first | (refine av h ?_; clear h; intro kb M h) | (refine az h ?_; clear h; intro M h) | refine St.to h ?_ | (apply Exists.intro; (repeat apply Exists.intro); refine And.intro rfl ?_) | (refine And.intro ?_ ?_; first | exact rfl | (refine aa (aj h) ?_; (repeat (refine aa (aj h) ?_)); exact ai) | omega) | refine aq ?_ | refine au ?_)
  refine aZ.2 ⟨fun e => ?_, fun e => ?_⟩
  ·have := Mo hc e hp
   rw [this] at k
   exact k _ h.vb
  ·rw [aT (by omega)]
   refine ⟨cases.length - (i + 1), by omega, i + 1, rfl, rfl, by omega, fun j c' hj Fi => ?_, h.vb⟩
   rcases Nat.lt_or_ge j i with jD | jD
   ·exact hp j c' jD Fi
   ·obtain rfl : j = i := by omega
    rw [hc] at Fi; cases Fi; exact e
 ·obtain rfl : i = cases.length := by omega
  rw [Mp hp] at k
  exact k _ h
theorem JF {c : nZ} {B : Option Addr} {m cc : Nat} (h : Hp R L M) [o : fD bJ L bs cs L'] (hB : Src R L' B (lS.cells bs)) (hm : m = bs.length) (hl : bs.length = cs.length) (hc : c.way ≠ 2 → 0 ≤ c.ch ∧ c.ch < cs.length) (F8 : 0 ≤ c.way ∧ c.way ≤ 2)
  (k : ∀ M', Hp R (bn bJ bs cs :: L') M' → K (.bool (can cs c)) M') : ae Tryz.prog 204 #[.agg #[.int .i64 c.way, .int .i64 c.ch, .int .i64 c.bS], .slice B m cc] M K Kp := by
 subst hm
 replace h := h.nD bJ
 obtain ⟨way, ch, bS⟩ := c
 dsimp only at *
 by_cases Zh : way = 2
 ·subst Zh
  refine tW ?_
  repeat (first | (refine av h ?_; clear h; intro kb M h) | (refine az h ?_; clear h; intro M h) | refine St.to h ?_ | (apply Exists.intro; (repeat apply Exists.intro); refine And.intro rfl ?_) | (refine And.intro ?_ ?_; first | exact rfl | (refine aa (aj h) ?_; (repeat (refine aa (aj h) ?_)); exact ai) | omega) | refine aq ?_ | refine au ?_)
  exact k _ h.vb
 replace hc := hc Zh
 obtain ⟨q, rfl⟩ := Int.eq_ofNat_of_zero_le hc.1
 obtain ⟨x, hx⟩ := aQ (l := cs) (i := q) (by omega)
 obtain ⟨b, hb⟩ := aQ (l := bs) (i := q) (by omega)
 have hxx : dL cs (q : Int) = x := by simp [dL, hx]
 obtain ⟨b0, o0, rfl⟩ := hB.cons.mw h (by omega) (by decide)
 simp only [can, hxx] at k
 refine tW ?_
 repeat (first | (refine av h ?_; clear h; intro kb M h) | (refine az h ?_; clear h; intro M h) | refine St.to h ?_ | (apply Exists.intro; (repeat apply Exists.intro); refine And.intro rfl ?_) | (refine And.intro ?_ ?_; first | exact rfl | (refine aa (aj h) ?_; (repeat (refine aa (aj h) ?_)); exact ai) | omega) | refine aq ?_ | refine au ?_)
 refine aZ.2 ⟨fun e => ?_, fun e => ?_⟩
 ·rw [if_pos e] at k
  repeat (first | (refine av h ?_; clear h; intro kb M h) | (refine az h ?_; clear h; intro M h) | refine St.to h ?_ | (apply Exists.intro; (repeat apply Exists.intro); refine And.intro rfl ?_) | (refine And.intro ?_ ?_; first | exact rfl | (refine aa (aj h) ?_; (repeat (refine aa (aj h) ?_)); exact ai) | omega) | refine aq ?_ | refine au ?_)
  refine lB (hB.cons.cons.at h (i := q) (j := 0) hb rfl (by simp [lS])) ?_
  replace h := h.cY bJ hb hx
  refine zT h ?_
  repeat (first | (refine av h ?_; clear h; intro kb M h) | (refine az h ?_; clear h; intro M h) | refine St.to h ?_ | (apply Exists.intro; (repeat apply Exists.intro); refine And.intro rfl ?_) | (refine And.intro ?_ ?_; first | exact rfl | (refine aa (aj h) ?_; (repeat (refine aa (aj h) ?_)); exact ai) | omega) | refine aq ?_ | refine au ?_)
  exact k _ (h.qw bJ b hb hx).bX
 rw [if_neg e] at k
 refine aZ.2 ⟨fun e => ?_, fun e => ?_⟩
 ·rw [if_pos e] at k
  repeat (first | (refine av h ?_; clear h; intro kb M h) | (refine az h ?_; clear h; intro M h) | refine St.to h ?_ | (apply Exists.intro; (repeat apply Exists.intro); refine And.intro rfl ?_) | (refine And.intro ?_ ?_; first | exact rfl | (refine aa (aj h) ?_; (repeat (refine aa (aj h) ?_)); exact ai) | omega) | refine aq ?_ | refine au ?_)
  refine lB (hB.cons.cons.at h (i := q) (j := 0) hb rfl (by simp [lS])) ?_
  replace h := h.cY bJ hb hx
  refine zS h ?_
  repeat (first | (refine av h ?_; clear h; intro kb M h) | (refine az h ?_; clear h; intro M h) | refine St.to h ?_ | (apply Exists.intro; (repeat apply Exists.intro); refine And.intro rfl ?_) | (refine And.intro ?_ ?_; first | exact rfl | (refine aa (aj h) ?_; (repeat (refine aa (aj h) ?_)); exact ai) | omega) | refine aq ?_ | refine au ?_)
  exact k _ (h.qw bJ b hb hx).bX
 ·rw [if_neg e] at k
  exact k _ h.vb
theorem zX {B A : Option Addr} {m cc n ca : Nat} {cases : List nZ} (h : Hp R L M) [o : fD bJ L bs cs L'] (hB : Src R L' B (ij.cells cases)) (hA : Src R L' A (lS.cells bs)) (hm : m = cases.length) (hn : n = bs.length)
  (hb : cases.length ≤ 1000000000) (hl : bs.length = cs.length) (hok : ∀ c ∈ cases, c.Ok cs.length)
  (k : ∀ A' c' M', Hp R (bG bu 3 A' c' (enabled cases cs) :: bn bJ bs cs :: L') M' → K (.slice A' (enabled cases cs).length c') M') :
  ae Tryz.prog 155 #[.slice B m cc, .slice A n ca] M K Kp := by
 subst hm
 replace h := h.nD bJ
 refine vl ⟨fun d ws M => ∃ (i : Nat) (X : Option Addr) (cx : Nat), ws = [.slice X (Cp cases cs i).length cx, .int .i64 (i : Int)] ∧ d = cases.length - i ∧ i ≤ cases.length ∧ Hp R (bG bu 3 X cx (Cp cases cs i) :: bn bJ bs cs :: L') M, ⟨_, 0, none, 0, rfl, rfl, by omega, h.bT bu _⟩, ?_⟩
 clear h
 rintro d _ X n1 cx ii M ⟨i, _, _, he, hd, hi, h⟩
 simp only [List.cons.injEq, Value.int.injEq, Value.slice.injEq, and_true, true_and] at he
 obtain ⟨⟨rfl, rfl, rfl⟩, rfl⟩ := he
 refine aP.2 ⟨fun hlt => ?_, fun hge => ?_⟩
 ·obtain ⟨c, hc⟩ := aQ (l := cases) (i := i) (by omega)
  obtain ⟨b, o, rfl⟩ := hB.cons.cons.mw h (by omega) (by decide)
  repeat (first | (refine av h ?_; clear h; intro kb M h) | (refine az h ?_; clear h; intro M h) | refine St.to h ?_ | (apply Exists.intro; (repeat apply Exists.intro); refine And.intro rfl ?_) | (refine And.intro ?_ ?_; first | exact rfl | (refine aa (aj h) ?_; (repeat (refine aa (aj h) ?_)); exact ai) | omega) | refine aq ?_ | refine au ?_)
  simp only [Int.toNat_natCast]
  refine be (hB.cons.cons.at h (i := i) (j := 0) hc rfl rfl) ?_
  refine be (hB.cons.cons.at h (i := i) (j := 1) hc rfl rfl) ?_
  refine be (hB.cons.cons.at h (i := i) (j := 2) hc rfl rfl) ?_
  repeat (first | (refine av h ?_; clear h; intro kb M h) | (refine az h ?_; clear h; intro M h) | refine St.to h ?_ | (apply Exists.intro; (repeat apply Exists.intro); refine And.intro rfl ?_) | (refine And.intro ?_ ?_; first | exact rfl | (refine aa (aj h) ?_; (repeat (refine aa (aj h) ?_)); exact ai) | omega) | refine aq ?_ | refine au ?_)
  have hco := hok c (List.mem_of_getElem? hc)
  obtain ⟨w1, w2, k1⟩ := hco
  refine JF (c := c) h hA.cons.cons hn hl (fun e => ⟨(k1 e).1, (k1 e).2.1⟩) ⟨w1, w2⟩ ?_
  clear h
  intro M h
  repeat (first | (refine av h ?_; clear h; intro kb M h) | (refine az h ?_; clear h; intro M h) | refine St.to h ?_ | (apply Exists.intro; (repeat apply Exists.intro); refine And.intro rfl ?_) | (refine And.intro ?_ ?_; first | exact rfl | (refine aa (aj h) ?_; (repeat (refine aa (aj h) ?_)); exact ai) | omega) | refine aq ?_ | refine au ?_)
  have hlen := D3 cases cs i
  refine gC.2 ⟨fun hb => ?_, fun hb => ?_⟩
  ·have e := AZ (cs := cs) hc
   rw [if_pos hb] at e
   repeat (first | (refine av h ?_; clear h; intro kb M h) | (refine az h ?_; clear h; intro M h) | refine St.to h ?_ | (apply Exists.intro; (repeat apply Exists.intro); refine And.intro rfl ?_) | (refine And.intro ?_ ?_; first | exact rfl | (refine aa (aj h) ?_; (repeat (refine aa (aj h) ?_)); exact ai) | omega) | refine aq ?_ | refine au ?_)
   refine h.bO sD [(i : Int)] rfl rfl (by simp; omega) ?_
   clear h
   intro A' c' M h
   repeat (first | (refine av h ?_; clear h; intro kb M h) | (refine az h ?_; clear h; intro M h) | refine St.to h ?_ | (apply Exists.intro; (repeat apply Exists.intro); refine And.intro rfl ?_) | (refine And.intro ?_ ?_; first | exact rfl | (refine aa (aj h) ?_; (repeat (refine aa (aj h) ?_)); exact ai) | omega) | refine aq ?_ | refine au ?_)
   rw [aT (by omega)]
   rw [← e] at h
   refine ⟨cases.length - (i + 1), by omega, i + 1, A', c', ?_, rfl, by omega, h.bX⟩
   rw [e]
  ·have e := AZ (cs := cs) hc
   rw [if_neg (by simp [hb]), List.append_nil] at e
   rw [aT (by omega)]
   refine ⟨cases.length - (i + 1), by omega, i + 1, X, cx, by rw [e], rfl, by omega, ?_⟩
   rw [e]; exact h.sub (by repeat (first | exact .refl | refine .cons (by repeat (first | exact .here | apply aF.there)) ?_ | apply Sub.drop))
 ·obtain rfl : i = cases.length := by omega
  exact k _ _ _ h
theorem D5 {g : Int} {A : Option Addr} {n ca : Nat} (h : Hp R L M) [o : fD bJ L bs cs L'] (hA : Src R L' A (lS.cells bs)) (hn : n = bs.length) (hb : bs.length ≤ 1000000000) (hl : bs.length = cs.length) (hs : ∀ c ∈ cs, c.Small 1000000000)
  (k : ∀ M', Hp R (bn bJ bs (cs.map (·.drop g)) :: L') M' → K (.tuple #[]) M') :
  ae Tryz.prog 225 #[.int .i64 g, .slice A n ca] M K Kp := by
 subst hn
 replace h := h.nD bJ
 refine yq ⟨fun d ws M => ∃ (i : Nat), ws = [.int .i64 (i : Int)] ∧ d = bs.length - i ∧ i ≤ bs.length ∧ Hp R (bn bJ bs ((cs.take i).map (·.drop g) ++ cs.drop i) :: L') M, ⟨_, 0, rfl, rfl, by omega, h⟩, ?_⟩
 clear h
 rintro d _ ii M ⟨i, he, hd, hi, h⟩
 simp only [List.cons.injEq, Value.int.injEq, and_true, true_and] at he
 subst he
 refine aP.2 ⟨fun hlt => ?_, fun hge => ?_⟩
 ·obtain ⟨c, hc⟩ := aQ (l := cs) (i := i) (by omega)
  obtain ⟨b, zD⟩ := aQ (l := bs) (i := i) (by omega)
  obtain ⟨b0, o0, rfl⟩ := hA.cons.mw h (by omega) (by decide)
  have Cq : ((cs.take i).map (·.drop g) ++ cs.drop i)[i]? = some c := by
   rw [List.getElem?_append_right (by simp; omega)]; simp [List.length_take, Nat.min_eq_left (show i ≤ cs.length by omega), hc]
  repeat (first | (refine av h ?_; clear h; intro kb M h) | (refine az h ?_; clear h; intro M h) | refine St.to h ?_ | (apply Exists.intro; (repeat apply Exists.intro); refine And.intro rfl ?_) | (refine And.intro ?_ ?_; first | exact rfl | (refine aa (aj h) ?_; (repeat (refine aa (aj h) ?_)); exact ai) | omega) | refine aq ?_ | refine au ?_)
  refine lB (hA.cons.at h (i := i) (j := 0) zD rfl (by simp [lS])) ?_
  replace h := h.cY bJ zD Cq
  refine F5 h (hs c (List.mem_of_getElem? hc)) ?_
  clear h
  intro M h
  repeat (first | (refine av h ?_; clear h; intro kb M h) | (refine az h ?_; clear h; intro M h) | refine St.to h ?_ | (apply Exists.intro; (repeat apply Exists.intro); refine And.intro rfl ?_) | (refine And.intro ?_ ?_; first | exact rfl | (refine aa (aj h) ?_; (repeat (refine aa (aj h) ?_)); exact ai) | omega) | refine aq ?_ | refine au ?_)
  rw [aT (by omega)]
  refine ⟨bs.length - (i + 1), by omega, i + 1, rfl, rfl, by omega, ?_⟩
  have := (h.dU bJ b zD (by simp; omega)).bX (T := L')
  rw [List.set_append_right _ _ (by simp; omega)] at this
  rw [cq hc, List.map_append, List.append_assoc]
  have e : (cs.drop i).set (i - ((cs.take i).map (·.drop g)).length) (c.drop g) = [c.drop g] ++ cs.drop (i + 1) := by
   rw [show i - ((cs.take i).map (·.drop g)).length = 0 from by simp; omega]
   obtain ⟨hi', e'⟩ := List.getElem?_eq_some_iff.1 hc
   rw [List.drop_eq_getElem_cons hi']; rfl
  rw [e] at this
  exact this
 ·obtain rfl : i = bs.length := by omega
  rw [hl, List.take_length, List.drop_length, List.append_nil] at h
  exact k _ h
theorem F9 {g : Int} {B A D : Option Addr} {m cc n ca r cr : Nat} {cases : List nZ} {fE : List Int} (h : Hp R L M) [o : fD bJ L bs cs L'] (hB : Src R L' B (ij.cells cases)) (hA : Src R L' A (lS.cells bs)) (hD : Src R L' D (bu.cells fE))
  (hm : m = cases.length) (hn : n = bs.length) (hr : r = 8) (hr8 : fE.length = 8) (hb : cases.length ≤ 1000000) (hl : bs.length = cs.length) (hok : ∀ c ∈ cases, c.Ok cs.length) (hs : ∀ c ∈ cs, c.Small 1000000)
  (k : ∀ M', Hp R (bn bJ bs (dZ g fE cases cs cases.length) :: L') M' → K (.tuple #[]) M') :
  ae Tryz.prog 157 #[.int .i64 g, .slice B m cc, .slice D r cr, .slice A n ca] M K Kp := by
 subst hm
 subst hn
 subst hr
 replace h := h.nD bJ
 refine zV ⟨fun d ws M => ∃ (i : Nat), ws = [.int .i64 (i : Int)] ∧ d = cases.length - i ∧ i ≤ cases.length ∧ Hp R (bn bJ bs (dZ g fE cases cs i) :: L') M, ⟨_, 0, rfl, rfl, by omega, h⟩, ?_⟩
 clear h
 rintro d _ ii M ⟨i, he, hd, hi, h⟩
 simp only [List.cons.injEq, Value.int.injEq, and_true, true_and] at he
 subst he
 refine aP.2 ⟨fun hlt => ?_, fun hge => ?_⟩
 ·obtain ⟨c, hc⟩ := aQ (l := cases) (i := i) (by omega)
  obtain ⟨w1, w2, kk⟩ := hok c (List.mem_of_getElem? hc)
  obtain ⟨b, o, rfl⟩ := hB.cons.mw h (by omega) (by decide)
  by_cases Zh : c.way = 2
  ·have e : dZ g fE cases cs (i + 1) = dZ g fE cases cs i := by
    rw [dZ, hc]; dsimp only; unfold j0; rw [if_neg (by omega), if_neg (by omega)]
   repeat (first | (refine av h ?_; clear h; intro kb M h) | (refine az h ?_; clear h; intro M h) | refine St.to h ?_ | (apply Exists.intro; (repeat apply Exists.intro); refine And.intro rfl ?_) | (refine And.intro ?_ ?_; first | exact rfl | (refine aa (aj h) ?_; (repeat (refine aa (aj h) ?_)); exact ai) | omega) | refine aq ?_ | refine au ?_)
   simp only [Int.toNat_natCast]
   refine be (hB.cons.at h (i := i) (j := 0) hc rfl rfl) ?_
   refine be (hB.cons.at h (i := i) (j := 1) hc rfl rfl) ?_
   refine be (hB.cons.at h (i := i) (j := 2) hc rfl rfl) ?_
   repeat (first | (refine av h ?_; clear h; intro kb M h) | (refine az h ?_; clear h; intro M h) | refine St.to h ?_ | (apply Exists.intro; (repeat apply Exists.intro); refine And.intro rfl ?_) | (refine And.intro ?_ ?_; first | exact rfl | (refine aa (aj h) ?_; (repeat (refine aa (aj h) ?_)); exact ai) | omega) | refine aq ?_ | refine au ?_)
   refine aZ.2 ⟨fun e => by omega, fun _ => ?_⟩
   refine aZ.2 ⟨fun e => by omega, fun _ => ?_⟩
   rw [aT (by omega)]
   refine ⟨cases.length - (i + 1), by omega, i + 1, rfl, rfl, by omega, ?_⟩
   rw [e]
   exact h.vb
  obtain ⟨k1, k2, k3, k4⟩ := kk Zh
  obtain ⟨b2, o2, rfl⟩ := hA.cons.mw h (by omega) (by decide)
  obtain ⟨b3, o3, rfl⟩ := hD.cons.mw h (by omega) (by decide)
  have hlen := kN g fE cases cs i
  have H7 := nF (g := g) (fE := fE) hs hok i
  have e : dZ g fE cases cs (i + 1) = j0 g fE i c (dZ g fE cases cs i) := by rw [dZ, hc]
  generalize hw : dZ g fE cases cs i = ws at h hlen H7 e
  obtain ⟨way, ch, bS⟩ := c
  dsimp only at k1 k2 k3 k4
  obtain ⟨q, rfl⟩ := Int.eq_ofNat_of_zero_le k1
  obtain ⟨q2, rfl⟩ := Int.eq_ofNat_of_zero_le k3
  obtain ⟨b1, zD⟩ := aQ (l := bs) (i := q) (by omega)
  obtain ⟨x, hx⟩ := aQ (l := ws) (i := q) (by omega)
  obtain ⟨v, hv⟩ := aQ (l := fE) (i := q2) (by omega)
  have hxx : dL ws (q : Int) = x := by simp [dL, hx]
  have SS : fE.getD q2 0 = v := by simp [hv]
  have hxs := H7 x (List.mem_of_getElem? hx)
  simp only [j0, hxx, Int.toNat_natCast, SS] at e
  repeat (first | (refine av h ?_; clear h; intro kb M h) | (refine az h ?_; clear h; intro M h) | refine St.to h ?_ | (apply Exists.intro; (repeat apply Exists.intro); refine And.intro rfl ?_) | (refine And.intro ?_ ?_; first | exact rfl | (refine aa (aj h) ?_; (repeat (refine aa (aj h) ?_)); exact ai) | omega) | refine aq ?_ | refine au ?_)
  simp only [Int.toNat_natCast]
  refine be (hB.cons.at h (i := i) (j := 0) hc rfl rfl) ?_
  refine be (hB.cons.at h (i := i) (j := 1) hc rfl rfl) ?_
  refine be (hB.cons.at h (i := i) (j := 2) hc rfl rfl) ?_
  dsimp only
  repeat (first | (refine av h ?_; clear h; intro kb M h) | (refine az h ?_; clear h; intro M h) | refine St.to h ?_ | (apply Exists.intro; (repeat apply Exists.intro); refine And.intro rfl ?_) | (refine And.intro ?_ ?_; first | exact rfl | (refine aa (aj h) ?_; (repeat (refine aa (aj h) ?_)); exact ai) | omega) | refine aq ?_ | refine au ?_)
  refine aZ.2 ⟨fun hw => ?_, fun hw => ?_⟩
  ·rw [if_pos hw] at e
   repeat (first | (refine av h ?_; clear h; intro kb M h) | (refine az h ?_; clear h; intro M h) | refine St.to h ?_ | (apply Exists.intro; (repeat apply Exists.intro); refine And.intro rfl ?_) | (refine And.intro ?_ ?_; first | exact rfl | (refine aa (aj h) ?_; (repeat (refine aa (aj h) ?_)); exact ai) | omega) | refine aq ?_ | refine au ?_)
   refine lB (hA.cons.cons.at h (i := q) (j := 0) zD rfl (by simp [lS])) ?_
   have OI := zD
   replace h := h.pick (.there .here)
   replace h := h.cY bJ zD hx
   refine pA (w := ⟨g, i, 0⟩) h (hxs.mono (by omega)) ?_
   clear h
   intro M h
   repeat (first | (refine av h ?_; clear h; intro kb M h) | (refine az h ?_; clear h; intro M h) | refine St.to h ?_ | (apply Exists.intro; (repeat apply Exists.intro); refine And.intro rfl ?_) | (refine And.intro ?_ ?_; first | exact rfl | (refine aa (aj h) ?_; (repeat (refine aa (aj h) ?_)); exact ai) | omega) | refine aq ?_ | refine au ?_)
   rw [aT (by omega)]
   refine ⟨cases.length - (i + 1), by omega, i + 1, rfl, rfl, by omega, ?_⟩
   rw [e]
   exact (h.dU bJ b1 zD (by omega)).bX
  rw [if_neg hw] at e
  refine aZ.2 ⟨fun hw => ?_, fun hw => ?_⟩
  ·rw [if_pos hw] at e
   repeat (first | (refine av h ?_; clear h; intro kb M h) | (refine az h ?_; clear h; intro M h) | refine St.to h ?_ | (apply Exists.intro; (repeat apply Exists.intro); refine And.intro rfl ?_) | (refine And.intro ?_ ?_; first | exact rfl | (refine aa (aj h) ?_; (repeat (refine aa (aj h) ?_)); exact ai) | omega) | refine aq ?_ | refine au ?_)
   refine lB (hA.cons.cons.at h (i := q) (j := 0) zD rfl (by simp [lS])) ?_
   repeat (first | (refine av h ?_; clear h; intro kb M h) | (refine az h ?_; clear h; intro M h) | refine St.to h ?_ | (apply Exists.intro; (repeat apply Exists.intro); refine And.intro rfl ?_) | (refine And.intro ?_ ?_; first | exact rfl | (refine aa (aj h) ?_; (repeat (refine aa (aj h) ?_)); exact ai) | omega) | refine aq ?_ | refine au ?_)
   refine be (hD.cons.cons.at h (i := q2) (j := 0) hv rfl (by simp [bu])) ?_
   replace h := h.pick (.there .here)
   replace h := h.cY bJ zD hx
   refine pz (w := ⟨g, i, v⟩) h (hxs.mono (by omega)) ?_
   clear h
   intro M h
   repeat (first | (refine av h ?_; clear h; intro kb M h) | (refine az h ?_; clear h; intro M h) | refine St.to h ?_ | (apply Exists.intro; (repeat apply Exists.intro); refine And.intro rfl ?_) | (refine And.intro ?_ ?_; first | exact rfl | (refine aa (aj h) ?_; (repeat (refine aa (aj h) ?_)); exact ai) | omega) | refine aq ?_ | refine au ?_)
   rw [aT (by omega)]
   refine ⟨cases.length - (i + 1), by omega, i + 1, rfl, rfl, by omega, ?_⟩
   rw [e]
   exact (h.dU bJ b1 zD (by omega)).bX
  ·rw [if_neg hw] at e
   rw [aT (by omega)]
   refine ⟨cases.length - (i + 1), by omega, i + 1, rfl, rfl, by omega, ?_⟩
   rw [e]
   exact h.vb
 ·obtain rfl : i = cases.length := by omega
  exact k _ h
end
end Go.Proofs
namespace Go.Proofs
open Go.AF
structure cC where
 op : Int
 a : Int
 b : Int
 c : Int
 deriving DecidableEq
def cC.zero : cC := ⟨0, 0, 0, 0⟩
def iW : gy cC := ⟨4, fun x => [.int .i64 x.op, .int .i64 x.a, .int .i64 x.b, .int .i64 x.c], fun _ => rfl, fun w v hv => by
 simp only [List.mem_cons, List.not_mem_nil, or_false] at hv; obtain rfl | rfl | rfl | rfl := hv <;> rfl⟩
structure gD where
 fn : Int
 pc : Int
 r : List Int
 qH : Int
 deriving DecidableEq
def gD.bS (f : gD) (q : Int) : Int := f.r.getD q.toNat 0
def gD.set (f : gD) (q v : Int) : gD := { f with r := (List.range 8).map fun i => if i = q.toNat then v else f.r.getD i 0 }
def gD.next (f : gD) : gD := { f with pc := f.pc + 1 }
def gD.begin (fn v : Int) : gD := ⟨fn, 0, [v, 0, 0, 0, 0, 0, 0, 0], 0⟩
def Xf (f : gD) : List Value := [.int .i64 f.fn, .int .i64 f.pc, .int .i64 (f.r.getD 0 0), .int .i64 (f.r.getD 1 0), .int .i64 (f.r.getD 2 0), .int .i64 (f.r.getD 3 0), .int .i64 (f.r.getD 4 0), .int .i64 (f.r.getD 5 0), .int .i64 (f.r.getD 6 0), .int .i64 (f.r.getD 7 0), .int .i64 f.qH]
def iX : gy gD := ⟨11, Xf, fun _ => rfl, fun w v hv => by
 simp only [Xf, List.mem_cons, List.not_mem_nil, or_false] at hv
 obtain rfl | rfl | rfl | rfl | rfl | rfl | rfl | rfl | rfl | rfl | rfl := hv <;> rfl⟩
theorem Xg {q : Int} (h0 : 0 ≤ q) (h8 : q < 8) : q = 0 ∨ q = 1 ∨ q = 2 ∨ q = 3 ∨ q = 4 ∨ q = 5 ∨ q = 6 ∨ q = 7 := by omega
theorem SU {f : gD} {q : Int} (h0 : 0 ≤ q) (h8 : q < 8) : (iX.f f)[2 + q.toNat]? = some (.int .i64 (f.bS q)) := by
 obtain rfl | rfl | rfl | rfl | rfl | rfl | rfl | rfl := Xg h0 h8 <;> rfl
theorem Pp {f : gD} {q v : Int} (h0 : 0 ≤ q) (h8 : q < 8) : (iX.f f).set (2 + q.toNat) (.int .i64 v) = iX.f (f.set q v) := by
 obtain rfl | rfl | rfl | rfl | rfl | rfl | rfl | rfl := Xg h0 h8 <;> rfl
theorem SW {f : gD} {v : Int} : (iX.f f).set 1 (.int .i64 v) = iX.f { f with pc := v } := rfl
def gD.pure (f : gD) (x : cC) : gD :=
 if x.op = 0 then f
 else if x.op = 1 then f.set x.a x.b
 else if x.op = 2 then f.set x.a (f.bS x.b)
 else if x.op = 3 then f.set x.a (IntKind.wrap .i64 (f.bS x.b + f.bS x.c))
 else if x.op = 4 then f.set x.a (IntKind.wrap .i64 (f.bS x.b - f.bS x.c))
 else if x.op = 5 then f.set x.a (IntKind.wrap .i64 (f.bS x.b * f.bS x.c))
 else if x.op = 6 then f.set x.a (if f.bS x.b < f.bS x.c then 1 else 0)
 else if x.op = 7 then { f with pc := x.a }
 else if f.bS x.a ≠ 0 then { f with pc := x.b } else f
def bg (q : Int) : Prop := 0 ≤ q ∧ q < 8
instance (q : Int) : Decidable (bg q) := by unfold bg; infer_instance
def cC.cy (x : cC) : Prop :=
 (x.op ∈ [1, 8] → bg x.a) ∧ (x.op = 2 → bg x.a ∧ bg x.b) ∧ (x.op ∈ [3, 4, 5, 6] → bg x.a ∧ bg x.b ∧ bg x.c)
instance (x : cC) : Decidable x.cy := by unfold cC.cy; infer_instance
structure iQ where
 st : Int
 fs : List gD
 wt : cC
 deriving DecidableEq
structure Lk where
 owner : Int
 waits : List Int
 deriving DecidableEq
structure bC where
 t : Int
 seq : Int
 id : Int
 deriving DecidableEq
def rX : gy bC := ⟨3, fun x => [.int .u64 x.t, .int .u64 x.seq, .int .i64 x.id], fun _ => rfl, fun w v hv => by
 simp only [List.mem_cons, List.not_mem_nil, or_false] at hv; obtain rfl | rfl | rfl := hv <;> rfl⟩
structure bZ where
 funcs : List (List cC)
 dk : List Int
 aM : Int
 cases : List nZ
structure Wd where
 gs : List iQ
 clock : Int
 aE : List aX
 aM : List Lk
 hl : List bC
 kO : Int
 out : List Int
 end_ : Int
 code : Int
 ready : List Int
 deriving DecidableEq
def ay (x : Wd) (g : Int) : iQ := x.gs.getD g.toNat ⟨0, [], .zero⟩
def Wd.bD (x : Wd) (g : Int) (y : iQ) : Wd := { x with gs := x.gs.set g.toNat y }
def iQ.top (y : iQ) : gD := y.fs.getD (y.fs.length - 1) ⟨0, 0, [], 0⟩
def iQ.cH (y : iQ) (f : gD) : iQ := { y with fs := y.fs.set (y.fs.length - 1) f }
def Wd.bz (x : Wd) (g q v : Int) : Wd := x.bD g ((ay x g).cH ((ay x g).top.set q v))
def Wd.eY (x : Wd) (g : Int) : Wd := { x.bD g { ay x g with st := 1 } with ready := x.ready ++ [g] }
def Wd.block (x : Wd) (g : Int) (i : cC) : Wd := x.bD g { ay x g with st := 2, wt := i }
def Wd.leave (x : Wd) (g : Int) : Wd := { x with aE := x.aE.map fun c => c.drop g }
def Wd.gp (x : Wd) (g k : Int) : Wd := (x.bz g (ay x g).wt.c k).leave g
def pB (p : bZ) (k : Int) : nZ := p.cases.getD k.toNat ⟨0, 0, 0⟩
def Wd.received (p : bZ) (x : Wd) (v : Wt) (some : Int) : Wd :=
 let i := (ay x v.g).wt
 (if i.op = 16 then ((x.bz v.g (pB p (i.a + v.cs)).bS v.v).gp v.g v.cs)
  else (x.bz v.g i.b v.v).bz v.g i.c some).eY v.g
def Wd.sent (x : Wd) (v : Wt) : Wd := (if (ay x v.g).wt.op = 16 then x.gp v.g v.cs else x).eY v.g
inductive Out (α : Type) where
 | on (a : α)
 | eJ (code : Int) (x : Wd)
 | dG (l : List PanicEntry) (x : Wd)
def Wd.b9 (x : Wd) (k : Int) (c : aX) : Wd := { x with aE := x.aE.set k.toNat c }
def Wd.put (p : bZ) (x : Wd) (k v : Int) : Out (Wd × Bool) :=
 let s := (dL x.aE k).send v
 if s.2.2.2 = 10 then .eJ (-1) (x.b9 k s.1)
 else .on ((if s.2.2.1 then (x.b9 k s.1).received p s.2.1 1 else x.b9 k s.1), s.2.2.2 == 0)
def Wd.get (x : Wd) (k : Int) : Wd × Int × Int × Bool :=
 let s := (dL x.aE k).recv
 let y := if s.2.2.2.2.1 then (x.b9 k s.1).sent s.2.2.2.1 else x.b9 k s.1
 if s.2.2.1 then (y, s.2.1, 1, true) else (y, 0, 0, s.2.2.2.2.2 == 0)
def bp (x : Wd) (g : Int) : Prop := 0 ≤ g ∧ g < x.gs.length ∧ 0 < (ay x g).fs.length ∧ (ay x g).fs.length ≤ 1000
instance (x : Wd) (g : Int) : Decidable (bp x g) := by unfold bp; infer_instance
def pC (p : bZ) (x : Wd) (v : Wt) : Prop := bp x v.g ∧
 if (ay x v.g).wt.op = 16 then 0 ≤ (ay x v.g).wt.a + v.cs ∧ (ay x v.g).wt.a + v.cs < p.cases.length ∧ p.cases.length ≤ 1000 ∧ bg (pB p ((ay x v.g).wt.a + v.cs)).bS ∧ bg (ay x v.g).wt.c
 else bg (ay x v.g).wt.b ∧ bg (ay x v.g).wt.c
instance (p : bZ) (x : Wd) (v : Wt) : Decidable (pC p x v) := by unfold pC; infer_instance
def wB (x : Wd) (v : Wt) : Prop := bp x v.g ∧ ((ay x v.g).wt.op = 16 → bg (ay x v.g).wt.c)
instance (x : Wd) (v : Wt) : Decidable (wB x v) := by unfold wB; infer_instance
def Wd.Sm (x : Wd) : Prop := (∀ c ∈ x.aE, c.Small 1000000) ∧ x.aE.length ≤ 1000 ∧ x.gs.length ≤ 1000 ∧ x.ready.length ≤ 1000000 ∧ x.out.length ≤ 1000000 ∧ (∀ l ∈ x.aM, l.waits.length ≤ 1000000) ∧ x.aM.length ≤ 1000 ∧ x.hl.length ≤ 1000000
instance (x : Wd) : Decidable x.Sm := by unfold Wd.Sm; infer_instance
theorem gE {x : Wd} {g : Int} {y : iQ} (h0 : 0 ≤ g) (hg : g < x.gs.length) : ay (x.bD g y) g = y := by
 have : g.toNat < x.gs.length := by omega
 simp [ay, Wd.bD, this]
end Go.Proofs
namespace Go.Proofs
open Go.AF
set_option maxRecDepth 100000
variable {M : Mem} {K : Value → Mem → Prop} {Kp : List PanicEntry → Mem → Prop}
theorem sE {B0 : Option Addr} {m0 c0 : Nat} (h :
aV (((m0 : Nat) : Int) == 0)
 (K (.pointer none) M)
 (((0 : Int) ≤ (IntKind.wrap .i64 (((m0 : Nat) : Int) - 1))) ∧
 (((IntKind.wrap .i64 (((m0 : Nat) : Int) - 1)) : Int) < ((m0 : Nat) : Int)) ∧
 aI B0 fun k1 k2 =>
 K (.pointer (some ⟨k1, (k2 + ((Int.toNat (IntKind.wrap .i64 (((m0 : Nat) : Int) - 1))) * 11)), none⟩)) M)) :
 ae Tryz.prog 120 ([.slice B0 m0 c0] : List Value).toArray M K Kp :=
 aA (C := Cx) good [] Tryz.func120 (by kernel_rfl) (by kernel_rfl) h
theorem ot {b0 o0 : Nat} {x1 : Int} (h :
aV (decide ((x1 : Int) < 0))
 (K (.int .i64 0) M)
 (aD (Mem.ld M ⟨b0, (o0 + 4), none⟩) fun A1 k2 k3 =>
 aV (decide ((x1 : Int) ≥ ((k2 : Nat) : Int)))
  (K (.int .i64 0) M)
  (aD (Mem.ld M ⟨b0, (o0 + 4), none⟩) fun A4 k5 k6 =>
  ((0 : Int) ≤ x1) ∧
  ((x1 : Int) < ((k5 : Nat) : Int)) ∧
  aI A4 fun k7 k8 =>
  bL (Mem.ld M ⟨k7, (k8 + (Int.toNat x1)), none⟩) fun A9 =>
  aI A9 fun eA eB =>
  aK (Mem.ld M ⟨eA, eB, none⟩) .i64 fun jf =>
  K (.int .i64 jf) M))) :
 ae Tryz.prog 65 ([.pointer (some ⟨b0, o0, none⟩), .int .i64 x1] : List Value).toArray M K Kp :=
 aA (C := Cx) good [] Tryz.func65 (by kernel_rfl) (by kernel_rfl) h
theorem sF {b0 o0 : Nat} (h :
rS M b0 (o0 + 4) fun A1 k2 k3 =>
K (iV ((k2 : Nat) : Int)) M) :
 ae Tryz.prog 64 ([.pointer (some ⟨b0, o0, none⟩)] : List Value).toArray M K Kp :=
 aA (C := Cx) good [] Tryz.func64 (by kernel_rfl) (by kernel_rfl) h
theorem sG {b0 o0 : Nat} (h :
rI M b0 (o0 + 11) fun n1 =>
rI M b0 (o0 + 12) fun n2 =>
K (.tuple #[(iV n1), (iV n2)]) M) :
 ae Tryz.prog 60 ([.pointer (some ⟨b0, o0, none⟩)] : List Value).toArray M K Kp :=
 aA (C := Cx) good [(1, .bS [0, 1, 3, 7, 0, 16, 48, 112, 15, 511] (.step 0 (.step 1 (.step 2 (.step 4 (.step 5 (.step 6 (.step 3 (.step 8 (.step 7 (.step 9 .done)))))))))))] Tryz.func60 (by kernel_rfl) (by kernel_rfl) h
theorem qI {b0 o0 : Nat} (h :
aK (Mem.ld M ⟨b0, (o0 + 11), none⟩) .i64 fun n1 =>
aV (n1 != 0)
 (K (.slice none 0 0) M)
 (aK (Mem.ld M ⟨b0, (o0 + 5), none⟩) .u64 fun n2 =>
 aO M ⟨b0, (o0 + 5), none⟩ (.int .u64 (IntKind.wrap .u64 (n2 + 1))) fun M3 =>
 aO M3 ⟨b0, (o0 + 13), none⟩ (.slice none 0 0) fun M4 =>
 aK (Mem.ld M4 ⟨b0, (o0 + 5), none⟩) .u64 fun n5 =>
 ae Tryz.prog 89 #[(.pointer (some ⟨b0, (o0 + 8), none⟩)), (.int .u64 n5)] M4 (fun v6 M7 =>
 aD (some v6) fun A8 k9 eA =>
 ∃ I11 : Nat → List Value → Mem → Prop, (∃ fK : Nat, I11 fK [(.int .i64 0)] M7) ∧
 ∀ c7 : Nat, ∀ junk14 : Nat → Value, ∀ jY : Int, ∀ eT : Mem, (I11 c7 [(.int .i64 jY)] eT) → aV (decide ((jY : Int) < ((k9 : Nat) : Int)))
  (((0 : Int) ≤ jY) ∧
  ((jY : Int) < ((k9 : Nat) : Int)) ∧
  aI A8 fun eE dS =>
  aK (Mem.ld eT ⟨eE, (dS + ((Int.toNat jY) * 3)), none⟩) .u64 fun wq =>
  aK (Mem.ld eT ⟨eE, ((dS + ((Int.toNat jY) * 3)) + 1), none⟩) .u64 fun fq =>
  aK (Mem.ld eT ⟨eE, ((dS + ((Int.toNat jY) * 3)) + 2), none⟩) .i64 fun nw =>
  bj eT (.cells #[(.int .u64 0), (.int .u64 0), (.int .i64 0)] 205 (0, 0)) fun gz kL =>
  aO kL ⟨gz, 0, none⟩ (.int .u64 wq) fun ie =>
  aO ie ⟨gz, (0 + 1), none⟩ (.int .u64 fq) fun AX =>
  aO AX ⟨gz, (0 + 2), none⟩ (.int .i64 nw) fun wj =>
  aK (Mem.ld wj ⟨gz, (0 + 2), none⟩) .i64 fun xA =>
  ae Tryz.prog 90 #[(.pointer (some ⟨b0, o0, none⟩)), (.int .i64 xA)] wj (fun Mm lT =>
  (Mm = (.tuple #[])) ∧
  ∃ kZ : Nat, (kZ < c7) ∧
  I11 kZ [(.int .i64 (IntKind.wrap .i64 (jY + 1)))] lT) Kp)
  (aD (Mem.ld eT ⟨b0, (o0 + 13), none⟩) fun Pq tw nE =>
  K (.slice Pq tw nE) eT)) Kp)) :
 ae Tryz.prog 43 ([.pointer (some ⟨b0, o0, none⟩)] : List Value).toArray M K Kp :=
 aA (C := Cx) good [(5, .bS [0, 1, 3, 0, 8, 24, 56, 127, 255, 0] (.step 0 (.step 1 (.step 2 (.step 3 (.step 4 (.step 5 (.step 9 (.step 6 (.step 7 (.step 8 .done))))))))))), (2000000, .loop [(29, .c (.int .i64))])] Tryz.func43 (by kernel_rfl) (by kernel_rfl) h
theorem yu {x0 : Int} {x1 : Int} (h :
bj M (.cells #[(iV x0), (iV 0), (iV x1), (iV 0), (iV 0), (iV 0), (iV 0), (iV 0), (iV 0), (iV 0), (iV 0)] 234 (0, 0)) fun k1 M2 =>
K (.slice (some ⟨k1, 0, none⟩) 1 1) M2) :
 ae Tryz.prog 71 ([.int .i64 x0, .int .i64 x1] : List Value).toArray M K Kp :=
 aA (C := Cx) good [] Tryz.func71 (by kernel_rfl) (by kernel_rfl) h
theorem Cr  (h :
bj M (.cells #[(iV (-1)), (.slice none 0 0)] 238 (0, 0)) fun k1 M2 =>
K (.pointer (some ⟨k1, 0, none⟩)) M2) :
 ae Tryz.prog 73 ([] : List Value).toArray M K Kp :=
 aA (C := Cx) good [] Tryz.func73 (by kernel_rfl) (by kernel_rfl) h
theorem tY {b0 o0 : Nat} {x1 : Int} (h :
∃ I1 : Nat → List Value → Mem → Prop, (∃ k2 : Nat, I1 k2 [(.slice none 0 0)] M) ∧
∀ k3 : Nat, ∀ wu : Nat → Value, ∀ A5 : Option Addr, ∀ k6 : Nat, ∀ k7 : Nat, ∀ M8 : Mem, (I1 k3 [(.slice A5 k6 k7)] M8) → aD (Mem.ld M8 ⟨b0, o0, none⟩) fun A9 eA eB =>
aV (decide ((((eA : Nat) : Int) : Int) > 0))
 (aD (Mem.ld M8 ⟨b0, o0, none⟩) fun sB c7 fX =>
 ((0 : Int) ≤ 0) ∧
 ((0 : Int) < ((c7 : Nat) : Int)) ∧
 aI sB fun fT dF =>
 aK (Mem.ld M8 ⟨fT, (dF + 0), none⟩) .u64 fun hU =>
 aV (decide ((hU : Int) ≤ x1))
  (ae Tryz.prog 106 #[(.pointer (some ⟨b0, o0, none⟩)), (.int .i64 0)] M8 (fun DV hH =>
  ∃ fq : Int, ∃ nw : Int, ∃ rU : Int, (DV = (.agg #[(.int .u64 fq), (.int .u64 nw), (.int .i64 rU)])) ∧
  bj hH (.cells #[(.int .u64 fq), (.int .u64 nw), (.int .i64 rU)] 205 (0, 0)) fun iL ie =>
  aS Tryz.prog (Go.Builtin.append_ #[65, 65] 65 #[(.slice A5 k6 k7), (.slice (some ⟨iL, 0, none⟩) 1 1)]) ie (fun SX wj =>
  aD (some SX) fun Rs lg jZ =>
  ∃ kZ : Nat, (kZ < k3) ∧
  I1 kZ [(.slice Rs lg jZ)] wj) Kp) Kp)
  (K (.slice A5 k6 k7) M8))
 (K (.slice A5 k6 k7) M8)) :
 ae Tryz.prog 89 ([.pointer (some ⟨b0, o0, none⟩), .int .u64 x1] : List Value).toArray M K Kp :=
 aA (C := Cx) good [(2000000, .loop [(5, .c .sl)])] Tryz.func89 (by kernel_rfl) (by kernel_rfl) h
theorem qJ {b0 o0 : Nat} {x1 : Int} (h :
rS M b0 (o0 + 4) fun A1 k2 k3 =>
((0 : Int) ≤ x1) ∧
((x1 : Int) < ((k2 : Nat) : Int)) ∧
aI A1 fun k4 k5 =>
bL (Mem.ld M ⟨k4, (k5 + (Int.toNat x1)), none⟩) fun A6 =>
aI A6 fun k7 k8 =>
sT M k7 k8 (iV 1) fun M9 =>
rS M9 b0 (o0 + 13) fun Db eB fK =>
bj M9 (.cells #[(iV x1)] 3 (0, 0)) fun c7 ik =>
aS Tryz.prog (Go.Builtin.append_ #[38, 38] 38 #[(.slice Db eB fK), (.slice (some ⟨c7, 0, none⟩) 1 1)]) ik (fun Co eT =>
aD (some Co) fun KT dS iO =>
sT eT b0 (o0 + 13) (.slice KT dS iO) fun nx =>
K (.tuple #[]) nx) Kp) :
 ae Tryz.prog 90 ([.pointer (some ⟨b0, o0, none⟩), .int .i64 x1] : List Value).toArray M K Kp :=
 aA (C := Cx) good [] Tryz.func90 (by kernel_rfl) (by kernel_rfl) h
theorem qK {b0 o0 : Nat} {cV : Int} {cW : Int} {cX : Int} {eK : Int} (h :
bj M (.cells #[(iV cV), (iV cW), (iV cX), (iV eK)] 34 (0, 0)) fun k1 M2 =>
rI M2 k1 0 fun n3 =>
ae Tryz.prog 153 #[] M2 (fun v4 M5 =>
((Mem.ld M5 ⟨k1, 0, none⟩) = (some (iV n3))) ∧
aS Tryz.prog (Go.Instr.lookup 302 v4 (iV n3) true) M5 (fun v6 M7 =>
∃ v8 : Value, ∃ t9 : Bool, (v6 = (.tuple #[v8, (.bool t9)])) ∧
((Mem.ld M7 ⟨k1, 0, none⟩) = (some (iV n3))) ∧
aV t9
 (rI M7 b0 (o0 + 1) fun jP =>
 sT M7 b0 (o0 + 1) (iV (IntKind.wrap .i64 (jP + 1))) fun iq =>
 rI iq k1 0 fun jf =>
 rI iq k1 1 fun jg =>
 rI iq k1 2 fun je =>
 rI iq k1 3 fun jY =>
 iu Cx v8 [(.pointer (some ⟨b0, o0, none⟩)), (.agg #[(iV jf), (iV jg), (iV je), (iV jY)])] iq (fun Pr jO =>
 (Pr = (.tuple #[])) ∧
 K (.bool t9) jO) Kp)
 (K (.bool t9) M7)) Kp) Kp) :
 ae Tryz.prog 121 ([.pointer (some ⟨b0, o0, none⟩), .agg #[.int .i64 cV, .int .i64 cW, .int .i64 cX, .int .i64 eK]] : List Value).toArray M K Kp :=
 aA (C := Cx) good [(1, .bS [0, 0, 2, 7, 15, 31, 31, 63, 255] (.step 1 (.dx 2 (.step 0 (.step 3 (.step 4 (.step 5 (.step 6 (.step 7 (.step 8 .done))))))))))] Tryz.func121 (by kernel_rfl) (by kernel_rfl) h
theorem ou {b0 o0 : Nat} {x1 : Int} {b2 o2 : Nat} {fe : Int} {fh : Int} {fj : Int} {fk : Int} (h :
bj M (.cells #[(iV fe), (iV fh), (iV fj), (iV fk)] 34 (0, 0)) fun k1 M2 =>
rI M2 k1 0 fun n3 =>
rI M2 k1 1 fun n4 =>
rI M2 k1 2 fun n5 =>
rI M2 k1 3 fun n6 =>
ae Tryz.prog 154 #[(.pointer (some ⟨b0, o0, none⟩)), (.agg #[(iV n3), (iV n4), (iV n5), (iV n6)])] M2 (fun v7 M8 =>
aD (some v7) fun A9 eA eB =>
rS M8 b0 (o0 + 6) fun sB c7 fX =>
ae Tryz.prog 155 #[(.slice A9 eA eB), (.slice sB c7 fX)] M8 (fun Co eT =>
aD (some Co) fun KT dS iO =>
aV (((dS : Nat) : Int) == 0)
 (rI eT b2 (o2 + 1) fun fq =>
 sT eT b2 (o2 + 1) (iV (IntKind.wrap .i64 (fq + 1))) fun iP =>
 ae Tryz.prog 156 #[(.slice A9 eA eB)] iP (fun F1 kL =>
 ∃ wY : Int, ∃ t25 : Bool, (F1 = (.tuple #[(iV wY), (.bool t25)])) ∧
 aV t25
 (rI kL k1 3 fun ov =>
 ((0 : Int) ≤ ov) ∧
 ((ov : Int) < 8) ∧
 sT kL b2 ((o2 + 2) + (Int.toNat ov)) (iV wY) fun rV =>
 K (.tuple #[]) rV)
 (((0 : Int) ≤ 8) ∧
 ((8 : Int) ≤ 8) ∧
 ((0 : Int) ≤ 8) ∧
 ((8 : Int) ≤ 8) ∧
 ((0 : Int) ≤ 0) ∧
 ((0 : Int) ≤ 8) ∧
 rS kL b0 (o0 + 6) fun JE jZ kZ =>
 ae Tryz.prog 157 #[(iV x1), (.slice A9 eA eB), (.slice (lj (some ⟨b2, (o2 + 2), none⟩) 0 8 1) 8 8), (.slice JE jZ kZ)] kL (fun SM mA =>
 (SM = (.tuple #[])) ∧
 rI mA k1 0 fun kY =>
 rI mA k1 1 fun Ps =>
 rI mA k1 2 fun KW =>
 rI mA k1 3 fun xB =>
 ae Tryz.prog 158 #[(.pointer (some ⟨b0, o0, none⟩)), (iV x1), (.agg #[(iV kY), (iV Ps), (iV KW), (iV xB)])] mA (fun Rt jJ =>
 (Rt = (.tuple #[])) ∧
 K (.tuple #[]) jJ) Kp) Kp)) Kp)
 (fx (Mem.ld eT ⟨b0, (o0 + 14), none⟩) fun Zi =>
 iu Cx Zi [(iV 3), (iV ((dS : Nat) : Int))] eT (fun H8 wZ =>
 aK (some H8) .i64 fun Pt =>
 ((0 : Int) ≤ Pt) ∧
 ((Pt : Int) < ((dS : Nat) : Int)) ∧
 aI KT fun nW Jz =>
 rI wZ nW (Jz + (Int.toNat Pt)) fun uN =>
 rI wZ b2 (o2 + 1) fun Ba =>
 sT wZ b2 (o2 + 1) (iV (IntKind.wrap .i64 (Ba + 1))) fun rY =>
 ((0 : Int) ≤ uN) ∧
 ((uN : Int) < ((eA : Nat) : Int)) ∧
 aI A9 fun Bb Ga =>
 rI rY Bb (Ga + ((Int.toNat uN) * 3)) fun Bc =>
 rI rY Bb ((Ga + ((Int.toNat uN) * 3)) + 1) fun zY =>
 rI rY Bb ((Ga + ((Int.toNat uN) * 3)) + 2) fun Xh =>
 bj rY (.cells #[(iV 0), (iV 0), (iV 0)] 172 (0, 0)) fun jI Ci =>
 sT Ci jI 0 (iV Bc) fun mV =>
 sT mV jI 1 (iV zY) fun Fg =>
 sT Fg jI 2 (iV Xh) fun wW =>
 rI wW jI 0 fun DW =>
 aV (DW == 1)
 (rI wW jI 1 fun Cj =>
 rI wW jI 2 fun HY =>
 ((0 : Int) ≤ HY) ∧
 ((HY : Int) < 8) ∧
 rI wW b2 ((o2 + 2) + (Int.toNat HY)) fun JA =>
 ae Tryz.prog 159 #[(.pointer (some ⟨b0, o0, none⟩)), (iV Cj), (iV JA)] wW (fun SY wk =>
 cD (some SY) fun t64 =>
 rI wk k1 3 fun vg =>
 ((0 : Int) ≤ vg) ∧
 ((vg : Int) < 8) ∧
 sT wk b2 ((o2 + 2) + (Int.toNat vg)) (iV uN) fun Ru =>
 K (.tuple #[]) Ru) Kp)
 (rI wW jI 1 fun Xi =>
 rI wW jI 2 fun H9 =>
 ae Tryz.prog 160 #[(.pointer (some ⟨b0, o0, none⟩)), (iV Xi)] wW (fun Xj zF =>
 ∃ V4 : Int, ∃ Xk : Int, ∃ t73 : Bool, (Xj = (.tuple #[(iV V4), (iV Xk), (.bool t73)])) ∧
 ((Mem.ld zF ⟨jI, 2, none⟩) = (some (iV H9))) ∧
 ((0 : Int) ≤ H9) ∧
 ((H9 : Int) < 8) ∧
 sT zF b2 ((o2 + 2) + (Int.toNat H9)) (iV V4) fun Bd =>
 ((Mem.ld Bd ⟨jI, 2, none⟩) = (some (iV H9))) ∧
 rI Bd k1 3 fun Mh =>
 ((0 : Int) ≤ Mh) ∧
 ((Mh : Int) < 8) ∧
 sT Bd b2 ((o2 + 2) + (Int.toNat Mh)) (iV uN) fun M76 =>
 K (.tuple #[]) M76) Kp)) Kp)) Kp) Kp) :
 ae Tryz.prog 122 ([.pointer (some ⟨b0, o0, none⟩), .int .i64 x1, .pointer (some ⟨b2, o2, none⟩), .agg #[.int .i64 fe, .int .i64 fh, .int .i64 fj, .int .i64 fk]] : List Value).toArray M K Kp :=
 aA (C := Cx) good [(7, .bS [0, 0, 2, 0, 1, 17, 63, 127] (.step 0 (.step 1 (.step 3 (.step 4 (.step 5 (.step 2 (.step 6 (.step 7 .done))))))))), (8, .bS [0, 0, 0, 4, 12, 28, 0, 64, 192, 448, 1023] (.step 0 (.step 1 (.step 2 (.step 3 (.step 4 (.step 5 (.step 6 (.step 7 (.step 8 (.step 9 (.step 10 .done)))))))))))), (14, .bS [0, 0, 2, 0, 0, 16, 8, 72, 248, 504, 1023] (.step 0 (.step 1 (.step 3 (.step 4 (.step 6 (.step 7 (.step 2 (.step 5 (.step 8 (.step 9 (.step 10 .done)))))))))))), (15, .bS [0, 0, 2, 0, 0, 16, 56, 120, 248, 248, 248, 1, 2049, 6655, 14847] (.step 0 (.step 1 (.step 3 (.step 4 (.step 11 (.step 12 (.step 5 (.dx 2 (.step 6 (.step 7 (.step 8 (.step 9 (.step 10 (.step 13 (.step 14 .done)))))))))))))))), (16, .bS [0, 0, 2, 0, 1, 17, 63, 127] (.step 0 (.step 1 (.step 3 (.step 4 (.step 5 (.step 2 (.step 6 (.step 7 .done)))))))))] Tryz.func122 (by kernel_rfl) (by kernel_rfl) h
theorem qL {b0 o0 : Nat} {x1 : Int} {b2 o2 : Nat} {fe : Int} {fh : Int} {fj : Int} {fk : Int} (h :
bj M (.cells #[(iV fe), (iV fh), (iV fj), (iV fk)] 34 (0, 0)) fun k1 M2 =>
fx (Mem.ld M2 ⟨b0, (o0 + 14), none⟩) fun v3 =>
rI M2 k1 2 fun n4 =>
iu Cx v3 [(iV 4), (iV n4)] M2 (fun v5 M6 =>
aK (some v5) .i64 fun n7 =>
rI M6 b2 (o2 + 1) fun n8 =>
sT M6 b2 (o2 + 1) (iV (IntKind.wrap .i64 (n8 + 1))) fun M9 =>
rI M9 k1 1 fun jP =>
((0 : Int) ≤ jP) ∧
((jP : Int) < 8) ∧
sT M9 b2 ((o2 + 2) + (Int.toNat jP)) (iV n7) fun iq =>
K (.tuple #[]) iq) Kp) :
 ae Tryz.prog 123 ([.pointer (some ⟨b0, o0, none⟩), .int .i64 x1, .pointer (some ⟨b2, o2, none⟩), .agg #[.int .i64 fe, .int .i64 fh, .int .i64 fj, .int .i64 fk]] : List Value).toArray M K Kp :=
 aA (C := Cx) good [(1, .bS [0, 1, 3, 7, 0, 16, 63, 127] (.step 0 (.step 1 (.step 2 (.step 4 (.step 3 (.step 5 (.step 6 (.step 7 .done))))))))), (3, .bS [0, 0, 2, 0, 1, 17, 63, 127] (.step 0 (.step 1 (.step 3 (.step 4 (.step 5 (.step 2 (.step 6 (.step 7 .done)))))))))] Tryz.func123 (by kernel_rfl) (by kernel_rfl) h
theorem yw  (h :
bj M (.map #[] 0) fun k1 M2 =>
bI Tryz.prog (Go.Instr.mapUpdate 261 (.map (some k1)) (iV 9) (.func (.func 161) #[] #[])) M2 (fun M3 =>
bI Tryz.prog (Go.Instr.mapUpdate 261 (.map (some k1)) (iV 10) (.func (.func 162) #[] #[])) M3 (fun M4 =>
bI Tryz.prog (Go.Instr.mapUpdate 261 (.map (some k1)) (iV 11) (.func (.func 163) #[] #[])) M4 (fun M5 =>
bI Tryz.prog (Go.Instr.mapUpdate 261 (.map (some k1)) (iV 12) (.func (.func 164) #[] #[])) M5 (fun M6 =>
bI Tryz.prog (Go.Instr.mapUpdate 261 (.map (some k1)) (iV 13) (.func (.func 165) #[] #[])) M6 (fun M7 =>
bI Tryz.prog (Go.Instr.mapUpdate 261 (.map (some k1)) (iV 14) (.func (.func 166) #[] #[])) M7 (fun M8 =>
bI Tryz.prog (Go.Instr.mapUpdate 261 (.map (some k1)) (iV 15) (.func (.func 167) #[] #[])) M8 (fun M9 =>
bI Tryz.prog (Go.Instr.mapUpdate 261 (.map (some k1)) (iV 17) (.func (.func 168) #[] #[])) M9 (fun gS =>
bI Tryz.prog (Go.Instr.mapUpdate 261 (.map (some k1)) (iV 18) (.func (.func 169) #[] #[])) gS (fun iq =>
bI Tryz.prog (Go.Instr.mapUpdate 261 (.map (some k1)) (iV 19) (.func (.func 170) #[] #[])) iq (fun jH =>
bI Tryz.prog (Go.Instr.mapUpdate 261 (.map (some k1)) (iV 20) (.func (.func 171) #[] #[])) jH (fun jN =>
bI Tryz.prog (Go.Instr.mapUpdate 261 (.map (some k1)) (iV 22) (.func (.func 172) #[] #[])) jN (fun ik =>
K (.map (some k1)) ik) Kp) Kp) Kp) Kp) Kp) Kp) Kp) Kp) Kp) Kp) Kp) Kp) :
 ae Tryz.prog 124 ([] : List Value).toArray M K Kp :=
 aA (C := Cx) good [] Tryz.func124 (by kernel_rfl) (by kernel_rfl) h
theorem qM {b0 o0 : Nat} {x1 : Int} (h :
bj M (.cells #[(.int .u64 0), (.int .u64 0), (.int .i64 0)] 205 (0, 0)) fun k1 M2 =>
aD (Mem.ld M2 ⟨b0, o0, none⟩) fun A3 k4 k5 =>
((0 : Int) ≤ x1) ∧
((x1 : Int) < ((k4 : Nat) : Int)) ∧
aI A3 fun k6 k7 =>
aK (Mem.ld M2 ⟨k6, (k7 + ((Int.toNat x1) * 3)), none⟩) .u64 fun n8 =>
aK (Mem.ld M2 ⟨k6, ((k7 + ((Int.toNat x1) * 3)) + 1), none⟩) .u64 fun n9 =>
aK (Mem.ld M2 ⟨k6, ((k7 + ((Int.toNat x1) * 3)) + 2), none⟩) .i64 fun jP =>
bj M2 (.cells #[(.int .u64 0), (.int .u64 0), (.int .i64 0)] 205 (0, 0)) fun eB jH =>
aO jH ⟨eB, 0, none⟩ (.int .u64 n8) fun jN =>
aO jN ⟨eB, (0 + 1), none⟩ (.int .u64 n9) fun ik =>
aO ik ⟨eB, (0 + 2), none⟩ (.int .i64 jP) fun nX =>
aD (Mem.ld nX ⟨b0, o0, none⟩) fun Rv eE dS =>
ae Tryz.prog 136 #[(.pointer (some ⟨b0, o0, none⟩)), (.int .i64 x1), (.int .i64 (IntKind.wrap .i64 (((eE : Nat) : Int) - 1)))] nX (fun Pu nx =>
(Pu = (.tuple #[])) ∧
aD (Mem.ld nx ⟨b0, o0, none⟩) fun Cn gz iL =>
((0 : Int) ≤ ((iL : Nat) : Int)) ∧
((((iL : Nat) : Int) : Int) ≤ ((iL : Nat) : Int)) ∧
((0 : Int) ≤ (IntKind.wrap .i64 (((eE : Nat) : Int) - 1))) ∧
(((IntKind.wrap .i64 (((eE : Nat) : Int) - 1)) : Int) ≤ ((iL : Nat) : Int)) ∧
((0 : Int) ≤ 0) ∧
((0 : Int) ≤ (IntKind.wrap .i64 (((eE : Nat) : Int) - 1))) ∧
aO nx ⟨b0, o0, none⟩ (.slice (lj Cn 0 (Int.toNat ((iL : Nat) : Int)) 3) ((Int.toNat (IntKind.wrap .i64 (((eE : Nat) : Int) - 1))) - 0) ((Int.toNat ((iL : Nat) : Int)) - 0)) fun ie =>
aV (decide ((x1 : Int) < (IntKind.wrap .i64 (((eE : Nat) : Int) - 1))))
 (ae Tryz.prog 137 #[(.pointer (some ⟨b0, o0, none⟩)), (.int .i64 x1)] ie (fun SX wj =>
 (SX = (.tuple #[])) ∧
 ae Tryz.prog 138 #[(.pointer (some ⟨b0, o0, none⟩)), (.int .i64 x1)] wj (fun Ml yg =>
 (Ml = (.tuple #[])) ∧
 aK (Mem.ld yg ⟨eB, 0, none⟩) .u64 fun wA =>
 aK (Mem.ld yg ⟨eB, (0 + 1), none⟩) .u64 fun Gb =>
 aK (Mem.ld yg ⟨eB, (0 + 2), none⟩) .i64 fun tv =>
 aO yg ⟨k1, 0, none⟩ (.int .u64 wA) fun mA =>
 aO mA ⟨k1, (0 + 1), none⟩ (.int .u64 Gb) fun tT =>
 aO tT ⟨k1, (0 + 2), none⟩ (.int .i64 tv) fun lY =>
 aK (Mem.ld lY ⟨k1, 0, none⟩) .u64 fun KW =>
 aK (Mem.ld lY ⟨k1, (0 + 1), none⟩) .u64 fun xB =>
 aK (Mem.ld lY ⟨k1, (0 + 2), none⟩) .i64 fun Md =>
 K (.agg #[(.int .u64 KW), (.int .u64 xB), (.int .i64 Md)]) lY) Kp) Kp)
 (aK (Mem.ld ie ⟨eB, 0, none⟩) .u64 fun Jw =>
 aK (Mem.ld ie ⟨eB, (0 + 1), none⟩) .u64 fun HV =>
 aK (Mem.ld ie ⟨eB, (0 + 2), none⟩) .i64 fun Ia =>
 aO ie ⟨k1, 0, none⟩ (.int .u64 Jw) fun wZ =>
 aO wZ ⟨k1, (0 + 1), none⟩ (.int .u64 HV) fun JG =>
 aO JG ⟨k1, (0 + 2), none⟩ (.int .i64 Ia) fun tZ =>
 aK (Mem.ld tZ ⟨k1, 0, none⟩) .u64 fun Df =>
 aK (Mem.ld tZ ⟨k1, (0 + 1), none⟩) .u64 fun uN =>
 aK (Mem.ld tZ ⟨k1, (0 + 2), none⟩) .i64 fun Ba =>
 K (.agg #[(.int .u64 Df), (.int .u64 uN), (.int .i64 Ba)]) tZ)) Kp) :
 ae Tryz.prog 106 ([.pointer (some ⟨b0, o0, none⟩), .int .i64 x1] : List Value).toArray M K Kp :=
 aA (C := Cx) good [] Tryz.func106 (by kernel_rfl) (by kernel_rfl) h
theorem yx  (h :
bj M (.map #[] 0) fun k1 M2 =>
bI Tryz.prog (Go.Instr.mapUpdate 302 (.map (some k1)) (iV 0) (.func (.func 195) #[] #[])) M2 (fun M3 =>
bI Tryz.prog (Go.Instr.mapUpdate 302 (.map (some k1)) (iV 1) (.func (.func 196) #[] #[])) M3 (fun M4 =>
bI Tryz.prog (Go.Instr.mapUpdate 302 (.map (some k1)) (iV 2) (.func (.func 197) #[] #[])) M4 (fun M5 =>
bI Tryz.prog (Go.Instr.mapUpdate 302 (.map (some k1)) (iV 3) (.func (.func 198) #[] #[])) M5 (fun M6 =>
bI Tryz.prog (Go.Instr.mapUpdate 302 (.map (some k1)) (iV 4) (.func (.func 199) #[] #[])) M6 (fun M7 =>
bI Tryz.prog (Go.Instr.mapUpdate 302 (.map (some k1)) (iV 5) (.func (.func 200) #[] #[])) M7 (fun M8 =>
bI Tryz.prog (Go.Instr.mapUpdate 302 (.map (some k1)) (iV 6) (.func (.func 201) #[] #[])) M8 (fun M9 =>
bI Tryz.prog (Go.Instr.mapUpdate 302 (.map (some k1)) (iV 7) (.func (.func 202) #[] #[])) M9 (fun gS =>
bI Tryz.prog (Go.Instr.mapUpdate 302 (.map (some k1)) (iV 8) (.func (.func 203) #[] #[])) gS (fun iq =>
K (.map (some k1)) iq) Kp) Kp) Kp) Kp) Kp) Kp) Kp) Kp) Kp) :
 ae Tryz.prog 153 ([] : List Value).toArray M K Kp :=
 aA (C := Cx) good [] Tryz.func153 (by kernel_rfl) (by kernel_rfl) h
theorem pD {b0 o0 : Nat} {cV : Int} {cW : Int} {cX : Int} {eK : Int} (h :
bj M (.cells #[(iV cV), (iV cW), (iV cX), (iV eK)] 34 (0, 0)) fun k1 M2 =>
rS M2 b0 (o0 + 3) fun A3 k4 k5 =>
rI M2 k1 1 fun n6 =>
rI M2 k1 1 fun n7 =>
rI M2 k1 2 fun n8 =>
((0 : Int) ≤ ((k5 : Nat) : Int)) ∧
((((k5 : Nat) : Int) : Int) ≤ ((k5 : Nat) : Int)) ∧
((0 : Int) ≤ (IntKind.wrap .i64 (n7 + n8))) ∧
(((IntKind.wrap .i64 (n7 + n8)) : Int) ≤ ((k5 : Nat) : Int)) ∧
((0 : Int) ≤ n6) ∧
((n6 : Int) ≤ (IntKind.wrap .i64 (n7 + n8))) ∧
K (.slice (lj A3 (Int.toNat n6) (Int.toNat ((k5 : Nat) : Int)) 3) ((Int.toNat (IntKind.wrap .i64 (n7 + n8))) - (Int.toNat n6)) ((Int.toNat ((k5 : Nat) : Int)) - (Int.toNat n6))) M2) :
 ae Tryz.prog 154 ([.pointer (some ⟨b0, o0, none⟩), .agg #[.int .i64 cV, .int .i64 cW, .int .i64 cX, .int .i64 eK]] : List Value).toArray M K Kp :=
 aA (C := Cx) good [(1, .bS [0, 1, 3, 7, 15, 0, 32, 0, 128, 0, 512, 1920, 4095, 8191] (.step 0 (.step 1 (.step 2 (.step 3 (.step 5 (.step 7 (.step 9 (.step 4 (.step 6 (.step 8 (.step 10 (.step 11 (.step 12 (.step 13 .done)))))))))))))))] Tryz.func154 (by kernel_rfl) (by kernel_rfl) h
theorem pE {b0 o0 : Nat} {x1 : Int} {Mq : Int} {Mr : Int} {Ms : Int} {Mt : Int} (h :
bj M (.cells #[(iV Mq), (iV Mr), (iV Ms), (iV Mt)] 34 (0, 0)) fun k1 M2 =>
rS M2 b0 (o0 + 4) fun A3 k4 k5 =>
((0 : Int) ≤ x1) ∧
((x1 : Int) < ((k4 : Nat) : Int)) ∧
aI A3 fun k6 k7 =>
bL (Mem.ld M2 ⟨k6, (k7 + (Int.toNat x1)), none⟩) fun A8 =>
rS M2 b0 (o0 + 4) fun A9 eA eB =>
((0 : Int) ≤ x1) ∧
((x1 : Int) < ((eA : Nat) : Int)) ∧
aI A9 fun fK c7 =>
bL (Mem.ld M2 ⟨fK, (c7 + (Int.toNat x1)), none⟩) fun nY =>
aI A8 fun fT dF =>
rI M2 k1 0 fun hU =>
rI M2 k1 1 fun kq =>
rI M2 k1 2 fun wq =>
rI M2 k1 3 fun fq =>
sT M2 fT dF (iV 2) fun iP =>
((Mem.fy iP ⟨k1, 0, none⟩ 0 4) = some [(iV hU), (iV kq), (iV wq), (iV fq)]) ∧
aI nY fun gz iL =>
sT iP gz (iL + 2) (iV hU) fun ie =>
sT ie gz ((iL + 2) + 1) (iV kq) fun AX =>
sT AX gz ((iL + 2) + 2) (iV wq) fun wj =>
sT wj gz ((iL + 2) + 3) (iV fq) fun rV =>
((Mem.fy rV ⟨k1, 0, none⟩ 0 4) = some [(iV hU), (iV kq), (iV wq), (iV fq)]) ∧
K (.tuple #[]) rV) :
 ae Tryz.prog 158 ([.pointer (some ⟨b0, o0, none⟩), .int .i64 x1, .agg #[.int .i64 Mq, .int .i64 Mr, .int .i64 Ms, .int .i64 Mt]] : List Value).toArray M K Kp :=
 aA (C := Cx) good [(1, .bS [0, 1, 3, 7, 0, 31, 63, 0, 128, 384, 896, 0, 3968, 8064, 0, 16383, 49151, 114687, 262143, 524287, 1048575] (.step 0 (.step 1 (.step 2 (.step 4 (.step 7 (.step 8 (.step 9 (.step 11 (.step 3 (.step 5 (.step 6 (.step 10 (.step 12 (.step 13 (.step 15 (.step 16 (.dx 14 (.step 17 (.step 18 (.step 19 (.step 20 .done))))))))))))))))))))))] Tryz.func158 (by kernel_rfl) (by kernel_rfl) h
theorem sH {b0 o0 : Nat} {x1 : Int} {x2 : Int} (h :
rS M b0 (o0 + 6) fun A1 k2 k3 =>
((0 : Int) ≤ x1) ∧
((x1 : Int) < ((k2 : Nat) : Int)) ∧
aI A1 fun k4 k5 =>
bL (Mem.ld M ⟨k4, (k5 + (Int.toNat x1)), none⟩) fun A6 =>
ae Tryz.prog 207 #[(.pointer A6), (iV x2)] M (fun v7 M8 =>
∃ n9 : Int, ∃ jP : Int, ∃ fu : Int, ∃ t12 : Bool, ∃ jg : Int, (v7 = (.tuple #[(.agg #[(iV n9), (iV jP), (iV fu)]), (.bool t12), (iV jg)])) ∧
bj M8 (.cells #[(iV 0), (iV 0), (iV 0)] 298 (0, 0)) fun fX nX =>
sT nX fX 0 (iV n9) fun eT =>
sT eT fX 1 (iV jP) fun jO =>
sT jO fX 2 (iV fu) fun mC =>
aV (jg == 10)
 (Kp [{ v := (.iface 256 (iV (-1))), recovered := false }] mC)
 (aV t12
 (rI mC fX 0 fun wq =>
 rI mC fX 1 fun fq =>
 rI mC fX 2 fun nw =>
 ae Tryz.prog 208 #[(.pointer (some ⟨b0, o0, none⟩)), (.agg #[(iV wq), (iV fq), (iV nw)]), (iV 1)] mC (fun F1 kL =>
 (F1 = (.tuple #[])) ∧
 K (.bool (jg == 0)) kL) Kp)
 (K (.bool (jg == 0)) mC))) Kp) :
 ae Tryz.prog 159 ([.pointer (some ⟨b0, o0, none⟩), .int .i64 x1, .int .i64 x2] : List Value).toArray M K Kp :=
 aA (C := Cx) good [] Tryz.func159 (by kernel_rfl) (by kernel_rfl) h
theorem sI {b0 o0 : Nat} {x1 : Int} (h :
rS M b0 (o0 + 6) fun A1 k2 k3 =>
((0 : Int) ≤ x1) ∧
((x1 : Int) < ((k2 : Nat) : Int)) ∧
aI A1 fun k4 k5 =>
bL (Mem.ld M ⟨k4, (k5 + (Int.toNat x1)), none⟩) fun A6 =>
ae Tryz.prog 209 #[(.pointer A6)] M (fun v7 M8 =>
∃ n9 : Int, ∃ t10 : Bool, ∃ fu : Int, ∃ jf : Int, ∃ jg : Int, ∃ t14 : Bool, ∃ jY : Int, (v7 = (.tuple #[(.agg #[(iV n9), (.bool t10), (iV fu), (iV jf), (iV jg), (.bool t14)]), (iV jY)])) ∧
bj M8 (.cells #[(iV 0), (.bool false), (iV 0), (iV 0), (iV 0), (.bool false)] 335 (0, 0)) fun dF jO =>
sT jO dF 0 (iV n9) fun mC =>
sT mC dF 1 (.bool t10) fun hH =>
sT hH dF 2 (iV fu) fun nx =>
sT nx dF 3 (iV jf) fun iP =>
sT iP dF 4 (iV jg) fun cR =>
sT cR dF 5 (.bool t14) fun kL =>
cD (Mem.ld kL ⟨dF, 5, none⟩) fun t24 =>
aV t24
 (rI kL dF 2 fun lZ =>
 rI kL dF (2 + 1) fun ov =>
 rI kL dF (2 + 2) fun xA =>
 ae Tryz.prog 210 #[(.pointer (some ⟨b0, o0, none⟩)), (.agg #[(iV lZ), (iV ov), (iV xA)])] kL (fun Mm lT =>
 (Mm = (.tuple #[])) ∧
 cD (Mem.ld lT ⟨dF, 1, none⟩) fun t30 =>
 aV t30
 (rI lT dF 0 fun tv =>
 K (.tuple #[(iV tv), (iV 1), (.bool true)]) lT)
 (K (.tuple #[(iV 0), (iV 0), (.bool (jY == 0))]) lT)) Kp)
 (cD (Mem.ld kL ⟨dF, 1, none⟩) fun t32 =>
 aV t32
 (rI kL dF 0 fun kY =>
 K (.tuple #[(iV kY), (iV 1), (.bool true)]) kL)
 (K (.tuple #[(iV 0), (iV 0), (.bool (jY == 0))]) kL))) Kp) :
 ae Tryz.prog 160 ([.pointer (some ⟨b0, o0, none⟩), .int .i64 x1] : List Value).toArray M K Kp :=
 aA (C := Cx) good [] Tryz.func160 (by kernel_rfl) (by kernel_rfl) h
theorem qN {b0 o0 : Nat} {x1 : Int} {b2 o2 : Nat} {fe : Int} {fh : Int} {fj : Int} {fk : Int} (h :
bj M (.cells #[(iV fe), (iV fh), (iV fj), (iV fk)] 34 (0, 0)) fun k1 M2 =>
rS M2 b0 (o0 + 4) fun A3 k4 k5 =>
((0 : Int) ≤ x1) ∧
((x1 : Int) < ((k4 : Nat) : Int)) ∧
aI A3 fun k6 k7 =>
bL (Mem.ld M2 ⟨k6, (k7 + (Int.toNat x1)), none⟩) fun A8 =>
aI A8 fun k9 eA =>
rS M2 k9 (eA + 1) fun JH fK c7 =>
rI M2 k1 1 fun je =>
rI M2 k1 2 fun jY =>
((0 : Int) ≤ jY) ∧
((jY : Int) < 8) ∧
rI M2 b2 ((o2 + 2) + (Int.toNat jY)) fun mz =>
rI M2 k1 3 fun hU =>
ae Tryz.prog 211 #[(.slice JH fK c7), (iV je), (iV mz), (iV hU)] M2 (fun DV hH =>
∃ Zj : Option Addr, ∃ fa : Nat, ∃ gz : Nat, ∃ t23 : Bool, (DV = (.tuple #[(.slice Zj fa gz), (.bool t23)])) ∧
aV (!t23)
 (Kp [{ v := (.iface 256 (iV (-4))), recovered := false }] hH)
 (rS hH b0 (o0 + 4) fun F2 sw lC =>
 ((0 : Int) ≤ x1) ∧
 ((x1 : Int) < ((sw : Nat) : Int)) ∧
 aI F2 fun oh lg =>
 bL (Mem.ld hH ⟨oh, (lg + (Int.toNat x1)), none⟩) fun Rp =>
 aI Rp fun kZ nA =>
 sT hH kZ (nA + 1) (.slice Zj fa gz) fun mA =>
 K (.tuple #[]) mA)) Kp) :
 ae Tryz.prog 161 ([.pointer (some ⟨b0, o0, none⟩), .int .i64 x1, .pointer (some ⟨b2, o2, none⟩), .agg #[.int .i64 fe, .int .i64 fh, .int .i64 fj, .int .i64 fk]] : List Value).toArray M K Kp :=
 aA (C := Cx) good [(1, .bS [0, 1, 3, 7, 0, 31, 63, 127, 255, 511, 0, 1024, 0, 0, 8192, 4096, 36864, 126976, 258048, 0, 524288, 2097151, 4194303, 8388607, 8388607, 16777215, 67108863] (.step 0 (.step 1 (.step 2 (.step 4 (.step 10 (.step 12 (.step 13 (.step 15 (.step 16 (.step 19 (.step 3 (.step 5 (.step 6 (.step 7 (.step 8 (.step 9 (.step 11 (.step 14 (.step 17 (.step 18 (.step 20 (.step 21 (.step 22 (.step 23 (.step 24 (.step 25 (.step 26 .done))))))))))))))))))))))))))))] Tryz.func161 (by kernel_rfl) (by kernel_rfl) h
theorem qO {b0 o0 : Nat} {x1 : Int} {b2 o2 : Nat} {fe : Int} {fh : Int} {fj : Int} {fk : Int} (h :
bj M (.cells #[(iV fe), (iV fh), (iV fj), (iV fk)] 34 (0, 0)) fun k1 M2 =>
rS M2 b0 (o0 + 4) fun A3 k4 k5 =>
((0 : Int) ≤ x1) ∧
((x1 : Int) < ((k4 : Nat) : Int)) ∧
aI A3 fun k6 k7 =>
bL (Mem.ld M2 ⟨k6, (k7 + (Int.toNat x1)), none⟩) fun A8 =>
aI A8 fun k9 eA =>
rS M2 k9 (eA + 1) fun JH fK c7 =>
rI M2 k1 1 fun je =>
((0 : Int) ≤ je) ∧
((je : Int) < 8) ∧
rI M2 b2 ((o2 + 2) + (Int.toNat je)) fun jY =>
ae Tryz.prog 212 #[(.slice JH fK c7), (iV jY)] M2 (fun Pr jO =>
∃ Ib : Option Addr, ∃ iO : Nat, ∃ ig : Nat, ∃ t21 : Bool, (Pr = (.tuple #[(.slice Ib iO ig), (.bool t21)])) ∧
aV t21
 (rS jO b0 (o0 + 4) fun Pv iL qF =>
 ((0 : Int) ≤ x1) ∧
 ((x1 : Int) < ((iL : Nat) : Int)) ∧
 aI Pv fun sw lC =>
 bL (Mem.ld jO ⟨sw, (lC + (Int.toNat x1)), none⟩) fun Rs =>
 aI Rs fun lg jZ =>
 sT jO lg (jZ + 1) (.slice Ib iO ig) fun oe =>
 K (.tuple #[]) oe)
 (rS jO b0 (o0 + 4) fun Pq tw nE =>
 ((0 : Int) ≤ x1) ∧
 ((x1 : Int) < ((tw : Nat) : Int)) ∧
 aI Pq fun tR sA =>
 bL (Mem.ld jO ⟨tR, (sA + (Int.toNat x1)), none⟩) fun Rw =>
 aI Rw fun wC gL =>
 sT jO wC gL (iV 4) fun V5 =>
 aV (x1 == 0)
 (sT V5 b0 (o0 + 11) (iV 1) fun Pw =>
 K (.tuple #[]) Pw)
 (K (.tuple #[]) V5))) Kp) :
 ae Tryz.prog 162 ([.pointer (some ⟨b0, o0, none⟩), .int .i64 x1, .pointer (some ⟨b2, o2, none⟩), .agg #[.int .i64 fe, .int .i64 fh, .int .i64 fj, .int .i64 fk]] : List Value).toArray M K Kp :=
 aA (C := Cx) good [(1, .bS [0, 1, 3, 7, 0, 31, 63, 127, 255, 511, 0, 0, 2048, 1024, 9216, 31744, 64512, 131071, 262143, 524287, 524287, 1048575, 4194303] (.step 0 (.step 1 (.step 2 (.step 4 (.step 10 (.step 11 (.step 13 (.step 14 (.step 3 (.step 5 (.step 6 (.step 7 (.step 8 (.step 9 (.step 12 (.step 15 (.step 16 (.step 17 (.step 18 (.step 19 (.step 20 (.step 21 (.step 22 .done))))))))))))))))))))))))] Tryz.func162 (by kernel_rfl) (by kernel_rfl) h
theorem pF {b0 o0 : Nat} {x1 : Int} {b2 o2 : Nat} {fe : Int} {fh : Int} {fj : Int} {fk : Int} (h :
bj M (.cells #[(iV fe), (iV fh), (iV fj), (iV fk)] 34 (0, 0)) fun k1 M2 =>
rS M2 b0 (o0 + 4) fun A3 k4 k5 =>
aV (decide ((((k4 : Nat) : Int) : Int) ≥ 100))
 (Kp [{ v := (.iface 256 (iV (-5))), recovered := false }] M2)
 (rS M2 b0 (o0 + 4) fun A6 k7 k8 =>
 ∃ J9 : List Value → Mem → Prop, (rI M2 k1 1 fun jP =>
 rI M2 k1 2 fun fu =>
 ((0 : Int) ≤ fu) ∧
 ((fu : Int) < 8) ∧
 rI M2 b2 ((o2 + 2) + (Int.toNat fu)) fun jf =>
 (rS M2 b0 (o0 + 4) fun KP fX fT =>
 ae Tryz.prog 71 #[(iV jP), (iV jf)] M2 (fun Pr jO =>
 aD (some Pr) fun Ib iO ig =>
 bj jO (.cells #[(iV 0), (.slice Ib iO ig), (iV 0), (iV 0), (iV 0), (iV 0)] 182 (0, 0)) fun fa cR =>
 bj cR (.cells #[(.pointer (some ⟨fa, 0, none⟩))] 177 (0, 0)) fun iL ie =>
 aS Tryz.prog (Go.Builtin.append_ #[158, 158] 158 #[(.slice KP fX fT), (.slice (some ⟨iL, 0, none⟩) 1 1)]) ie (fun SX wj =>
 aD (some SX) fun Rs lg jZ =>
 sT wj b0 (o0 + 4) (.slice Rs lg jZ) fun oe =>
 J9 [] oe) Kp) Kp) ∧
 (ae Tryz.prog 71 #[(iV jP), (iV jf)] M2 (fun SM mA =>
 aD (some SM) fun Jy tR sA =>
 rS mA b0 (o0 + 4) fun Rw wC gL =>
 bj mA (.cells #[(iV 0), (.slice Jy tR sA), (iV 0), (iV 0), (iV 0), (iV 0)] 182 (0, 0)) fun vn Pw =>
 bj Pw (.cells #[(.pointer (some ⟨vn, 0, none⟩))] 177 (0, 0)) fun Me JG =>
 aS Tryz.prog (Go.Builtin.append_ #[158, 158] 158 #[(.slice Rw wC gL), (.slice (some ⟨Me, 0, none⟩) 1 1)]) JG (fun Zk wD =>
 aD (some Zk) fun A45 HW KS =>
 sT wD b0 (o0 + 4) (.slice A45 HW KS) fun Mf =>
 J9 [] Mf) Kp) Kp) ∧
 True) ∧
 ∀ junk49 : Nat → Value, ∀ zE : Mem, (J9 [] zE) → ae Tryz.prog 90 #[(.pointer (some ⟨b0, o0, none⟩)), (iV ((k7 : Nat) : Int))] zE (fun v51 Px =>
 (v51 = (.tuple #[])) ∧
 rI Px k1 3 fun Xl =>
 ((0 : Int) ≤ Xl) ∧
 ((Xl : Int) < 8) ∧
 sT Px b2 ((o2 + 2) + (Int.toNat Xl)) (iV ((k7 : Nat) : Int)) fun Ci =>
 K (.tuple #[]) Ci) Kp)) :
 ae Tryz.prog 163 ([.pointer (some ⟨b0, o0, none⟩), .int .i64 x1, .pointer (some ⟨b2, o2, none⟩), .agg #[.int .i64 fe, .int .i64 fh, .int .i64 fj, .int .i64 fk]] : List Value).toArray M K Kp :=
 aA (C := Cx) good [(4, .DK [0, 0, 2, 6, 14, 0, 32, 0, 0, 256, 128, 1152, 3968, 8064, 16352, 32736, 65504, 131040, 262142, 524287, 1048575, 2097151] (.step 0 (.step 1 (.step 2 (.step 3 (.step 5 (.step 7 (.step 8 (.step 10 (.step 11 (.step 6 (.step 9 (.step 12 (.step 13 (.fork 4 (.step 14 (.step 15 (.step 16 (.step 17 (.step 18 (.step 19 (.step 20 (.step 21 .done)))))))) (.fork 14 (.step 15 (.step 4 (.step 16 (.step 17 (.step 18 (.step 19 (.step 20 (.step 21 .done)))))))) .dead))))))))))))))) []), (6, .bS [0, 0, 2, 0, 1, 17, 63, 127] (.step 0 (.step 1 (.step 3 (.step 4 (.step 5 (.step 2 (.step 6 (.step 7 .done)))))))))] Tryz.func163 (by kernel_rfl) (by kernel_rfl) h
theorem pG {b0 o0 : Nat} {x1 : Int} {b2 o2 : Nat} {fe : Int} {fh : Int} {fj : Int} {fk : Int} (h :
bj M (.cells #[(iV fe), (iV fh), (iV fj), (iV fk)] 34 (0, 0)) fun k1 M2 =>
K (.tuple #[]) M2) :
 ae Tryz.prog 164 ([.pointer (some ⟨b0, o0, none⟩), .int .i64 x1, .pointer (some ⟨b2, o2, none⟩), .agg #[.int .i64 fe, .int .i64 fh, .int .i64 fj, .int .i64 fk]] : List Value).toArray M K Kp :=
 aA (C := Cx) good [] Tryz.func164 (by kernel_rfl) (by kernel_rfl) h
theorem qP {b0 o0 : Nat} {x1 : Int} {b2 o2 : Nat} {fe : Int} {fh : Int} {fj : Int} {fk : Int} (h :
bj M (.cells #[(iV fe), (iV fh), (iV fj), (iV fk)] 34 (0, 0)) fun k1 M2 =>
rI M2 k1 1 fun n3 =>
rI M2 k1 2 fun n4 =>
((0 : Int) ≤ n4) ∧
((n4 : Int) < 8) ∧
rI M2 b2 ((o2 + 2) + (Int.toNat n4)) fun n5 =>
ae Tryz.prog 159 #[(.pointer (some ⟨b0, o0, none⟩)), (iV n3), (iV n5)] M2 (fun v6 M7 =>
cD (some v6) fun t8 =>
aV (!t8)
 (rS M7 b0 (o0 + 6) fun A9 eA eB =>
 rI M7 k1 1 fun jf =>
 ((0 : Int) ≤ jf) ∧
 ((jf : Int) < ((eA : Nat) : Int)) ∧
 aI A9 fun c7 fX =>
 bL (Mem.ld M7 ⟨c7, (fX + (Int.toNat jf)), none⟩) fun qt =>
 rI M7 k1 2 fun mz =>
 ((0 : Int) ≤ mz) ∧
 ((mz : Int) < 8) ∧
 rI M7 b2 ((o2 + 2) + (Int.toNat mz)) fun hU =>
 ae Tryz.prog 206 #[(.pointer qt), (.agg #[(iV x1), (iV 0), (iV hU)])] M7 (fun DV hH =>
 (DV = (.tuple #[])) ∧
 rI hH k1 0 fun fq =>
 rI hH k1 1 fun nw =>
 rI hH k1 2 fun rU =>
 rI hH k1 3 fun nB =>
 ae Tryz.prog 158 #[(.pointer (some ⟨b0, o0, none⟩)), (iV x1), (.agg #[(iV fq), (iV nw), (iV rU), (iV nB)])] hH (fun SZ AX =>
 (SZ = (.tuple #[])) ∧
 K (.tuple #[]) AX) Kp) Kp)
 (K (.tuple #[]) M7)) Kp) :
 ae Tryz.prog 165 ([.pointer (some ⟨b0, o0, none⟩), .int .i64 x1, .pointer (some ⟨b2, o2, none⟩), .agg #[.int .i64 fe, .int .i64 fh, .int .i64 fj, .int .i64 fk]] : List Value).toArray M K Kp :=
 aA (C := Cx) good [(1, .bS [0, 0, 2, 0, 0, 16, 8, 72, 248, 504, 1023, 2047] (.step 0 (.step 1 (.step 3 (.step 4 (.step 6 (.step 7 (.step 2 (.step 5 (.step 8 (.step 9 (.step 10 (.step 11 .done))))))))))))), (2, .bS [0, 1, 3, 7, 0, 16, 63, 127, 0, 0, 0, 1024, 512, 4608, 15872, 32256, 65280, 131071] (.step 0 (.step 1 (.step 2 (.step 4 (.step 8 (.step 9 (.step 10 (.step 12 (.step 13 (.step 3 (.step 5 (.step 6 (.step 7 (.step 11 (.step 14 (.step 15 (.step 16 (.step 17 .done)))))))))))))))))))] Tryz.func165 (by kernel_rfl) (by kernel_rfl) h
theorem qQ {b0 o0 : Nat} {x1 : Int} {b2 o2 : Nat} {fe : Int} {fh : Int} {fj : Int} {fk : Int} (h :
bj M (.cells #[(iV fe), (iV fh), (iV fj), (iV fk)] 34 (0, 0)) fun k1 M2 =>
rI M2 k1 1 fun n3 =>
ae Tryz.prog 160 #[(.pointer (some ⟨b0, o0, none⟩)), (iV n3)] M2 (fun v4 M5 =>
∃ n6 : Int, ∃ n7 : Int, ∃ t8 : Bool, (v4 = (.tuple #[(iV n6), (iV n7), (.bool t8)])) ∧
aV (!t8)
 (rS M5 b0 (o0 + 6) fun A9 eA eB =>
 rI M5 k1 1 fun jf =>
 ((0 : Int) ≤ jf) ∧
 ((jf : Int) < ((eA : Nat) : Int)) ∧
 aI A9 fun c7 fX =>
 bL (Mem.ld M5 ⟨c7, (fX + (Int.toNat jf)), none⟩) fun qt =>
 ae Tryz.prog 205 #[(.pointer qt), (.agg #[(iV x1), (iV 0), (iV 0)])] M5 (fun Pr jO =>
 (Pr = (.tuple #[])) ∧
 rI jO k1 0 fun kq =>
 rI jO k1 1 fun wq =>
 rI jO k1 2 fun fq =>
 rI jO k1 3 fun nw =>
 ae Tryz.prog 158 #[(.pointer (some ⟨b0, o0, none⟩)), (iV x1), (.agg #[(iV kq), (iV wq), (iV fq), (iV nw)])] jO (fun F1 kL =>
 (F1 = (.tuple #[])) ∧
 K (.tuple #[]) kL) Kp) Kp)
 (rI M5 k1 2 fun wY =>
 ((0 : Int) ≤ wY) ∧
 ((wY : Int) < 8) ∧
 rI M5 k1 3 fun lZ =>
 sT M5 b2 ((o2 + 2) + (Int.toNat wY)) (iV n6) fun wj =>
 ((Mem.ld wj ⟨k1, 3, none⟩) = (some (iV lZ))) ∧
 ((0 : Int) ≤ lZ) ∧
 ((lZ : Int) < 8) ∧
 sT wj b2 ((o2 + 2) + (Int.toNat lZ)) (iV n7) fun rV =>
 ((Mem.ld rV ⟨k1, 3, none⟩) = (some (iV lZ))) ∧
 K (.tuple #[]) rV)) Kp) :
 ae Tryz.prog 166 ([.pointer (some ⟨b0, o0, none⟩), .int .i64 x1, .pointer (some ⟨b2, o2, none⟩), .agg #[.int .i64 fe, .int .i64 fh, .int .i64 fj, .int .i64 fk]] : List Value).toArray M K Kp :=
 aA (C := Cx) good [(3, .bS [0, 1, 3, 7, 0, 16, 63, 127, 0, 256, 1023] (.step 0 (.step 1 (.step 2 (.step 4 (.step 8 (.step 9 (.step 3 (.step 5 (.step 6 (.step 7 (.step 10 .done)))))))))))), (5, .bS [0, 0, 2, 0, 0, 16, 0, 0, 1, 257, 839, 1863, 8, 4104, 16383, 32767] (.step 0 (.step 1 (.step 3 (.step 4 (.step 6 (.step 7 (.step 8 (.step 9 (.step 12 (.step 13 (.step 2 (.step 10 (.dx 5 (.step 11 (.step 14 (.step 15 .done)))))))))))))))))] Tryz.func166 (by kernel_rfl) (by kernel_rfl) h
theorem qR {b0 o0 : Nat} {x1 : Int} {b2 o2 : Nat} {fe : Int} {fh : Int} {fj : Int} {fk : Int} (h :
bj M (.cells #[(iV fe), (iV fh), (iV fj), (iV fk)] 34 (0, 0)) fun k1 M2 =>
rS M2 b0 (o0 + 6) fun A3 k4 k5 =>
rI M2 k1 1 fun n6 =>
((0 : Int) ≤ n6) ∧
((n6 : Int) < ((k4 : Nat) : Int)) ∧
aI A3 fun k7 k8 =>
bL (Mem.ld M2 ⟨k7, (k8 + (Int.toNat n6)), none⟩) fun A9 =>
ae Tryz.prog 213 #[(.pointer A9)] M2 (fun v10 iq =>
∃ sB : Option Addr, ∃ c7 : Nat, ∃ fX : Nat, ∃ qt : Option Addr, ∃ dF : Nat, ∃ eE : Nat, ∃ kq : Int, (v10 = (.tuple #[(.slice sB c7 fX), (.slice qt dF eE), (iV kq)])) ∧
aV (kq != 0)
 (Kp [{ v := (.iface 256 (iV (-2))), recovered := false }] iq)
 (aV (decide ((((dF : Nat) : Int) : Int) > 0))
 (Kp [{ v := (.iface 256 (iV (-1))), recovered := false }] iq)
 (∃ Zl : Nat → List Value → Mem → Prop, (∃ ig : Nat, Zl ig [(iV 0)] iq) ∧
 ∀ fa : Nat, ∀ junk22 : Nat → Value, ∀ nB : Int, ∀ ie : Mem, (Zl fa [(iV nB)] ie) → aV (decide ((nB : Int) < ((c7 : Nat) : Int)))
 (((0 : Int) ≤ nB) ∧
 ((nB : Int) < ((c7 : Nat) : Int)) ∧
 aI sB fun sw lC =>
 rI ie sw (lC + ((Int.toNat nB) * 3)) fun xA =>
 rI ie sw ((lC + ((Int.toNat nB) * 3)) + 1) fun wm =>
 rI ie sw ((lC + ((Int.toNat nB) * 3)) + 2) fun wA =>
 bj ie (.cells #[(iV 0), (iV 0), (iV 0)] 298 (0, 0)) fun kZ Be =>
 sT Be kZ 0 (iV xA) fun mA =>
 sT mA kZ 1 (iV wm) fun tT =>
 sT tT kZ 2 (iV wA) fun lY =>
 rS lY b0 (o0 + 4) fun A35 De wC =>
 rI lY kZ 0 fun Jw =>
 ((0 : Int) ≤ Jw) ∧
 ((Jw : Int) < ((De : Nat) : Int)) ∧
 aI A35 fun vn zR =>
 bL (Mem.ld lY ⟨vn, (zR + (Int.toNat Jw)), none⟩) fun S0 =>
 aI S0 fun KQ nW =>
 rI lY KQ nW fun Df =>
 aV (Df == 2)
 (sT lY kZ 2 (iV 0) fun mW =>
 rI mW kZ 0 fun Ba =>
 rI mW kZ 1 fun AV =>
 rI mW kZ 2 fun zI =>
 ae Tryz.prog 208 #[(.pointer (some ⟨b0, o0, none⟩)), (.agg #[(iV Ba), (iV AV), (iV zI)]), (iV 0)] mW (fun HX zE =>
 (HX = (.tuple #[])) ∧
 ∃ Bf : Nat, (Bf < fa) ∧
 Zl Bf [(iV (IntKind.wrap .i64 (nB + 1)))] zE) Kp)
 (∃ kj : Nat, (kj < fa) ∧
 Zl kj [(iV (IntKind.wrap .i64 (nB + 1)))] lY))
 (K (.tuple #[]) ie)))) Kp) :
 ae Tryz.prog 167 ([.pointer (some ⟨b0, o0, none⟩), .int .i64 x1, .pointer (some ⟨b2, o2, none⟩), .agg #[.int .i64 fe, .int .i64 fh, .int .i64 fj, .int .i64 fk]] : List Value).toArray M K Kp :=
 aA (C := Cx) good [(1, .bS [0, 1, 3, 7, 0, 16, 63, 127, 255, 511, 1023, 1023, 1023, 2047, 12287, 32767] (.step 0 (.step 1 (.step 2 (.step 4 (.step 3 (.step 5 (.step 6 (.step 7 (.step 8 (.step 9 (.step 10 (.step 11 (.step 12 (.step 13 (.step 14 (.step 15 .done))))))))))))))))), (2000001, .loop [(37, .c (.int .i64))]), (9, .bS [0, 1, 3, 7, 0, 16, 63, 127, 255, 511, 1023, 2047] (.step 0 (.step 1 (.step 2 (.step 4 (.step 3 (.step 5 (.step 6 (.step 7 (.step 8 (.step 9 (.step 10 (.step 11 .done)))))))))))))] Tryz.func167 (by kernel_rfl) (by kernel_rfl) h
theorem pH {b0 o0 : Nat} {x1 : Int} {b2 o2 : Nat} {fe : Int} {fh : Int} {fj : Int} {fk : Int} (h :
bj M (.cells #[(iV fe), (iV fh), (iV fj), (iV fk)] 34 (0, 0)) fun k1 M2 =>
rI M2 k1 1 fun n3 =>
((0 : Int) ≤ n3) ∧
((n3 : Int) < 8) ∧
rI M2 b2 ((o2 + 2) + (Int.toNat n3)) fun n4 =>
aV (decide (((if (1048576 : Int) < n4 then 1048576 else n4) : Int) > 0))
 (aK (Mem.ld M2 ⟨b0, (o0 + 5), none⟩) .u64 fun n5 =>
 ae Tryz.prog 214 #[(.pointer (some ⟨b0, (o0 + 8), none⟩)), (.int .u64 (IntKind.wrap .u64 (n5 + (IntKind.wrap .u64 (if (1048576 : Int) < n4 then 1048576 else n4))))), (iV x1)] M2 (fun v6 M7 =>
 aK (some v6) .u64 fun n8 =>
 rS M7 b0 (o0 + 4) fun A9 eA eB =>
 ((0 : Int) ≤ x1) ∧
 ((x1 : Int) < ((eA : Nat) : Int)) ∧
 aI A9 fun fK c7 =>
 bL (Mem.ld M7 ⟨fK, (c7 + (Int.toNat x1)), none⟩) fun nY =>
 aI nY fun fT dF =>
 sT M7 fT dF (iV 3) fun jO =>
 K (.tuple #[]) jO) Kp)
 (K (.tuple #[]) M2)) :
 ae Tryz.prog 168 ([.pointer (some ⟨b0, o0, none⟩), .int .i64 x1, .pointer (some ⟨b2, o2, none⟩), .agg #[.int .i64 fe, .int .i64 fh, .int .i64 fj, .int .i64 fk]] : List Value).toArray M K Kp :=
 aA (C := Cx) good [(1, .bS [0, 0, 2, 1, 9, 31, 63, 127, 255] (.step 0 (.step 1 (.step 3 (.step 4 (.step 2 (.step 5 (.step 6 (.step 7 (.step 8 .done)))))))))), (3, .bS [0, 1, 3, 0, 8, 24, 56, 0, 128, 504, 0, 2047] (.step 0 (.step 1 (.step 2 (.step 3 (.step 4 (.step 5 (.step 7 (.step 8 (.step 10 (.step 6 (.step 9 (.step 11 .done)))))))))))))] Tryz.func168 (by kernel_rfl) (by kernel_rfl) h
theorem qS {b0 o0 : Nat} {x1 : Int} {b2 o2 : Nat} {fe : Int} {fh : Int} {fj : Int} {fk : Int} (h :
bj M (.cells #[(iV fe), (iV fh), (iV fj), (iV fk)] 34 (0, 0)) fun k1 M2 =>
rS M2 b0 (o0 + 7) fun A3 k4 k5 =>
rI M2 k1 1 fun n6 =>
((0 : Int) ≤ n6) ∧
((n6 : Int) < ((k4 : Nat) : Int)) ∧
aI A3 fun k7 k8 =>
bL (Mem.ld M2 ⟨k7, (k8 + (Int.toNat n6)), none⟩) fun A9 =>
ae Tryz.prog 215 #[(.pointer A9), (iV x1)] M2 (fun v10 iq =>
cD (some v10) fun t12 =>
aV (!t12)
 (rI iq k1 0 fun jg =>
 rI iq k1 1 fun je =>
 rI iq k1 2 fun jY =>
 rI iq k1 3 fun mz =>
 ae Tryz.prog 158 #[(.pointer (some ⟨b0, o0, none⟩)), (iV x1), (.agg #[(iV jg), (iV je), (iV jY), (iV mz)])] iq (fun S1 mC =>
 (S1 = (.tuple #[])) ∧
 K (.tuple #[]) mC) Kp)
 (K (.tuple #[]) iq)) Kp) :
 ae Tryz.prog 169 ([.pointer (some ⟨b0, o0, none⟩), .int .i64 x1, .pointer (some ⟨b2, o2, none⟩), .agg #[.int .i64 fe, .int .i64 fh, .int .i64 fj, .int .i64 fk]] : List Value).toArray M K Kp :=
 aA (C := Cx) good [(1, .bS [0, 1, 3, 7, 0, 16, 63, 127, 0, 511, 1023] (.step 0 (.step 1 (.step 2 (.step 4 (.step 8 (.step 3 (.step 5 (.step 6 (.step 7 (.step 9 (.step 10 .done))))))))))))] Tryz.func169 (by kernel_rfl) (by kernel_rfl) h
theorem ox {b0 o0 : Nat} {x1 : Int} {b2 o2 : Nat} {fe : Int} {fh : Int} {fj : Int} {fk : Int} (h :
bj M (.cells #[(iV fe), (iV fh), (iV fj), (iV fk)] 34 (0, 0)) fun k1 M2 =>
rS M2 b0 (o0 + 7) fun A3 k4 k5 =>
rI M2 k1 1 fun n6 =>
((0 : Int) ≤ n6) ∧
((n6 : Int) < ((k4 : Nat) : Int)) ∧
aI A3 fun k7 k8 =>
bL (Mem.ld M2 ⟨k7, (k8 + (Int.toNat n6)), none⟩) fun A9 =>
ae Tryz.prog 216 #[(.pointer A9), (iV x1)] M2 (fun v10 iq =>
∃ jf : Int, ∃ jg : Int, (v10 = (.tuple #[(iV jf), (iV jg)])) ∧
aV (jg != 0)
 (Kp [{ v := (.iface 256 (iV (-3))), recovered := false }] iq)
 (aV (jf != (-1))
 (ae Tryz.prog 90 #[(.pointer (some ⟨b0, o0, none⟩)), (iV jf)] iq (fun v14 nX =>
 (v14 = (.tuple #[])) ∧
 K (.tuple #[]) nX) Kp)
 (K (.tuple #[]) iq))) Kp) :
 ae Tryz.prog 170 ([.pointer (some ⟨b0, o0, none⟩), .int .i64 x1, .pointer (some ⟨b2, o2, none⟩), .agg #[.int .i64 fe, .int .i64 fh, .int .i64 fj, .int .i64 fk]] : List Value).toArray M K Kp :=
 aA (C := Cx) good [(1, .bS [0, 1, 3, 7, 0, 16, 63, 127, 0, 511, 1023, 2047, 2047, 4095, 16383] (.step 0 (.step 1 (.step 2 (.step 4 (.step 8 (.step 3 (.step 5 (.step 6 (.step 7 (.step 9 (.step 10 (.step 11 (.step 12 (.step 13 (.step 14 .done))))))))))))))))] Tryz.func170 (by kernel_rfl) (by kernel_rfl) h
theorem qT {b0 o0 : Nat} {x1 : Int} {b2 o2 : Nat} {fe : Int} {fh : Int} {fj : Int} {fk : Int} (h :
bj M (.cells #[(iV fe), (iV fh), (iV fj), (iV fk)] 34 (0, 0)) fun k1 M2 =>
rS M2 b0 (o0 + 10) fun A3 k4 k5 =>
aV (decide ((((k4 : Nat) : Int) : Int) ≥ 1000))
 (Kp [{ v := (.iface 256 (iV (-6))), recovered := false }] M2)
 (rS M2 b0 (o0 + 10) fun A6 k7 k8 =>
 rI M2 k1 1 fun n9 =>
 ((0 : Int) ≤ n9) ∧
 ((n9 : Int) < 8) ∧
 rI M2 b2 ((o2 + 2) + (Int.toNat n9)) fun jP =>
 bj M2 (.cells #[(iV jP)] 2 (0, 0)) fun eB jH =>
 aS Tryz.prog (Go.Builtin.append_ #[59, 59] 59 #[(.slice A6 k7 k8), (.slice (some ⟨eB, 0, none⟩) 1 1)]) jH (fun Py ik =>
 aD (some Py) fun qt dF eE =>
 sT ik b0 (o0 + 10) (.slice qt dF eE) fun mC =>
 K (.tuple #[]) mC) Kp)) :
 ae Tryz.prog 171 ([.pointer (some ⟨b0, o0, none⟩), .int .i64 x1, .pointer (some ⟨b2, o2, none⟩), .agg #[.int .i64 fe, .int .i64 fh, .int .i64 fj, .int .i64 fk]] : List Value).toArray M K Kp :=
 aA (C := Cx) good [(3, .bS [0, 0, 2, 6, 14, 0, 0, 64, 32, 288, 992, 2016, 4064, 8190, 16383, 32767, 65535] (.step 0 (.step 1 (.step 2 (.step 3 (.step 5 (.step 6 (.step 8 (.step 9 (.step 4 (.step 7 (.step 10 (.step 11 (.step 12 (.step 13 (.step 14 (.step 15 (.step 16 .done))))))))))))))))))] Tryz.func171 (by kernel_rfl) (by kernel_rfl) h
theorem qU {b0 o0 : Nat} {x1 : Int} {b2 o2 : Nat} {fe : Int} {fh : Int} {fj : Int} {fk : Int} (h :
bj M (.cells #[(iV fe), (iV fh), (iV fj), (iV fk)] 34 (0, 0)) fun k1 M2 =>
rI M2 k1 1 fun n3 =>
Kp [{ v := (.iface 256 (iV n3)), recovered := false }] M2) :
 ae Tryz.prog 172 ([.pointer (some ⟨b0, o0, none⟩), .int .i64 x1, .pointer (some ⟨b2, o2, none⟩), .agg #[.int .i64 fe, .int .i64 fh, .int .i64 fj, .int .i64 fk]] : List Value).toArray M K Kp :=
 aA (C := Cx) good [] Tryz.func172 (by kernel_rfl) (by kernel_rfl) h
theorem ua {b0 o0 : Nat} {x1 : Int} {x2 : Int} (h :
aD (Mem.ld M ⟨b0, o0, none⟩) fun A1 k2 k3 =>
aD (Mem.ld M ⟨b0, o0, none⟩) fun A4 k5 k6 =>
aD (Mem.ld M ⟨b0, o0, none⟩) fun A7 k8 k9 =>
((0 : Int) ≤ x2) ∧
((x2 : Int) < ((k8 : Nat) : Int)) ∧
aI A7 fun eA eB =>
aK (Mem.ld M ⟨eA, (eB + ((Int.toNat x2) * 3)), none⟩) .u64 fun jf =>
aK (Mem.ld M ⟨eA, ((eB + ((Int.toNat x2) * 3)) + 1), none⟩) .u64 fun jg =>
aK (Mem.ld M ⟨eA, ((eB + ((Int.toNat x2) * 3)) + 2), none⟩) .i64 fun je =>
aD (Mem.ld M ⟨b0, o0, none⟩) fun qt dF eE =>
((0 : Int) ≤ x1) ∧
((x1 : Int) < ((dF : Nat) : Int)) ∧
aI qt fun dS iO =>
aK (Mem.ld M ⟨dS, (iO + ((Int.toNat x1) * 3)), none⟩) .u64 fun fq =>
aK (Mem.ld M ⟨dS, ((iO + ((Int.toNat x1) * 3)) + 1), none⟩) .u64 fun nw =>
aK (Mem.ld M ⟨dS, ((iO + ((Int.toNat x1) * 3)) + 2), none⟩) .i64 fun rU =>
((0 : Int) ≤ x1) ∧
((x1 : Int) < ((k2 : Nat) : Int)) ∧
aI A1 fun iL qF =>
aO M ⟨iL, (qF + ((Int.toNat x1) * 3)), none⟩ (.int .u64 jf) fun AX =>
aO AX ⟨iL, ((qF + ((Int.toNat x1) * 3)) + 1), none⟩ (.int .u64 jg) fun wj =>
aO wj ⟨iL, ((qF + ((Int.toNat x1) * 3)) + 2), none⟩ (.int .i64 je) fun rV =>
((0 : Int) ≤ x2) ∧
((x2 : Int) < ((k5 : Nat) : Int)) ∧
aI A4 fun lg jZ =>
aO rV ⟨lg, (jZ + ((Int.toNat x2) * 3)), none⟩ (.int .u64 fq) fun oe =>
aO oe ⟨lg, ((jZ + ((Int.toNat x2) * 3)) + 1), none⟩ (.int .u64 nw) fun Be =>
aO Be ⟨lg, ((jZ + ((Int.toNat x2) * 3)) + 2), none⟩ (.int .i64 rU) fun mA =>
K (.tuple #[]) mA) :
 ae Tryz.prog 136 ([.pointer (some ⟨b0, o0, none⟩), .int .i64 x1, .int .i64 x2] : List Value).toArray M K Kp :=
 aA (C := Cx) good [(0, .bS [0, 1, 3, 7, 0, 0, 32, 96, 224, 0, 0, 1024, 3072, 7168, 0, 31744, 64512, 0, 131072, 393216, 917504, 0, 4063232, 8257536, 16776703, 33553919, 67108863, 134217727] (.step 0 (.step 1 (.step 2 (.step 4 (.step 5 (.step 6 (.step 7 (.step 9 (.step 10 (.step 11 (.step 12 (.step 14 (.step 17 (.step 18 (.step 19 (.step 21 (.step 3 (.step 8 (.step 13 (.step 15 (.step 16 (.step 20 (.step 22 (.step 23 (.step 24 (.step 25 (.step 26 (.step 27 .done)))))))))))))))))))))))))))))] Tryz.func136 (by kernel_rfl) (by kernel_rfl) h
theorem uc {b0 o0 : Nat} {x1 : Int} (h :
ae Tryz.prog 185 #[(.pointer (some ⟨b0, o0, none⟩)), (iV x1)] M (fun v1 M2 =>
aK (some v1) .i64 fun n3 =>
∃ I4 : Nat → List Value → Mem → Prop, (∃ k5 : Nat, I4 k5 [(iV x1), (iV n3)] M2) ∧
∀ k6 : Nat, ∀ Rx : Nat → Value, ∀ n8 : Int, ∀ n9 : Int, ∀ gS : Mem, (I4 k6 [(iV n8), (iV n9)] gS) → aV (n9 != n8)
 (ae Tryz.prog 136 #[(.pointer (some ⟨b0, o0, none⟩)), (iV n8), (iV n9)] gS (fun v11 jH =>
 (v11 = (.tuple #[])) ∧
 ae Tryz.prog 185 #[(.pointer (some ⟨b0, o0, none⟩)), (iV n9)] jH (fun Py ik =>
 aK (some Py) .i64 fun jY =>
 ∃ dF : Nat, (dF < k6) ∧
 I4 dF [(iV n9), (iV jY)] ik) Kp) Kp)
 (K (.tuple #[]) gS)) Kp) :
 ae Tryz.prog 137 ([.pointer (some ⟨b0, o0, none⟩), .int .i64 x1] : List Value).toArray M K Kp :=
 aA (C := Cx) good [(2000000, .loop [(1, .c (.int .i64)), (4, .c (.int .i64))])] Tryz.func137 (by kernel_rfl) (by kernel_rfl) h
theorem w6 {b0 o0 : Nat} {x1 : Int} (h :
∃ I1 : Nat → List Value → Mem → Prop, (∃ k2 : Nat, I1 k2 [(.int .i64 x1)] M) ∧
∀ k3 : Nat, ∀ wu : Nat → Value, ∀ n5 : Int, ∀ M6 : Mem, (I1 k3 [(.int .i64 n5)] M6) → aV (decide ((n5 : Int) > 0))
 (((4 : Int) ≠ 0) ∧
 aD (Mem.ld M6 ⟨b0, o0, none⟩) fun A7 k8 k9 =>
 ((0 : Int) ≤ n5) ∧
 ((n5 : Int) < ((k8 : Nat) : Int)) ∧
 aI A7 fun eA eB =>
 aK (Mem.ld M6 ⟨eA, (eB + ((Int.toNat n5) * 3)), none⟩) .u64 fun jf =>
 aK (Mem.ld M6 ⟨eA, ((eB + ((Int.toNat n5) * 3)) + 1), none⟩) .u64 fun jg =>
 aK (Mem.ld M6 ⟨eA, ((eB + ((Int.toNat n5) * 3)) + 2), none⟩) .i64 fun je =>
 aD (Mem.ld M6 ⟨b0, o0, none⟩) fun qt dF eE =>
 ((0 : Int) ≤ (IntKind.wrap .i64 (Int.tdiv (IntKind.wrap .i64 (n5 - 1)) 4))) ∧
 (((IntKind.wrap .i64 (Int.tdiv (IntKind.wrap .i64 (n5 - 1)) 4)) : Int) < ((dF : Nat) : Int)) ∧
 aI qt fun dS iO =>
 aK (Mem.ld M6 ⟨dS, (iO + ((Int.toNat (IntKind.wrap .i64 (Int.tdiv (IntKind.wrap .i64 (n5 - 1)) 4))) * 3)), none⟩) .u64 fun fq =>
 aK (Mem.ld M6 ⟨dS, ((iO + ((Int.toNat (IntKind.wrap .i64 (Int.tdiv (IntKind.wrap .i64 (n5 - 1)) 4))) * 3)) + 1), none⟩) .u64 fun nw =>
 aK (Mem.ld M6 ⟨dS, ((iO + ((Int.toNat (IntKind.wrap .i64 (Int.tdiv (IntKind.wrap .i64 (n5 - 1)) 4))) * 3)) + 2), none⟩) .i64 fun rU =>
 ae Tryz.prog 186 #[(.agg #[(.int .u64 jf), (.int .u64 jg), (.int .i64 je)]), (.agg #[(.int .u64 fq), (.int .u64 nw), (.int .i64 rU)])] M6 (fun SR ie =>
 cD (some SR) fun t25 =>
 aV t25
  (((4 : Int) ≠ 0) ∧
  ae Tryz.prog 136 #[(.pointer (some ⟨b0, o0, none⟩)), (.int .i64 n5), (.int .i64 (IntKind.wrap .i64 (Int.tdiv (IntKind.wrap .i64 (n5 - 1)) 4)))] ie (fun Xd rV =>
  (Xd = (.tuple #[])) ∧
  ((4 : Int) ≠ 0) ∧
  ∃ lg : Nat, (lg < k3) ∧
  I1 lg [(.int .i64 (IntKind.wrap .i64 (Int.tdiv (IntKind.wrap .i64 (n5 - 1)) 4)))] rV) Kp)
  (K (.tuple #[]) ie)) Kp)
 (K (.tuple #[]) M6)) :
 ae Tryz.prog 138 ([.pointer (some ⟨b0, o0, none⟩), .int .i64 x1] : List Value).toArray M K Kp :=
 aA (C := Cx) good [(2000000, .loop [(1, .c (.int .i64))]), (0, .bS [0, 1, 3, 7, 15, 31, 63, 7, 255, 511, 7, 1031, 3079, 7175, 7, 16391, 49159, 130055, 261127, 524287, 1048575] (.step 0 (.step 1 (.step 2 (.step 3 (.step 4 (.step 5 (.step 7 (.step 10 (.step 11 (.step 12 (.step 14 (.step 15 (.step 16 (.step 6 (.step 8 (.step 9 (.step 13 (.step 17 (.step 18 (.step 19 (.step 20 .done))))))))))))))))))))))] Tryz.func138 (by kernel_rfl) (by kernel_rfl) h
theorem sJ {b0 o0 : Nat} {cV : Int} {cW : Int} {cX : Int} {eK : Int} (h :
bj M (.cells #[(iV cV), (iV cW), (iV cX), (iV eK)] 34 (0, 0)) fun k1 M2 =>
K (.tuple #[]) M2) :
 ae Tryz.prog 195 ([.pointer (some ⟨b0, o0, none⟩), .agg #[.int .i64 cV, .int .i64 cW, .int .i64 cX, .int .i64 eK]] : List Value).toArray M K Kp :=
 aA (C := Cx) good [] Tryz.func195 (by kernel_rfl) (by kernel_rfl) h
theorem mD {b0 o0 : Nat} {cV : Int} {cW : Int} {cX : Int} {eK : Int} (h :
bj M (.cells #[(iV cV), (iV cW), (iV cX), (iV eK)] 34 (0, 0)) fun k1 M2 =>
rI M2 k1 1 fun n3 =>
rI M2 k1 2 fun n4 =>
((0 : Int) ≤ n3) ∧
((n3 : Int) < 8) ∧
sT M2 b0 ((o0 + 2) + (Int.toNat n3)) (iV n4) fun M5 =>
K (.tuple #[]) M5) :
 ae Tryz.prog 196 ([.pointer (some ⟨b0, o0, none⟩), .agg #[.int .i64 cV, .int .i64 cW, .int .i64 cX, .int .i64 eK]] : List Value).toArray M K Kp :=
 aA (C := Cx) good [(1, .bS [0, 0, 2, 0, 8, 1, 33, 127, 255] (.step 0 (.step 1 (.step 3 (.step 5 (.step 6 (.step 2 (.step 4 (.step 7 (.step 8 .done))))))))))] Tryz.func196 (by kernel_rfl) (by kernel_rfl) h
theorem qV {b0 o0 : Nat} {cV : Int} {cW : Int} {cX : Int} {eK : Int} (h :
bj M (.cells #[(iV cV), (iV cW), (iV cX), (iV eK)] 34 (0, 0)) fun k1 M2 =>
rI M2 k1 1 fun n3 =>
rI M2 k1 2 fun n4 =>
((0 : Int) ≤ n4) ∧
((n4 : Int) < 8) ∧
rI M2 b0 ((o0 + 2) + (Int.toNat n4)) fun n5 =>
((0 : Int) ≤ n3) ∧
((n3 : Int) < 8) ∧
sT M2 b0 ((o0 + 2) + (Int.toNat n3)) (iV n5) fun M6 =>
K (.tuple #[]) M6) :
 ae Tryz.prog 197 ([.pointer (some ⟨b0, o0, none⟩), .agg #[.int .i64 cV, .int .i64 cW, .int .i64 cX, .int .i64 eK]] : List Value).toArray M K Kp :=
 aA (C := Cx) good [(1, .bS [0, 0, 2, 0, 0, 16, 8, 72, 248, 504, 1, 1025, 4095, 8191] (.step 0 (.step 1 (.step 3 (.step 4 (.step 6 (.step 7 (.step 10 (.step 11 (.step 2 (.step 5 (.step 8 (.step 9 (.step 12 (.step 13 .done)))))))))))))))] Tryz.func197 (by kernel_rfl) (by kernel_rfl) h
theorem sK {b0 o0 : Nat} {cV : Int} {cW : Int} {cX : Int} {eK : Int} (h :
bj M (.cells #[(iV cV), (iV cW), (iV cX), (iV eK)] 34 (0, 0)) fun k1 M2 =>
rI M2 k1 1 fun n3 =>
rI M2 k1 2 fun n4 =>
((0 : Int) ≤ n4) ∧
((n4 : Int) < 8) ∧
rI M2 b0 ((o0 + 2) + (Int.toNat n4)) fun n5 =>
rI M2 k1 3 fun n6 =>
((0 : Int) ≤ n6) ∧
((n6 : Int) < 8) ∧
rI M2 b0 ((o0 + 2) + (Int.toNat n6)) fun n7 =>
((0 : Int) ≤ n3) ∧
((n3 : Int) < 8) ∧
sT M2 b0 ((o0 + 2) + (Int.toNat n3)) (iV (IntKind.wrap .i64 (n5 + n7))) fun M8 =>
K (.tuple #[]) M8) :
 ae Tryz.prog 198 ([.pointer (some ⟨b0, o0, none⟩), .agg #[.int .i64 cV, .int .i64 cW, .int .i64 cX, .int .i64 eK]] : List Value).toArray M K Kp :=
 aA (C := Cx) good [(1, .bS [0, 0, 2, 0, 0, 16, 8, 72, 248, 504, 0, 0, 2048, 1024, 9216, 31744, 64512, 131064, 1, 262145, 1048575, 2097151] (.step 0 (.step 1 (.step 3 (.step 4 (.step 6 (.step 7 (.step 10 (.step 11 (.step 13 (.step 14 (.step 18 (.step 19 (.step 2 (.step 5 (.step 8 (.step 9 (.step 12 (.step 15 (.step 16 (.step 17 (.step 20 (.step 21 .done)))))))))))))))))))))))] Tryz.func198 (by kernel_rfl) (by kernel_rfl) h
theorem sL {b0 o0 : Nat} {cV : Int} {cW : Int} {cX : Int} {eK : Int} (h :
bj M (.cells #[(iV cV), (iV cW), (iV cX), (iV eK)] 34 (0, 0)) fun k1 M2 =>
rI M2 k1 1 fun n3 =>
rI M2 k1 2 fun n4 =>
((0 : Int) ≤ n4) ∧
((n4 : Int) < 8) ∧
rI M2 b0 ((o0 + 2) + (Int.toNat n4)) fun n5 =>
rI M2 k1 3 fun n6 =>
((0 : Int) ≤ n6) ∧
((n6 : Int) < 8) ∧
rI M2 b0 ((o0 + 2) + (Int.toNat n6)) fun n7 =>
((0 : Int) ≤ n3) ∧
((n3 : Int) < 8) ∧
sT M2 b0 ((o0 + 2) + (Int.toNat n3)) (iV (IntKind.wrap .i64 (n5 - n7))) fun M8 =>
K (.tuple #[]) M8) :
 ae Tryz.prog 199 ([.pointer (some ⟨b0, o0, none⟩), .agg #[.int .i64 cV, .int .i64 cW, .int .i64 cX, .int .i64 eK]] : List Value).toArray M K Kp :=
 aA (C := Cx) good [(1, .bS [0, 0, 2, 0, 0, 16, 8, 72, 248, 504, 0, 0, 2048, 1024, 9216, 31744, 64512, 131064, 1, 262145, 1048575, 2097151] (.step 0 (.step 1 (.step 3 (.step 4 (.step 6 (.step 7 (.step 10 (.step 11 (.step 13 (.step 14 (.step 18 (.step 19 (.step 2 (.step 5 (.step 8 (.step 9 (.step 12 (.step 15 (.step 16 (.step 17 (.step 20 (.step 21 .done)))))))))))))))))))))))] Tryz.func199 (by kernel_rfl) (by kernel_rfl) h
theorem sM {b0 o0 : Nat} {cV : Int} {cW : Int} {cX : Int} {eK : Int} (h :
bj M (.cells #[(iV cV), (iV cW), (iV cX), (iV eK)] 34 (0, 0)) fun k1 M2 =>
rI M2 k1 1 fun n3 =>
rI M2 k1 2 fun n4 =>
((0 : Int) ≤ n4) ∧
((n4 : Int) < 8) ∧
rI M2 b0 ((o0 + 2) + (Int.toNat n4)) fun n5 =>
rI M2 k1 3 fun n6 =>
((0 : Int) ≤ n6) ∧
((n6 : Int) < 8) ∧
rI M2 b0 ((o0 + 2) + (Int.toNat n6)) fun n7 =>
((0 : Int) ≤ n3) ∧
((n3 : Int) < 8) ∧
sT M2 b0 ((o0 + 2) + (Int.toNat n3)) (iV (IntKind.wrap .i64 (n5 * n7))) fun M8 =>
K (.tuple #[]) M8) :
 ae Tryz.prog 200 ([.pointer (some ⟨b0, o0, none⟩), .agg #[.int .i64 cV, .int .i64 cW, .int .i64 cX, .int .i64 eK]] : List Value).toArray M K Kp :=
 aA (C := Cx) good [(1, .bS [0, 0, 2, 0, 0, 16, 8, 72, 248, 504, 0, 0, 2048, 1024, 9216, 31744, 64512, 131064, 1, 262145, 1048575, 2097151] (.step 0 (.step 1 (.step 3 (.step 4 (.step 6 (.step 7 (.step 10 (.step 11 (.step 13 (.step 14 (.step 18 (.step 19 (.step 2 (.step 5 (.step 8 (.step 9 (.step 12 (.step 15 (.step 16 (.step 17 (.step 20 (.step 21 .done)))))))))))))))))))))))] Tryz.func200 (by kernel_rfl) (by kernel_rfl) h
theorem qW {b0 o0 : Nat} {cV : Int} {cW : Int} {cX : Int} {eK : Int} (h :
bj M (.cells #[(iV cV), (iV cW), (iV cX), (iV eK)] 34 (0, 0)) fun k1 M2 =>
rI M2 k1 2 fun n3 =>
((0 : Int) ≤ n3) ∧
((n3 : Int) < 8) ∧
rI M2 b0 ((o0 + 2) + (Int.toNat n3)) fun n4 =>
rI M2 k1 3 fun n5 =>
((0 : Int) ≤ n5) ∧
((n5 : Int) < 8) ∧
rI M2 b0 ((o0 + 2) + (Int.toNat n5)) fun n6 =>
rI M2 k1 1 fun n7 =>
((0 : Int) ≤ n7) ∧
((n7 : Int) < 8) ∧
sT M2 b0 ((o0 + 2) + (Int.toNat n7)) (iV 0) fun M8 =>
aV (decide ((n4 : Int) < n6))
 (rI M8 k1 1 fun n9 =>
 ((0 : Int) ≤ n9) ∧
 ((n9 : Int) < 8) ∧
 sT M8 b0 ((o0 + 2) + (Int.toNat n9)) (iV 1) fun gS =>
 K (.tuple #[]) gS)
 (K (.tuple #[]) M8)) :
 ae Tryz.prog 201 ([.pointer (some ⟨b0, o0, none⟩), .agg #[.int .i64 cV, .int .i64 cW, .int .i64 cX, .int .i64 eK]] : List Value).toArray M K Kp :=
 aA (C := Cx) good [(1, .bS [0, 0, 2, 1, 9, 31, 63, 0, 0, 256, 128, 1152, 3968, 8064, 16383, 32767] (.step 0 (.step 1 (.step 3 (.step 4 (.step 7 (.step 8 (.step 10 (.step 11 (.step 2 (.step 5 (.step 6 (.step 9 (.step 12 (.step 13 (.step 14 (.step 15 .done))))))))))))))))), (2, .bS [0, 0, 2, 1, 9, 31, 63] (.step 0 (.step 1 (.step 3 (.step 4 (.step 2 (.step 5 (.step 6 .done)))))))), (4, .bS [0, 0, 2, 1, 9, 31, 63] (.step 0 (.step 1 (.step 3 (.step 4 (.step 2 (.step 5 (.step 6 .done))))))))] Tryz.func201 (by kernel_rfl) (by kernel_rfl) h
theorem qX {b0 o0 : Nat} {cV : Int} {cW : Int} {cX : Int} {eK : Int} (h :
bj M (.cells #[(iV cV), (iV cW), (iV cX), (iV eK)] 34 (0, 0)) fun k1 M2 =>
rI M2 k1 1 fun n3 =>
sT M2 b0 (o0 + 1) (iV n3) fun M4 =>
K (.tuple #[]) M4) :
 ae Tryz.prog 202 ([.pointer (some ⟨b0, o0, none⟩), .agg #[.int .i64 cV, .int .i64 cW, .int .i64 cX, .int .i64 eK]] : List Value).toArray M K Kp :=
 aA (C := Cx) good [] Tryz.func202 (by kernel_rfl) (by kernel_rfl) h
theorem oy {b0 o0 : Nat} {cV : Int} {cW : Int} {cX : Int} {eK : Int} (h :
bj M (.cells #[(iV cV), (iV cW), (iV cX), (iV eK)] 34 (0, 0)) fun k1 M2 =>
rI M2 k1 1 fun n3 =>
((0 : Int) ≤ n3) ∧
((n3 : Int) < 8) ∧
rI M2 b0 ((o0 + 2) + (Int.toNat n3)) fun n4 =>
aV (n4 != 0)
 (rI M2 k1 2 fun n5 =>
 sT M2 b0 (o0 + 1) (iV n5) fun M6 =>
 K (.tuple #[]) M6)
 (K (.tuple #[]) M2)) :
 ae Tryz.prog 203 ([.pointer (some ⟨b0, o0, none⟩), .agg #[.int .i64 cV, .int .i64 cW, .int .i64 cX, .int .i64 eK]] : List Value).toArray M K Kp :=
 aA (C := Cx) good [(1, .bS [0, 0, 2, 1, 9, 31, 63, 127] (.step 0 (.step 1 (.step 3 (.step 4 (.step 2 (.step 5 (.step 6 (.step 7 .done)))))))))] Tryz.func203 (by kernel_rfl) (by kernel_rfl) h
theorem mE {b0 o0 : Nat} {cV : Int} {cW : Int} {cX : Int} {x2 : Int} (h :
bj M (.cells #[(iV cV), (iV cW), (iV cX)] 298 (0, 0)) fun k1 M2 =>
rS M2 b0 (o0 + 4) fun A3 k4 k5 =>
rI M2 k1 0 fun n6 =>
((0 : Int) ≤ n6) ∧
((n6 : Int) < ((k4 : Nat) : Int)) ∧
aI A3 fun k7 k8 =>
bL (Mem.ld M2 ⟨k7, (k8 + (Int.toNat n6)), none⟩) fun A9 =>
aI A9 fun eA eB =>
rS M2 eA (eB + 1) fun sB c7 fX =>
rS M2 b0 (o0 + 4) fun qt dF eE =>
rI M2 k1 0 fun kq =>
((0 : Int) ≤ kq) ∧
((kq : Int) < ((dF : Nat) : Int)) ∧
aI qt fun iO ig =>
bL (Mem.ld M2 ⟨iO, (ig + (Int.toNat kq)), none⟩) fun Cn =>
aI Cn fun gz iL =>
rI M2 gz (iL + 2) fun wY =>
rI M2 gz ((iL + 2) + 1) fun lZ =>
rI M2 gz ((iL + 2) + 2) fun ov =>
rI M2 gz ((iL + 2) + 3) fun xA =>
(True) ∧
ae Tryz.prog 120 #[(.slice sB c7 fX)] M2 (fun Mm lT =>
bL (some Mm) fun Fh =>
((Mem.fy lT ⟨gz, (iL + 2), none⟩ 0 4) = some [(iV wY), (iV lZ), (iV ov), (iV xA)]) ∧
((Mem.ld lT ⟨iO, (ig + (Int.toNat kq)), none⟩) = (some (.pointer Cn))) ∧
((Mem.ld lT ⟨k1, 0, none⟩) = (some (iV kq))) ∧
((Mem.ld lT ⟨b0, (o0 + 4), none⟩) = (some (.slice qt dF eE))) ∧
aI Fh fun nA tw =>
bj lT (.cells #[(iV 0), (iV 0), (iV 0), (iV 0)] 34 (0, 0)) fun nE lY =>
sT lY nE 0 (iV wY) fun qu =>
sT qu nE 1 (iV lZ) fun oQ =>
sT oQ nE 2 (iV ov) fun Cs =>
sT Cs nE 3 (iV xA) fun jJ =>
((Mem.fy jJ ⟨gz, (iL + 2), none⟩ 0 4) = some [(iV wY), (iV lZ), (iV ov), (iV xA)]) ∧
((Mem.ld jJ ⟨iO, (ig + (Int.toNat kq)), none⟩) = (some (.pointer Cn))) ∧
((Mem.ld jJ ⟨k1, 0, none⟩) = (some (iV kq))) ∧
((Mem.ld jJ ⟨b0, (o0 + 4), none⟩) = (some (.slice qt dF eE))) ∧
rI jJ nE 0 fun HV =>
aV (HV == 16)
 (rS jJ b0 (o0 + 3) fun A40 Me KQ =>
 rI jJ nE 1 fun Dc =>
 rI jJ k1 1 fun Df =>
 ((0 : Int) ≤ (IntKind.wrap .i64 (Dc + Df))) ∧
 (((IntKind.wrap .i64 (Dc + Df)) : Int) < ((Me : Nat) : Int)) ∧
 aI A40 fun KR HW =>
 rI jJ KR ((HW + ((Int.toNat (IntKind.wrap .i64 (Dc + Df))) * 3)) + 2) fun AV =>
 rI jJ k1 2 fun zI =>
 ((0 : Int) ≤ AV) ∧
 ((AV : Int) < 8) ∧
 sT jJ nA ((tw + 2) + (Int.toNat AV)) (iV zI) fun xy =>
 rI xy k1 0 fun Bc =>
 rI xy k1 1 fun zY =>
 ae Tryz.prog 223 #[(.pointer (some ⟨b0, o0, none⟩)), (iV Bc), (iV zY)] xy (fun v52 Ct =>
 (v52 = (.tuple #[])) ∧
 rI Ct k1 0 fun Xm =>
 ae Tryz.prog 90 #[(.pointer (some ⟨b0, o0, none⟩)), (iV Xm)] Ct (fun Xa Fg =>
 (Xa = (.tuple #[])) ∧
 K (.tuple #[]) Fg) Kp) Kp)
 (rI jJ nE 2 fun S2 =>
 rI jJ k1 2 fun DW =>
 ((0 : Int) ≤ S2) ∧
 ((S2 : Int) < 8) ∧
 rI jJ nE 3 fun Cj =>
 sT jJ nA ((tw + 2) + (Int.toNat S2)) (iV DW) fun rW =>
 ((Mem.ld rW ⟨nE, 3, none⟩) = (some (iV Cj))) ∧
 ((0 : Int) ≤ Cj) ∧
 ((Cj : Int) < 8) ∧
 sT rW nA ((tw + 2) + (Int.toNat Cj)) (iV x2) fun vf =>
 ((Mem.ld vf ⟨nE, 3, none⟩) = (some (iV Cj))) ∧
 rI vf k1 0 fun KX =>
 ae Tryz.prog 90 #[(.pointer (some ⟨b0, o0, none⟩)), (iV KX)] vf (fun v63 zZ =>
 (v63 = (.tuple #[])) ∧
 K (.tuple #[]) zZ) Kp)) Kp) :
 ae Tryz.prog 208 ([.pointer (some ⟨b0, o0, none⟩), .agg #[.int .i64 cV, .int .i64 cW, .int .i64 cX], .int .i64 x2] : List Value).toArray M K Kp :=
 aA (C := Cx) good [(1, .bS [0, 1, 3, 7, 0, 16, 63, 127, 255, 511, 1023, 0, 2048, 6144, 14336, 0, 32768, 129024, 260096, 522240, 1046528, 2095104, 4192256, 8386560, 16775168, 0, 41943039, 134217727] (.step 0 (.step 1 (.step 2 (.step 4 (.step 11 (.step 12 (.step 13 (.step 15 (.step 14 (.step 16 (.step 17 (.step 18 (.step 19 (.step 20 (.step 21 (.dx 3 (.dx 5 (.step 6 (.dx 7 (.step 8 (.step 9 (.dx 10 (.late 22 (.step 23 (.step 24 (.step 25 (.step 26 (.step 27 .done))))))))))))))))))))))))))))), (3, .bS [0, 0, 2, 6, 14, 30, 0, 64, 0, 256, 960, 2046, 4094, 8190, 0, 16384, 1, 131071, 262143] (.step 0 (.step 1 (.step 2 (.step 3 (.step 4 (.step 6 (.step 8 (.step 14 (.step 16 (.step 5 (.step 7 (.step 9 (.step 10 (.step 11 (.step 12 (.step 13 (.step 15 (.step 17 (.step 18 .done)))))))))))))))))))), (5, .bS [0, 0, 2, 0, 0, 16, 0, 64, 0, 1, 711, 1735, 8, 8191, 16383] (.step 0 (.step 1 (.step 3 (.step 4 (.step 6 (.step 8 (.step 9 (.step 12 (.step 2 (.step 7 (.step 10 (.dx 5 (.step 11 (.step 13 (.step 14 .done))))))))))))))))] Tryz.func208 (by kernel_rfl) (by kernel_rfl) h
theorem qY {b0 o0 : Nat} {cV : Int} {cW : Int} {cX : Int} (h :
bj M (.cells #[(iV cV), (iV cW), (iV cX)] 298 (0, 0)) fun k1 M2 =>
rS M2 b0 (o0 + 4) fun A3 k4 k5 =>
rI M2 k1 0 fun n6 =>
((0 : Int) ≤ n6) ∧
((n6 : Int) < ((k4 : Nat) : Int)) ∧
aI A3 fun k7 k8 =>
bL (Mem.ld M2 ⟨k7, (k8 + (Int.toNat n6)), none⟩) fun A9 =>
aI A9 fun eA eB =>
rI M2 eA (eB + 2) fun jf =>
aV (jf == 16)
 (rI M2 k1 0 fun jg =>
 rI M2 k1 1 fun je =>
 ae Tryz.prog 223 #[(.pointer (some ⟨b0, o0, none⟩)), (iV jg), (iV je)] M2 (fun Co eT =>
 (Co = (.tuple #[])) ∧
 rI eT k1 0 fun hU =>
 ae Tryz.prog 90 #[(.pointer (some ⟨b0, o0, none⟩)), (iV hU)] eT (fun DV hH =>
 (DV = (.tuple #[])) ∧
 K (.tuple #[]) hH) Kp) Kp)
 (rI M2 k1 0 fun fq =>
 ae Tryz.prog 90 #[(.pointer (some ⟨b0, o0, none⟩)), (iV fq)] M2 (fun Xn cR =>
 (Xn = (.tuple #[])) ∧
 K (.tuple #[]) cR) Kp)) :
 ae Tryz.prog 210 ([.pointer (some ⟨b0, o0, none⟩), .agg #[.int .i64 cV, .int .i64 cW, .int .i64 cX]] : List Value).toArray M K Kp :=
 aA (C := Cx) good [(1, .bS [0, 1, 3, 7, 0, 16, 63, 127, 255, 511, 1023, 2047, 4095] (.step 0 (.step 1 (.step 2 (.step 4 (.step 3 (.step 5 (.step 6 (.step 7 (.step 8 (.step 9 (.step 10 (.step 11 (.step 12 .done))))))))))))))] Tryz.func210 (by kernel_rfl) (by kernel_rfl) h
theorem qZ {B0 : Option Addr} {m0 c0 : Nat} {x1 : Int} {x2 : Int} {x3 : Int} (h :
aV (decide ((((m0 : Nat) : Int) : Int) ≥ 16))
 (K (.tuple #[(.slice B0 m0 c0), (.bool false)]) M)
 (((0 : Int) ≤ ((m0 : Nat) : Int)) ∧
 ((((m0 : Nat) : Int) : Int) ≤ ((c0 : Nat) : Int)) ∧
 ((0 : Int) ≤ ((m0 : Nat) : Int)) ∧
 ((((m0 : Nat) : Int) : Int) ≤ ((m0 : Nat) : Int)) ∧
 ((0 : Int) ≤ 0) ∧
 ((0 : Int) ≤ ((m0 : Nat) : Int)) ∧
 bj M (.cells #[(iV x1), (iV 0), (iV x2), (iV 0), (iV 0), (iV 0), (iV 0), (iV 0), (iV 0), (iV 0), (iV x3)] 234 (0, 0)) fun k1 M2 =>
 aS Tryz.prog (Go.Builtin.append_ #[179, 179] 179 #[(.slice (lj B0 0 (Int.toNat ((m0 : Nat) : Int)) 11) ((Int.toNat ((m0 : Nat) : Int)) - 0) ((Int.toNat ((m0 : Nat) : Int)) - 0)), (.slice (some ⟨k1, 0, none⟩) 1 1)]) M2 (fun v3 M4 =>
 aD (some v3) fun A5 k6 k7 =>
 K (.tuple #[(.slice A5 k6 k7), (.bool true)]) M4) Kp)) :
 ae Tryz.prog 211 ([.slice B0 m0 c0, .int .i64 x1, .int .i64 x2, .int .i64 x3] : List Value).toArray M K Kp :=
 aA (C := Cx) good [] Tryz.func211 (by kernel_rfl) (by kernel_rfl) h
theorem oz {B0 : Option Addr} {m0 c0 : Nat} {x1 : Int} (h :
aV (decide ((((m0 : Nat) : Int) : Int) < 2))
 (K (.tuple #[(.slice none 0 0), (.bool false)]) M)
 (bj M (.cells #[] 234 (0, 0)) fun k1 M2 =>
 ((0 : Int) ≤ ((c0 : Nat) : Int)) ∧
 ((((c0 : Nat) : Int) : Int) ≤ ((c0 : Nat) : Int)) ∧
 ((0 : Int) ≤ (IntKind.wrap .i64 (((m0 : Nat) : Int) - 1))) ∧
 (((IntKind.wrap .i64 (((m0 : Nat) : Int) - 1)) : Int) ≤ ((c0 : Nat) : Int)) ∧
 ((0 : Int) ≤ 0) ∧
 ((0 : Int) ≤ (IntKind.wrap .i64 (((m0 : Nat) : Int) - 1))) ∧
 aS Tryz.prog (Go.Builtin.append_ #[179, 179] 179 #[(.slice (some ⟨k1, 0, none⟩) 0 0), (.slice (lj B0 0 (Int.toNat ((c0 : Nat) : Int)) 11) ((Int.toNat (IntKind.wrap .i64 (((m0 : Nat) : Int) - 1))) - 0) ((Int.toNat ((c0 : Nat) : Int)) - 0))]) M2 (fun v3 M4 =>
 aD (some v3) fun A5 k6 k7 =>
 ae Tryz.prog 120 #[(.slice A5 k6 k7)] M4 (fun v8 M9 =>
 bL (some v8) fun Db =>
 aI Db fun eB fK =>
 ae Tryz.prog 120 #[(.slice B0 m0 c0)] M9 (fun Py ik =>
 bL (some Py) fun qt =>
 aI qt fun dF eE =>
 rI ik dF (eE + 10) fun kq =>
 ((0 : Int) ≤ kq) ∧
 ((kq : Int) < 8) ∧
 sT ik eB ((fK + 2) + (Int.toNat kq)) (iV x1) fun hH =>
 K (.tuple #[(.slice A5 k6 k7), (.bool true)]) hH) Kp) Kp) Kp)) :
 ae Tryz.prog 212 ([.slice B0 m0 c0, .int .i64 x1] : List Value).toArray M K Kp :=
 aA (C := Cx) good [(4, .bS [0, 1, 0, 7, 15, 31, 63, 0, 3, 259, 1023, 2047] (.step 0 (.step 2 (.step 7 (.step 1 (.step 8 (.step 9 (.step 3 (.step 4 (.step 5 (.step 6 (.step 10 (.step 11 .done)))))))))))))] Tryz.func212 (by kernel_rfl) (by kernel_rfl) h
theorem ud {b0 o0 : Nat} {x1 : Int} {x2 : Int} (h :
aD (Mem.ld M ⟨b0, o0, none⟩) fun A1 k2 k3 =>
aK (Mem.ld M ⟨b0, (o0 + 1), none⟩) .u64 fun n4 =>
bj M (.cells #[(.int .u64 x1), (.int .u64 n4), (.int .i64 x2)] 205 (0, 0)) fun k5 M6 =>
aS Tryz.prog (Go.Builtin.append_ #[65, 65] 65 #[(.slice A1 k2 k3), (.slice (some ⟨k5, 0, none⟩) 1 1)]) M6 (fun v7 M8 =>
aD (some v7) fun A9 eA eB =>
aO M8 ⟨b0, o0, none⟩ (.slice A9 eA eB) fun jH =>
aK (Mem.ld jH ⟨b0, (o0 + 1), none⟩) .u64 fun jg =>
aO jH ⟨b0, (o0 + 1), none⟩ (.int .u64 (IntKind.wrap .u64 (jg + 1))) fun ik =>
aD (Mem.ld ik ⟨b0, o0, none⟩) fun qt dF eE =>
ae Tryz.prog 138 #[(.pointer (some ⟨b0, o0, none⟩)), (.int .i64 (IntKind.wrap .i64 (((dF : Nat) : Int) - 1)))] ik (fun DV hH =>
(DV = (.tuple #[])) ∧
aK (Mem.ld hH ⟨b0, (o0 + 1), none⟩) .u64 fun fq =>
K (.int .u64 (IntKind.wrap .u64 (fq - 1))) hH) Kp) Kp) :
 ae Tryz.prog 214 ([.pointer (some ⟨b0, o0, none⟩), .int .u64 x1, .int .i64 x2] : List Value).toArray M K Kp :=
 aA (C := Cx) good [(1, .bS [0, 0, 2, 6, 14, 0, 0, 64, 192, 448, 0, 2016, 4064, 8190, 16383, 32767, 65535] (.step 0 (.step 1 (.step 2 (.step 3 (.step 5 (.step 6 (.step 7 (.step 8 (.step 10 (.step 4 (.step 9 (.step 11 (.step 12 (.step 13 (.step 14 (.step 15 (.step 16 .done))))))))))))))))))] Tryz.func214 (by kernel_rfl) (by kernel_rfl) h
theorem sN {b0 o0 : Nat} {x1 : Int} (h :
rI M b0 o0 fun n1 =>
aV (n1 != (-1))
 (rS M b0 (o0 + 1) fun A2 k3 k4 =>
 bj M (.cells #[(iV x1)] 3 (0, 0)) fun k5 M6 =>
 aS Tryz.prog (Go.Builtin.append_ #[38, 38] 38 #[(.slice A2 k3 k4), (.slice (some ⟨k5, 0, none⟩) 1 1)]) M6 (fun v7 M8 =>
 aD (some v7) fun A9 eA eB =>
 sT M8 b0 (o0 + 1) (.slice A9 eA eB) fun jH =>
 K (.bool false) jH) Kp)
 (sT M b0 o0 (iV x1) fun jN =>
 K (.bool true) jN)) :
 ae Tryz.prog 215 ([.pointer (some ⟨b0, o0, none⟩), .int .i64 x1] : List Value).toArray M K Kp :=
 aA (C := Cx) good [] Tryz.func215 (by kernel_rfl) (by kernel_rfl) h
theorem sO {b0 o0 : Nat} {x1 : Int} (h :
rI M b0 o0 fun n1 =>
aV (n1 == (-1))
 (K (.tuple #[(iV (-1)), (iV 5)]) M)
 (rI M b0 o0 fun n2 =>
 aV (n2 != x1)
 (K (.tuple #[(iV (-1)), (iV 5)]) M)
 (sT M b0 o0 (iV (-1)) fun M3 =>
 rS M3 b0 (o0 + 1) fun A4 k5 k6 =>
 aV (decide ((((k5 : Nat) : Int) : Int) > 0))
 (rS M3 b0 (o0 + 1) fun A7 k8 k9 =>
 ((0 : Int) ≤ 0) ∧
 ((0 : Int) < ((k8 : Nat) : Int)) ∧
 aI A7 fun eA eB =>
 rI M3 eA (eB + 0) fun jf =>
 sT M3 b0 o0 (iV jf) fun jN =>
 bj jN (.cells #[] 3 (0, 0)) fun fX nX =>
 rS nX b0 (o0 + 1) fun Rv eE dS =>
 ((0 : Int) ≤ ((dS : Nat) : Int)) ∧
 ((((dS : Nat) : Int) : Int) ≤ ((dS : Nat) : Int)) ∧
 ((0 : Int) ≤ ((eE : Nat) : Int)) ∧
 ((((eE : Nat) : Int) : Int) ≤ ((dS : Nat) : Int)) ∧
 ((0 : Int) ≤ 1) ∧
 ((1 : Int) ≤ ((eE : Nat) : Int)) ∧
 aS Tryz.prog (Go.Builtin.append_ #[38, 38] 38 #[(.slice (some ⟨fX, 0, none⟩) 0 0), (.slice (lj Rv 1 (Int.toNat ((dS : Nat) : Int)) 1) ((Int.toNat ((eE : Nat) : Int)) - 1) ((Int.toNat ((dS : Nat) : Int)) - 1))]) nX (fun Pu nx =>
 aD (some Pu) fun Cn gz iL =>
 sT nx b0 (o0 + 1) (.slice Cn gz iL) fun ie =>
 rI ie b0 o0 fun lZ =>
 K (.tuple #[(iV lZ), (iV 0)]) ie) Kp)
 (rI M3 b0 o0 fun ov =>
 K (.tuple #[(iV ov), (iV 0)]) M3)))) :
 ae Tryz.prog 216 ([.pointer (some ⟨b0, o0, none⟩), .int .i64 x1] : List Value).toArray M K Kp :=
 aA (C := Cx) good [] Tryz.func216 (by kernel_rfl) (by kernel_rfl) h
theorem sP {b0 o0 : Nat} {x1 : Int} (h :
∃ I1 : Nat → List Value → Mem → Prop, (∃ k2 : Nat, I1 k2 [(.int .i64 x1), (.int .i64 (IntKind.wrap .i64 ((IntKind.wrap .i64 (4 * x1)) + 1)))] M) ∧
∀ k3 : Nat, ∀ wu : Nat → Value, ∀ n5 : Int, ∀ n6 : Int, ∀ M7 : Mem, (I1 k3 [(.int .i64 n5), (.int .i64 n6)] M7) → aV (decide ((n6 : Int) ≤ (IntKind.wrap .i64 ((IntKind.wrap .i64 (4 * x1)) + 4))))
 (aD (Mem.ld M7 ⟨b0, o0, none⟩) fun A8 k9 eA =>
 aV (decide ((n6 : Int) < ((k9 : Nat) : Int)))
  (aD (Mem.ld M7 ⟨b0, o0, none⟩) fun JH fK c7 =>
  ((0 : Int) ≤ n6) ∧
  ((n6 : Int) < ((fK : Nat) : Int)) ∧
  aI JH fun fX fT =>
  aK (Mem.ld M7 ⟨fX, (fT + ((Int.toNat n6) * 3)), none⟩) .u64 fun mz =>
  aK (Mem.ld M7 ⟨fX, ((fT + ((Int.toNat n6) * 3)) + 1), none⟩) .u64 fun hU =>
  aK (Mem.ld M7 ⟨fX, ((fT + ((Int.toNat n6) * 3)) + 2), none⟩) .i64 fun kq =>
  aD (Mem.ld M7 ⟨b0, o0, none⟩) fun zH ig fa =>
  ((0 : Int) ≤ n5) ∧
  ((n5 : Int) < ((ig : Nat) : Int)) ∧
  aI zH fun gz iL =>
  aK (Mem.ld M7 ⟨gz, (iL + ((Int.toNat n5) * 3)), none⟩) .u64 fun wY =>
  aK (Mem.ld M7 ⟨gz, ((iL + ((Int.toNat n5) * 3)) + 1), none⟩) .u64 fun lZ =>
  aK (Mem.ld M7 ⟨gz, ((iL + ((Int.toNat n5) * 3)) + 2), none⟩) .i64 fun ov =>
  ae Tryz.prog 186 #[(.agg #[(.int .u64 mz), (.int .u64 hU), (.int .i64 kq)]), (.agg #[(.int .u64 wY), (.int .u64 lZ), (.int .i64 ov)])] M7 (fun Ml yg =>
  cD (some Ml) fun t29 =>
  aV t29
   (∃ kZ : Nat, (kZ < k3) ∧
   I1 kZ [(.int .i64 n6), (.int .i64 (IntKind.wrap .i64 (n6 + 1)))] yg)
   (∃ nA : Nat, (nA < k3) ∧
   I1 nA [(.int .i64 n5), (.int .i64 (IntKind.wrap .i64 (n6 + 1)))] yg)) Kp)
  (K (.int .i64 n5) M7))
 (K (.int .i64 n5) M7)) :
 ae Tryz.prog 185 ([.pointer (some ⟨b0, o0, none⟩), .int .i64 x1] : List Value).toArray M K Kp :=
 aA (C := Cx) good [(2000000, .loop [(5, .c (.int .i64)), (6, .c (.int .i64))]), (5, .bS [0, 1, 3, 7, 0, 31, 63, 0, 128, 384, 896, 0, 3968, 8064, 16383] (.step 0 (.step 1 (.step 2 (.step 4 (.step 7 (.step 8 (.step 9 (.step 11 (.step 3 (.step 5 (.step 6 (.step 10 (.step 12 (.step 13 (.step 14 .done))))))))))))))))] Tryz.func185 (by kernel_rfl) (by kernel_rfl) h
theorem yy {D1 : Int} {D2 : Int} {gn : Int} {cV : Int} {cW : Int} {cX : Int} (h :
bj M (.cells #[(.int .u64 D1), (.int .u64 D2), (iV gn)] 205 (0, 0)) fun k1 M2 =>
bj M2 (.cells #[(.int .u64 cV), (.int .u64 cW), (iV cX)] 205 (0, 0)) fun k3 M4 =>
aK (Mem.ld M4 ⟨k1, 0, none⟩) .u64 fun n5 =>
aK (Mem.ld M4 ⟨k3, 0, none⟩) .u64 fun n6 =>
aV (decide ((n5 : Int) < n6))
 (K (.bool true) M4)
 (aK (Mem.ld M4 ⟨k1, 0, none⟩) .u64 fun n7 =>
 aK (Mem.ld M4 ⟨k3, 0, none⟩) .u64 fun n8 =>
 aV (n7 == n8)
 (aK (Mem.ld M4 ⟨k1, 1, none⟩) .u64 fun n9 =>
 aK (Mem.ld M4 ⟨k3, 1, none⟩) .u64 fun jP =>
 K (.bool (decide ((n9 : Int) < jP))) M4)
 (K (.bool false) M4))) :
 ae Tryz.prog 186 ([.agg #[.int .u64 D1, .int .u64 D2, .int .i64 gn], .agg #[.int .u64 cV, .int .u64 cW, .int .i64 cX]] : List Value).toArray M K Kp :=
 aA (C := Cx) good [] Tryz.func186 (by kernel_rfl) (by kernel_rfl) h
theorem oA {b0 o0 : Nat} {x1 : Int} {x2 : Int} (h :
rS M b0 (o0 + 4) fun A1 k2 k3 =>
((0 : Int) ≤ x1) ∧
((x1 : Int) < ((k2 : Nat) : Int)) ∧
aI A1 fun k4 k5 =>
bL (Mem.ld M ⟨k4, (k5 + (Int.toNat x1)), none⟩) fun A6 =>
aI A6 fun k7 k8 =>
rI M k7 (k8 + 2) fun n9 =>
rI M k7 ((k8 + 2) + 1) fun jP =>
rI M k7 ((k8 + 2) + 2) fun fu =>
rI M k7 ((k8 + 2) + 3) fun jf =>
bj M (.cells #[(iV 0), (iV 0), (iV 0), (iV 0)] 34 (0, 0)) fun c7 ik =>
sT ik c7 0 (iV n9) fun nX =>
sT nX c7 1 (iV jP) fun eT =>
sT eT c7 2 (iV fu) fun jO =>
sT jO c7 3 (iV jf) fun mC =>
rS mC b0 (o0 + 4) fun zH ig fa =>
((0 : Int) ≤ x1) ∧
((x1 : Int) < ((ig : Nat) : Int)) ∧
aI zH fun gz iL =>
bL (Mem.ld mC ⟨gz, (iL + (Int.toNat x1)), none⟩) fun F2 =>
aI F2 fun sw lC =>
rS mC sw (lC + 1) fun Rs lg jZ =>
rI mC c7 3 fun Gb =>
ae Tryz.prog 120 #[(.slice Rs lg jZ)] mC (fun SM mA =>
bL (some SM) fun Jy =>
((Mem.ld mA ⟨c7, 3, none⟩) = (some (iV Gb))) ∧
aI Jy fun tR sA =>
((0 : Int) ≤ Gb) ∧
((Gb : Int) < 8) ∧
sT mA tR ((sA + 2) + (Int.toNat Gb)) (iV x2) fun oQ =>
((Mem.ld oQ ⟨c7, 3, none⟩) = (some (iV Gb))) ∧
rS oQ b0 (o0 + 6) fun KY gL vn =>
ae Tryz.prog 225 #[(iV x1), (.slice KY gL vn)] oQ (fun H8 wZ =>
(H8 = (.tuple #[])) ∧
K (.tuple #[]) wZ) Kp) Kp) :
 ae Tryz.prog 223 ([.pointer (some ⟨b0, o0, none⟩), .int .i64 x1, .int .i64 x2] : List Value).toArray M K Kp :=
 aA (C := Cx) good [(1, .bS [0, 1, 3, 7, 0, 31, 63, 127, 255, 511, 1023, 0, 2048, 0, 2047, 18431, 65535, 131071] (.step 0 (.step 1 (.step 2 (.step 4 (.step 11 (.step 13 (.step 3 (.step 5 (.step 6 (.step 7 (.step 8 (.step 9 (.dx 12 (.step 10 (.step 14 (.step 15 (.step 16 (.step 17 .done)))))))))))))))))))] Tryz.func223 (by kernel_rfl) (by kernel_rfl) h
end Go.Proofs
namespace Go.Proofs
open Go.AF
set_option maxRecDepth 100000
theorem Cu {jl : Option Addr} {jm jn : Nat} {jo : Option Addr} {jq jr : Nat} {gn : Int} {js : Option Addr} {jt ju : Nat} {M : Mem} {K : Value → Mem → Prop} {Kp : List PanicEntry → Mem → Prop} (h :
bj M (.cells #[(.slice jl jm jn), (.slice jo jq jr), (iV gn), (.slice js jt ju)] 41 (0, 0)) fun k1 M2 =>
rS M2 k1 0 fun A3 k4 k5 =>
rS M2 k1 1 fun A6 k7 k8 =>
rI M2 k1 2 fun n9 =>
rS M2 k1 3 fun Db eB fK =>
ae Tryz.prog 71 #[(iV 0), (iV 0)] M2 (fun Py ik =>
aD (some Py) fun qt dF eE =>
((Mem.fy ik ⟨k1, 0, none⟩ 0 4) = some [(.slice A3 k4 k5), (.slice A6 k7 k8), (iV n9), (.slice Db eB fK)]) ∧
bj ik (.cells #[(iV 1), (.slice qt dF eE), (iV 0), (iV 0), (iV 0), (iV 0)] 182 (0, 0)) fun dS hH =>
bj hH (.cells #[(.pointer (some ⟨dS, 0, none⟩))] 177 (0, 0)) fun ig iP =>
bj iP (.cells #[(.slice A3 k4 k5), (.slice A6 k7 k8), (iV n9), (.slice Db eB fK), (.slice (some ⟨ig, 0, none⟩) 1 1), (.int .u64 0), (.slice none 0 0), (.slice none 0 0), (.slice none 0 0), (.int .u64 0), (.slice none 0 0), (iV 0), (iV 0), (.slice none 0 0), .nilFunc] 164 (0, 0)) fun gz kL =>
rS kL k1 1 fun F2 sw lC =>
∃ I27 : Nat → List Value → Mem → Prop, (∃ lg : Nat, I27 lg [(iV 0)] kL) ∧
∀ jZ : Nat, ∀ junk30 : Nat → Value, ∀ tv : Int, ∀ mA : Mem, (I27 jZ [(iV tv)] mA) → aV (decide ((tv : Int) < ((sw : Nat) : Int)))
 (((0 : Int) ≤ tv) ∧
 ((tv : Int) < ((sw : Nat) : Int)) ∧
 aI F2 fun nE tR =>
 rI mA nE (tR + (Int.toNat tv)) fun KW =>
 ∃ J36 : List Value → Mem → Prop, ((rS mA gz 6 fun KY gL vn =>
 ae Tryz.prog 72 #[(iV KW)] mA (fun H8 wZ =>
 bL (some H8) fun KU =>
 bj wZ (.cells #[(.pointer KU)] 183 (0, 0)) fun nW wD =>
 aS Tryz.prog (Go.Builtin.append_ #[159, 159] 159 #[(.slice KY gL vn), (.slice (some ⟨nW, 0, none⟩) 1 1)]) wD (fun V6 wE =>
 aD (some V6) fun S3 Bb Ga =>
 sT wE gz 6 (.slice S3 Bb Ga) fun zE =>
 J36 [] zE) Kp) Kp) ∧
 (ae Tryz.prog 72 #[(iV KW)] mA (fun v51 Px =>
 bL (some v51) fun A53 =>
 rS Px gz 6 fun A54 Mu KZ =>
 bj Px (.cells #[(.pointer A53)] 183 (0, 0)) fun rZ Gc =>
 aS Tryz.prog (Go.Builtin.append_ #[159, 159] 159 #[(.slice A54 Mu KZ), (.slice (some ⟨rZ, 0, none⟩) 1 1)]) Gc (fun v59 rW =>
 aD (some v59) fun Xo Pz ON =>
 sT rW gz 6 (.slice Xo Pz ON) fun zZ =>
 J36 [] zZ) Kp) Kp) ∧
 True) ∧
 ∀ junk65 : Nat → Value, ∀ Ru : Mem, (J36 [] Ru) → ∃ w7 : Nat, (w7 < jZ) ∧
 I27 w7 [(iV (IntKind.wrap .i64 (tv + 1)))] Ru)
 (rI mA k1 2 fun H9 =>
 ∃ I69 : Nat → List Value → Mem → Prop, (∃ Bg : Nat, I69 Bg [(iV 0)] mA) ∧
 ∀ JI : Nat, ∀ junk72 : Nat → Value, ∀ OM : Int, ∀ Bd : Mem, (I69 JI [(iV OM)] Bd) → aV (decide ((OM : Int) < H9))
 (∃ J75 : List Value → Mem → Prop, ((rS Bd gz 7 fun A76 PB JJ =>
 ae Tryz.prog 73 #[] Bd (fun v79 xC =>
 bL (some v79) fun S4 =>
 bj xC (.cells #[(.pointer S4)] 185 (0, 0)) fun Gd Fj =>
 aS Tryz.prog (Go.Builtin.append_ #[160, 160] 160 #[(.slice A76 PB JJ), (.slice (some ⟨Gd, 0, none⟩) 1 1)]) Fj (fun v84 Xp =>
 aD (some v84) fun A86 OO D6 =>
 sT Xp gz 7 (.slice A86 OO D6) fun Cl =>
 J75 [] Cl) Kp) Kp) ∧
 (ae Tryz.prog 73 #[] Bd (fun Mv jK =>
 bL (some Mv) fun S5 =>
 rS jK gz 7 fun A93 PC k95 =>
 bj jK (.cells #[(.pointer S5)] 185 (0, 0)) fun k96 K0 =>
 aS Tryz.prog (Go.Builtin.append_ #[160, 160] 160 #[(.slice A93 PC k95), (.slice (some ⟨k96, 0, none⟩) 1 1)]) K0 (fun v98 S6 =>
 aD (some v98) fun A100 k101 Ge =>
 sT S6 gz 7 (.slice A100 k101 Ge) fun Gf =>
 J75 [] Gf) Kp) Kp) ∧
 True) ∧
 ∀ PD : Nat → Value, ∀ mB : Mem, (J75 [] mB) → ∃ w8 : Nat, (w8 < JI) ∧
 I69 w8 [(iV (IntKind.wrap .i64 (OM + 1)))] mB)
 (K (.pointer (some ⟨gz, 0, none⟩)) Bd))) Kp) :
 ae Tryz.prog 36 ([.agg #[.slice jl jm jn, .slice jo jq jr, .int .i64 gn, .slice js jt ju]] : List Value).toArray M K Kp :=
 aA (C := Cx) good [(1, .bS [0, 0, 2, 6, 14, 31, 63, 127] (.dx 0 (.step 1 (.step 2 (.step 3 (.step 4 (.step 5 (.step 6 (.step 7 .done))))))))), (2000000, .loop [(16, .c (.int .i64))]), (5, .DK [0, 0, 2, 6, 14, 0, 32, 96, 254, 511, 1023, 2047] (.step 0 (.step 1 (.step 2 (.step 3 (.step 5 (.fork 4 (.step 6 (.step 7 (.step 8 (.step 9 (.step 10 (.step 11 .done)))))) (.fork 6 (.step 4 (.step 7 (.step 8 (.step 9 (.step 10 (.step 11 .done)))))) .dead))))))) []), (2000002, .loop [(34, .c (.int .i64))]), (9, .DK [0, 0, 2, 6, 14, 0, 32, 126, 255, 511, 1023] (.step 0 (.step 1 (.step 2 (.step 3 (.fork 4 (.step 5 (.step 6 (.step 7 (.step 8 (.step 9 (.step 10 .done)))))) (.fork 5 (.step 4 (.step 6 (.step 7 (.step 8 (.step 9 (.step 10 .done)))))) .dead)))))) [])] Tryz.func36 (by kernel_rfl) (by kernel_rfl) h
theorem jQ {b0 o0 : Nat} {x1 : Int} {u2 : Value} {M : Mem} {K : Value → Mem → Prop} {Kp : List PanicEntry → Mem → Prop} (h :
bj M (.cells #[(.bool false), (.slice none 0 0)] 120 (0, 0)) fun k1 M2 =>
aV (decide ((x1 : Int) < 0))
 (aO M2 ⟨k1, 0, none⟩ (.bool false) fun M3 =>
 aO M3 ⟨k1, (0 + 1), none⟩ (.slice none 0 0) fun M4 =>
 cD (Mem.ld M4 ⟨k1, 0, none⟩) fun t5 =>
 aD (Mem.ld M4 ⟨k1, (0 + 1), none⟩) fun A6 k7 k8 =>
 K (.agg #[(.bool t5), (.slice A6 k7 k8)]) M4)
 (aD (Mem.ld M2 ⟨b0, (o0 + 4), none⟩) fun A9 eA eB =>
 aV (decide ((x1 : Int) ≥ ((eA : Nat) : Int)))
  (aO M2 ⟨k1, 0, none⟩ (.bool false) fun jH =>
  aO jH ⟨k1, (0 + 1), none⟩ (.slice none 0 0) fun jN =>
  cD (Mem.ld jN ⟨k1, 0, none⟩) fun t14 =>
  aD (Mem.ld jN ⟨k1, (0 + 1), none⟩) fun qt dF eE =>
  K (.agg #[(.bool t14), (.slice qt dF eE)]) jN)
  (aK (Mem.ld M2 ⟨b0, (o0 + 11), none⟩) .i64 fun kq =>
  aV (kq != 0)
   (aO M2 ⟨k1, 0, none⟩ (.bool false) fun hH =>
   aO hH ⟨k1, (0 + 1), none⟩ (.slice none 0 0) fun nx =>
   cD (Mem.ld nx ⟨k1, 0, none⟩) fun t21 =>
   aD (Mem.ld nx ⟨k1, (0 + 1), none⟩) fun Pv iL qF =>
   K (.agg #[(.bool t21), (.slice Pv iL qF)]) nx)
   (aD (Mem.ld M2 ⟨b0, (o0 + 4), none⟩) fun Jx lC oh =>
   ((0 : Int) ≤ x1) ∧
   ((x1 : Int) < ((lC : Nat) : Int)) ∧
   aI Jx fun lg jZ =>
   bL (Mem.ld M2 ⟨lg, (jZ + (Int.toNat x1)), none⟩) fun Fh =>
   aI Fh fun nA tw =>
   aK (Mem.ld M2 ⟨nA, tw, none⟩) .i64 fun kY =>
   aV (kY != 1)
    (aO M2 ⟨k1, 0, none⟩ (.bool false) fun lY =>
    aO lY ⟨k1, (0 + 1), none⟩ (.slice none 0 0) fun qu =>
    cD (Mem.ld qu ⟨k1, 0, none⟩) fun t36 =>
    aD (Mem.ld qu ⟨k1, (0 + 1), none⟩) fun KY gL vn =>
    K (.agg #[(.bool t36), (.slice KY gL vn)]) qu)
    (aO M2 ⟨b0, (o0 + 13), none⟩ (.slice none 0 0) fun Pw =>
    Aw u2 <|
    aO Pw ⟨b0, (o0 + 14), none⟩ u2 fun wZ =>
    ae Tryz.prog 88 #[(.pointer (some ⟨b0, o0, none⟩)), (.int .i64 x1)] wZ (fun V7 tZ =>
    cD (some V7) fun t44 =>
    aV (!t44)
     (aK (Mem.ld tZ ⟨b0, (o0 + 11), none⟩) .i64 fun uN =>
     aV (uN == 0)
      (aD (Mem.ld tZ ⟨b0, (o0 + 4), none⟩) fun A46 KS Bb =>
      ((0 : Int) ≤ x1) ∧
      ((x1 : Int) < ((KS : Nat) : Int)) ∧
      aI A46 fun Ga yh =>
      bL (Mem.ld tZ ⟨Ga, (yh + (Int.toNat x1)), none⟩) fun SK =>
      aI SK fun kj jI =>
      aK (Mem.ld tZ ⟨kj, jI, none⟩) .i64 fun Xm =>
      aD (Mem.ld tZ ⟨b0, (o0 + 13), none⟩) fun S7 KZ rZ =>
      aO tZ ⟨k1, 0, none⟩ (.bool (Xm == 1)) fun Gc =>
      aO Gc ⟨k1, (0 + 1), none⟩ (.slice S7 KZ rZ) fun xD =>
      cD (Mem.ld xD ⟨k1, 0, none⟩) fun t60 =>
      aD (Mem.ld xD ⟨k1, (0 + 1), none⟩) fun Xo Pz ON =>
      K (.agg #[(.bool t60), (.slice Xo Pz ON)]) xD)
      (aD (Mem.ld tZ ⟨b0, (o0 + 13), none⟩) fun A64 V8 Fk =>
      aO tZ ⟨k1, 0, none⟩ (.bool false) fun KV =>
      aO KV ⟨k1, (0 + 1), none⟩ (.slice A64 V8 Fk) fun Mg =>
      cD (Mem.ld Mg ⟨k1, 0, none⟩) fun t69 =>
      aD (Mem.ld Mg ⟨k1, (0 + 1), none⟩) fun Zm JI Ic =>
      K (.agg #[(.bool t69), (.slice Zm JI Ic)]) Mg))
     (aD (Mem.ld tZ ⟨b0, (o0 + 13), none⟩) fun A73 Ry V9 =>
     aO tZ ⟨k1, 0, none⟩ (.bool false) fun M76 =>
     aO M76 ⟨k1, (0 + 1), none⟩ (.slice A73 Ry V9) fun Mw =>
     cD (Mem.ld Mw ⟨k1, 0, none⟩) fun t78 =>
     aD (Mem.ld Mw ⟨k1, (0 + 1), none⟩) fun S9 Ie Ta =>
     K (.agg #[(.bool t78), (.slice S9 Ie Ta)]) Mw)) Kp))))) :
 ae Tryz.prog 41 ([.pointer (some ⟨b0, o0, none⟩), .int .i64 x1, u2] : List Value).toArray M K Kp :=
 aA (C := Cx) good [(5, .bS [0, 1, 3, 7, 15, 31, 63, 127, 255, 511, 1023, 2047, 4095, 8191, 1023, 32767, 65535, 131071, 262143, 524287, 1048575, 2097151, 0, 4194304, 12582912, 29360128, 67108863, 134217727] (.step 0 (.step 1 (.step 2 (.step 3 (.step 4 (.step 5 (.step 22 (.step 23 (.step 24 (.step 6 (.step 7 (.step 8 (.step 9 (.step 10 (.step 11 (.step 12 (.step 14 (.step 13 (.step 15 (.step 16 (.step 17 (.step 18 (.step 19 (.step 20 (.step 21 (.step 25 (.step 26 (.step 27 .done)))))))))))))))))))))))))))))] Tryz.func41 (by kernel_rfl) (by kernel_rfl) h
end Go.Proofs
namespace Go.Proofs
open Go.AF
set_option maxRecDepth 100000
theorem pI {b0 o0 : Nat} {M : Mem} {K : Value → Mem → Prop} {Kp : List PanicEntry → Mem → Prop} (h :
aK (Mem.ld M ⟨b0, (o0 + 11), none⟩) .i64 fun n1 =>
aV (n1 != 0)
 (K (.bool false) M)
 (aD (Mem.ld M ⟨b0, (o0 + 4), none⟩) fun A2 k3 k4 =>
 ∃ I5 : Nat → List Value → Mem → Prop, (∃ k6 : Nat, I5 k6 [(.int .i64 0)] M) ∧
 ∀ k7 : Nat, ∀ junk8 : Nat → Value, ∀ n9 : Int, ∀ gS : Mem, (I5 k7 [(.int .i64 n9)] gS) → aV (decide ((n9 : Int) < ((k3 : Nat) : Int)))
  (((0 : Int) ≤ n9) ∧
  ((n9 : Int) < ((k3 : Nat) : Int)) ∧
  aI A2 fun eB fK =>
  bL (Mem.ld gS ⟨eB, (fK + (Int.toNat n9)), none⟩) fun KP =>
  aI KP fun fX fT =>
  aK (Mem.ld gS ⟨fX, fT, none⟩) .i64 fun mz =>
  aV (mz == 1)
   (K (.bool false) gS)
   (aI KP fun eE dS =>
   aK (Mem.ld gS ⟨eE, dS, none⟩) .i64 fun wq =>
   aV (wq == 3)
    (K (.bool false) gS)
    (∃ ig : Nat, (ig < k7) ∧
    I5 ig [(.int .i64 (IntKind.wrap .i64 (n9 + 1)))] gS)))
  (K (.bool true) gS))) :
 ae Tryz.prog 44 ([.pointer (some ⟨b0, o0, none⟩)] : List Value).toArray M K Kp :=
 aA (C := Cx) good [(2000000, .loop [(15, .c (.int .i64))])] Tryz.func44 (by kernel_rfl) (by kernel_rfl) h
end Go.Proofs
namespace Go.Proofs
open Go.AF
set_option maxRecDepth 100000
variable {M : Mem} {K : Value → Mem → Prop} {Kp : List PanicEntry → Mem → Prop}
theorem vo {B0 : Option Addr} {m0 c0 : Nat} (h :
bj M (.cells #[] 36 (0, 0)) fun k1 M2 =>
aS Tryz.prog (Go.Builtin.append_ #[35, 35] 35 #[(.slice (some ⟨k1, 0, none⟩) 0 0), (.slice B0 m0 c0)]) M2 (fun v3 M4 =>
aD (some v3) fun A5 k6 k7 =>
bj M4 (.cells #[(.slice A5 k6 k7), (iV 0)] 147 (0, 0)) fun k8 M9 =>
bj M9 (.cells #[(.func (.func 54) #[(.pointer (some ⟨k8, 0, none⟩))] #[]), (.func (.func 55) #[(.pointer (some ⟨k8, 0, none⟩))] #[]), (.slice none 0 0), .nilFunc] 151 (0, 0)) fun eA iq =>
K (.pointer (some ⟨eA, 0, none⟩)) iq) Kp) :
 ae Tryz.prog 17 ([.slice B0 m0 c0] : List Value).toArray M K Kp :=
 aA (C := Cx) good [] Tryz.func17 (by kernel_rfl) (by kernel_rfl) h
theorem oB {b0 o0 : Nat} {x1 : Int} {x2 : Int} (h :
rI M b0 (o0 + 1) fun n1 =>
rS M b0 o0 fun A2 k3 k4 =>
aV (decide ((n1 : Int) ≥ ((k3 : Nat) : Int)))
 (Kp [{ v := (.iface 227 (.agg #[])), recovered := false }] M)
 (rI M b0 (o0 + 1) fun n5 =>
 sT M b0 (o0 + 1) (iV (IntKind.wrap .i64 (n5 + 1))) fun M6 =>
 rS M6 b0 o0 fun A7 k8 k9 =>
 rI M6 b0 (o0 + 1) fun jP =>
 ((0 : Int) ≤ (IntKind.wrap .i64 (jP - 1))) ∧
 (((IntKind.wrap .i64 (jP - 1)) : Int) < ((k8 : Nat) : Int)) ∧
 aI A7 fun eB fK =>
 aK (Mem.ld M6 ⟨eB, (fK + (Int.toNat (IntKind.wrap .i64 (jP - 1)))), none⟩) .u64 fun jg =>
 (((IntKind.wrap .u64 x2) : Int) ≠ 0) ∧
 K (.int .u64 (Int.tmod jg (IntKind.wrap .u64 x2))) M6)) :
 ae Tryz.prog 54 ([.pointer (some ⟨b0, o0, none⟩), .int .i64 x1, .int .i64 x2] : List Value).toArray M K Kp :=
 aA (C := Cx) good [(1, .bS [0, 1, 3, 7, 0, 16, 48, 112, 240, 511] (.step 0 (.step 1 (.step 2 (.step 4 (.step 5 (.step 6 (.step 3 (.step 7 (.step 8 (.step 9 .done))))))))))), (4, .bS [0, 1, 3, 7, 0, 16, 48, 112, 240, 511, 1023, 0, 2048, 8191, 16383] (.step 0 (.step 1 (.step 2 (.step 4 (.step 5 (.step 6 (.step 11 (.step 12 (.step 3 (.step 7 (.step 8 (.step 9 (.step 10 (.step 13 (.step 14 .done))))))))))))))))] Tryz.func54 (by kernel_rfl) (by kernel_rfl) h
theorem w9 {u0 : Value} (h :
bj M (.cells #[(iV 0), (iV 0), (iV 0), (iV 0), (.int .u64 0)] 155 (0, 0)) fun k1 M2 =>
bj M2 (.cells #[(iV 0)] 3 (0, 0)) fun k3 M4 =>
bj M4 (.cells #[(iV 0), (iV 0), (iV 0), (iV 0), (.int .u64 0)] 155 (0, 0)) fun k5 M6 =>
sT M6 k3 0 (iV 0) fun M7 =>
sT M7 k5 0 (iV 0) fun M8 =>
sT M8 k5 1 (iV 0) fun M9 =>
sT M9 k5 2 (iV 0) fun gS =>
sT gS k5 3 (iV 0) fun iq =>
sT iq k5 4 (.int .u64 0) fun jH =>
ae Tryz.prog 104 #[u0, (.pointer (some ⟨k3, 0, none⟩)), (.pointer (some ⟨k5, 0, none⟩))] jH (fun Py ik =>
(Py = (.tuple #[])) ∧
rI ik k3 0 fun jY =>
rI ik k5 0 fun mz =>
rI ik k5 1 fun hU =>
rI ik k5 2 fun kq =>
rI ik k5 3 fun wq =>
aK (Mem.ld ik ⟨k5, 4, none⟩) .u64 fun fq =>
sT ik k1 0 (iV mz) fun iP =>
sT iP k1 1 (iV hU) fun cR =>
sT cR k1 2 (iV kq) fun kL =>
sT kL k1 3 (iV wq) fun ie =>
sT ie k1 4 (.int .u64 fq) fun AX =>
rI AX k1 0 fun ov =>
rI AX k1 1 fun xA =>
rI AX k1 2 fun wm =>
rI AX k1 3 fun wA =>
aK (Mem.ld AX ⟨k1, 4, none⟩) .u64 fun Gb =>
K (.tuple #[(iV jY), (.agg #[(iV ov), (iV xA), (iV wm), (iV wA), (.int .u64 Gb)])]) AX) Kp) :
 ae Tryz.prog 56 ([u0] : List Value).toArray M K Kp :=
 aA (C := Cx) good [(3, .bS [0, 0, 1, 7] (.step 0 (.step 2 (.step 1 (.step 3 .done)))))] Tryz.func56 (by kernel_rfl) (by kernel_rfl) h
theorem rh {b0 o0 : Nat} {x1 : Int} {x2 : Int} (h :
rI M b0 (o0 + 1) fun n1 =>
rS M b0 o0 fun A2 k3 k4 =>
aV (decide ((n1 : Int) ≥ ((k3 : Nat) : Int)))
 (Kp [{ v := (.iface 227 (.agg #[])), recovered := false }] M)
 (rS M b0 o0 fun A5 k6 k7 =>
 rI M b0 (o0 + 1) fun n8 =>
 ((0 : Int) ≤ n8) ∧
 ((n8 : Int) < ((k6 : Nat) : Int)) ∧
 aI A5 fun k9 eA =>
 rI M k9 (eA + ((Int.toNat n8) * 2)) fun fu =>
 aK (Mem.ld M ⟨k9, ((eA + ((Int.toNat n8) * 2)) + 1), none⟩) .u64 fun jf =>
 bj M (.cells #[(iV 0), (.int .u64 0)] 153 (0, 0)) fun c7 ik =>
 sT ik c7 0 (iV fu) fun nX =>
 sT nX c7 1 (.int .u64 jf) fun eT =>
 rI eT c7 0 fun hU =>
 aV (hU != x1)
 (rI eT b0 (o0 + 1) fun kq =>
 rI eT c7 0 fun wq =>
 aK (Mem.ld eT ⟨c7, 1, none⟩) .u64 fun fq =>
 Kp [{ v := (.iface 155 (.agg #[(iV kq), (iV x1), (iV x2), (iV wq), (.int .u64 fq)])), recovered := false }] eT)
 (aK (Mem.ld eT ⟨c7, 1, none⟩) .u64 fun nw =>
 aV (decide ((nw : Int) ≥ (IntKind.wrap .u64 x2)))
 (rI eT b0 (o0 + 1) fun rU =>
 rI eT c7 0 fun nB =>
 aK (Mem.ld eT ⟨c7, 1, none⟩) .u64 fun wY =>
 Kp [{ v := (.iface 155 (.agg #[(iV rU), (iV x1), (iV x2), (iV nB), (.int .u64 wY)])), recovered := false }] eT)
 (rI eT b0 (o0 + 1) fun lZ =>
 sT eT b0 (o0 + 1) (iV (IntKind.wrap .i64 (lZ + 1))) fun wj =>
 aK (Mem.ld wj ⟨c7, 1, none⟩) .u64 fun xA =>
 K (.int .u64 xA) wj)))) :
 ae Tryz.prog 66 ([.pointer (some ⟨b0, o0, none⟩), .int .i64 x1, .int .i64 x2] : List Value).toArray M K Kp :=
 aA (C := Cx) good [(1, .bS [0, 1, 3, 7, 0, 16, 48, 112, 240, 511] (.step 0 (.step 1 (.step 2 (.step 4 (.step 5 (.step 6 (.step 3 (.step 7 (.step 8 (.step 9 .done))))))))))), (3, .bS [0, 1, 3, 7, 0, 16, 48, 112, 255, 511, 0, 2047] (.step 0 (.step 1 (.step 2 (.step 4 (.step 5 (.step 6 (.step 3 (.step 7 (.step 8 (.step 9 (.step 10 (.step 11 .done))))))))))))), (5, .bS [0, 1, 3, 7, 0, 0, 0, 127, 255, 511] (.step 0 (.step 1 (.step 2 (.step 4 (.step 5 (.step 3 (.step 6 (.step 7 (.step 8 (.step 9 .done)))))))))))] Tryz.func66 (by kernel_rfl) (by kernel_rfl) h
theorem oC {b0 o0 : Nat} {x1 : Int} {x2 : Int} (h :
fx (Mem.ld M ⟨b0, o0, none⟩) fun v1 =>
iu Cx v1 [(iV x1), (iV (if (1 : Int) > x2 then 1 else x2))] M (fun v2 M3 =>
aK (some v2) .u64 fun n4 =>
bj M3 (.cells #[(iV 0), (.int .u64 0)] 153 (0, 0)) fun k5 M6 =>
sT M6 k5 0 (iV x1) fun M7 =>
sT M7 k5 1 (.int .u64 n4) fun M8 =>
rS M8 b0 (o0 + 2) fun A9 eA eB =>
rI M8 k5 0 fun jf =>
aK (Mem.ld M8 ⟨k5, 1, none⟩) .u64 fun jg =>
bj M8 (.cells #[(iV jf), (.int .u64 jg)] 153 (0, 0)) fun fX nX =>
aS Tryz.prog (Go.Builtin.append_ #[97, 97] 97 #[(.slice A9 eA eB), (.slice (some ⟨fX, 0, none⟩) 1 1)]) nX (fun Pr jO =>
aD (some Pr) fun Ib iO ig =>
sT jO b0 (o0 + 2) (.slice Ib iO ig) fun iP =>
fx (Mem.ld iP ⟨b0, (o0 + 3), none⟩) fun F1 =>
HD F1 fun t23 =>
aV (!t23)
 (fx (Mem.ld iP ⟨b0, (o0 + 3), none⟩) fun SZ =>
 rI iP k5 0 fun lZ =>
 aK (Mem.ld iP ⟨k5, 1, none⟩) .u64 fun ov =>
 iu Cx SZ [(.agg #[(iV lZ), (.int .u64 ov)])] iP (fun Ml yg =>
 (Ml = (.tuple #[])) ∧
 aK (Mem.ld yg ⟨k5, 1, none⟩) .u64 fun wA =>
 K (iV (IntKind.wrap .i64 wA)) yg) Kp)
 (aK (Mem.ld iP ⟨k5, 1, none⟩) .u64 fun Gb =>
 K (iV (IntKind.wrap .i64 Gb)) iP)) Kp) Kp) :
 ae Tryz.prog 98 ([.pointer (some ⟨b0, o0, none⟩), .int .i64 x1, .int .i64 x2] : List Value).toArray M K Kp :=
 aA (C := Cx) good [(2, .bS [0, 0, 2, 6, 14, 0, 32, 126, 255, 511, 1023] (.step 0 (.step 1 (.step 2 (.step 3 (.step 4 (.step 5 (.step 6 (.step 7 (.step 8 (.step 9 (.step 10 .done)))))))))))), (4, .bS [0, 1, 3, 7, 0, 31] (.step 0 (.step 1 (.step 2 (.step 3 (.step 4 (.step 5 .done)))))))] Tryz.func98 (by kernel_rfl) (by kernel_rfl) h
end Go.Proofs
namespace Go.Proofs
open Go.AF
set_option maxRecDepth 100000
variable {M : Mem} {K : Value → Mem → Prop} {Kp : List PanicEntry → Mem → Prop}
theorem Cv {x0 : Int} (h :
ae Tryz.prog 103 #[(iV x0)] M (fun v1 M2 =>
bL (some v1) fun A3 =>
bj M2 (.cells #[(iV (-1)), (.pointer A3)] 224 (0, 0)) fun k4 M5 =>
K (.pointer (some ⟨k4, 0, none⟩)) M5) Kp) :
 ae Tryz.prog 52 ([.int .i64 x0] : List Value).toArray M K Kp :=
 aA (C := Cx) good [] Tryz.func52 (by kernel_rfl) (by kernel_rfl) h
theorem ri {b0 o0 : Nat} {B1 : Option Addr} {m1 c1 : Nat} (h :
aD (Mem.ld M ⟨b0, o0, none⟩) fun A1 k2 k3 =>
aS Tryz.prog (Go.Builtin.append_ #[38, 38] 38 #[(.slice A1 k2 k3), (.slice B1 m1 c1)]) M (fun v4 M5 =>
aD (some v4) fun A6 k7 k8 =>
aO M5 ⟨b0, o0, none⟩ (.slice A6 k7 k8) fun M9 =>
K (.tuple #[]) M9) Kp) :
 ae Tryz.prog 53 ([.pointer (some ⟨b0, o0, none⟩), .slice B1 m1 c1] : List Value).toArray M K Kp :=
 aA (C := Cx) good [] Tryz.func53 (by kernel_rfl) (by kernel_rfl) h
theorem rj {b0 o0 : Nat} (h :
rI M b0 o0 fun n1 =>
K (iV n1) M) :
 ae Tryz.prog 58 ([.pointer (some ⟨b0, o0, none⟩)] : List Value).toArray M K Kp :=
 aA (C := Cx) good [] Tryz.func58 (by kernel_rfl) (by kernel_rfl) h
theorem rm {b0 o0 : Nat} (h :
bL (Mem.ld M ⟨b0, (o0 + 1), none⟩) fun A1 =>
ae Tryz.prog 105 #[(.pointer A1)] M (fun v2 M3 =>
aD (some v2) fun A4 k5 k6 =>
K (.slice A4 k5 k6) M3) Kp) :
 ae Tryz.prog 59 ([.pointer (some ⟨b0, o0, none⟩)] : List Value).toArray M K Kp :=
 aA (C := Cx) good [] Tryz.func59 (by kernel_rfl) (by kernel_rfl) h
theorem pJ {b0 o0 : Nat} (h :
bj M (.cells #[] 3 (0, 0)) fun k1 M2 =>
aD (Mem.ld M2 ⟨b0, o0, none⟩) fun A3 k4 k5 =>
aS Tryz.prog (Go.Builtin.append_ #[38, 38] 38 #[(.slice (some ⟨k1, 0, none⟩) 0 0), (.slice A3 k4 k5)]) M2 (fun v6 M7 =>
aD (some v6) fun A8 k9 eA =>
K (.slice A8 k9 eA) M7) Kp) :
 ae Tryz.prog 62 ([.pointer (some ⟨b0, o0, none⟩)] : List Value).toArray M K Kp :=
 aA (C := Cx) good [] Tryz.func62 (by kernel_rfl) (by kernel_rfl) h
theorem D7 {x0 : Int} (h :
aS Tryz.prog (Go.Instr.makeSlice 38 (iV (if (1024 : Int) < (if (1 : Int) > x0 then 1 else x0) then 1024 else (if (1 : Int) > x0 then 1 else x0))) (iV (if (1024 : Int) < (if (1 : Int) > x0 then 1 else x0) then 1024 else (if (1 : Int) > x0 then 1 else x0)))) M (fun v1 M2 =>
aD (some v1) fun A3 k4 k5 =>
bj M2 (.cells #[(.slice A3 k4 k5), (iV 0), (iV 0)] 280 (0, 0)) fun k6 M7 =>
K (.pointer (some ⟨k6, 0, none⟩)) M7) Kp) :
 ae Tryz.prog 103 ([.int .i64 x0] : List Value).toArray M K Kp :=
 aA (C := Cx) good [] Tryz.func103 (by kernel_rfl) (by kernel_rfl) h
theorem ue {b0 o0 : Nat} (h :
rI M b0 (o0 + 2) fun n1 =>
∃ I2 : Nat → List Value → Mem → Prop, (∃ k3 : Nat, I2 k3 [(.slice none 0 0), (iV 0)] M) ∧
∀ k4 : Nat, ∀ junk5 : Nat → Value, ∀ A6 : Option Addr, ∀ k7 : Nat, ∀ k8 : Nat, ∀ n9 : Int, ∀ gS : Mem, (I2 k4 [(.slice A6 k7 k8), (iV n9)] gS) → aV (decide ((n9 : Int) < n1))
 (rS gS b0 o0 fun JH fK c7 =>
 rI gS b0 (o0 + 1) fun je =>
 rS gS b0 o0 fun qt dF eE =>
 ((((dF : Nat) : Int) : Int) ≠ 0) ∧
 ((0 : Int) ≤ (Int.tmod (IntKind.wrap .i64 (je + n9)) ((dF : Nat) : Int))) ∧
 (((Int.tmod (IntKind.wrap .i64 (je + n9)) ((dF : Nat) : Int)) : Int) < ((fK : Nat) : Int)) ∧
 aI JH fun dS iO =>
 rI gS dS (iO + (Int.toNat (Int.tmod (IntKind.wrap .i64 (je + n9)) ((dF : Nat) : Int)))) fun fq =>
 bj gS (.cells #[(iV fq)] 3 (0, 0)) fun fa cR =>
 aS Tryz.prog (Go.Builtin.append_ #[38, 38] 38 #[(.slice A6 k7 k8), (.slice (some ⟨fa, 0, none⟩) 1 1)]) cR (fun SR ie =>
 aD (some SR) fun Jx lC oh =>
 ∃ lg : Nat, (lg < k4) ∧
 I2 lg [(.slice Jx lC oh), (iV (IntKind.wrap .i64 (n9 + 1)))] ie) Kp)
 (K (.slice A6 k7 k8) gS)) :
 ae Tryz.prog 105 ([.pointer (some ⟨b0, o0, none⟩)] : List Value).toArray M K Kp :=
 aA (C := Cx) good [(2000000, .loop [(3, .c .sl), (9, .c (.int .i64))]), (5, .bS [0, 0, 2, 6, 14, 0, 32, 96, 224, 0, 992, 0, 2048, 6144, 14336, 30720, 65504, 131070, 262142, 524286, 1048575, 2097151] (.step 0 (.step 1 (.step 2 (.step 3 (.step 5 (.step 6 (.step 7 (.step 9 (.step 11 (.step 12 (.step 13 (.step 4 (.step 8 (.step 10 (.step 14 (.step 15 (.step 16 (.step 17 (.step 18 (.step 19 (.step 20 (.step 21 .done)))))))))))))))))))))))] Tryz.func105 (by kernel_rfl) (by kernel_rfl) h
theorem rq {x0 : Int} (h :
bj M (.cells #[(iV 0), (.slice none 0 0), (iV 0)] 209 (0, 0)) fun k1 M2 =>
sT M2 k1 0 (iV (-1)) fun M3 =>
sT M3 k1 1 (.slice none 0 0) fun M4 =>
sT M4 k1 2 (iV (if ((if (1024 : Int) < x0 then 1024 else x0) : Int) > 1 then (if (1024 : Int) < x0 then 1024 else x0) else 1)) fun M5 =>
rI M5 k1 0 fun n6 =>
rS M5 k1 1 fun A7 k8 k9 =>
rI M5 k1 2 fun jP =>
K (.agg #[(iV n6), (.slice A7 k8 k9), (iV jP)]) M5) :
 ae Tryz.prog 107 ([.int .i64 x0] : List Value).toArray M K Kp :=
 aA (C := Cx) good [] Tryz.func107 (by kernel_rfl) (by kernel_rfl) h
theorem sQ {b0 o0 : Nat} (h :
rI M b0 o0 fun n1 =>
aV (n1 != (-1))
 (sT M b0 o0 (iV (-1)) fun M2 =>
 K (.tuple #[(iV n1), (.bool true)]) M2)
 (bL (Mem.ld M ⟨b0, (o0 + 1), none⟩) fun A3 =>
 ae Tryz.prog 176 #[(.pointer A3)] M (fun v4 M5 =>
 ∃ n6 : Int, ∃ t7 : Bool, (v4 = (.tuple #[(iV n6), (.bool t7)])) ∧
 aV (!t7)
 (K (.tuple #[(iV (-1)), (.bool false)]) M5)
 (K (.tuple #[(iV n6), (.bool true)]) M5)) Kp)) :
 ae Tryz.prog 131 ([.pointer (some ⟨b0, o0, none⟩)] : List Value).toArray M K Kp :=
 aA (C := Cx) good [] Tryz.func131 (by kernel_rfl) (by kernel_rfl) h
theorem jv {b0 o0 : Nat} {b1 o1 : Nat} (h :
Go.AF.ptrEq M (some ⟨b0, o0, none⟩) (some ⟨b1, o1, none⟩) fun t1 =>
aV t1
 (K (.tuple #[(iV (-1)), (.bool false)]) M)
 (bL (Mem.ld M ⟨b1, (o1 + 1), none⟩) fun A2 =>
 ae Tryz.prog 180 #[(.pointer A2)] M (fun v3 M4 =>
 aK (some v3) .i64 fun n5 =>
 aV (n5 == 0)
 (rI M4 b1 o1 fun n6 =>
 sT M4 b1 o1 (iV (-1)) fun M7 =>
 K (.tuple #[(iV n6), (.bool (n6 != (-1)))]) M7)
 (((2 : Int) ≠ 0) ∧
 bL (Mem.ld M4 ⟨b0, (o0 + 1), none⟩) fun A8 =>
 bL (Mem.ld M4 ⟨b1, (o1 + 1), none⟩) fun A9 =>
 bL (Mem.ld M4 ⟨b0, (o0 + 1), none⟩) fun Db =>
 ae Tryz.prog 182 #[(.pointer A8)] M4 (fun v11 jH =>
 aK (some v11) .i64 fun jg =>
 ((Mem.ld jH ⟨b0, (o0 + 1), none⟩) = (some (.pointer Db))) ∧
 ((Mem.ld jH ⟨b1, (o1 + 1), none⟩) = (some (.pointer A9))) ∧
 ae Tryz.prog 180 #[(.pointer Db)] jH (fun v14 nX =>
 aK (some v14) .i64 fun mz =>
 ((Mem.ld nX ⟨b0, (o0 + 1), none⟩) = (some (.pointer Db))) ∧
 ((Mem.ld nX ⟨b1, (o1 + 1), none⟩) = (some (.pointer A9))) ∧
 ae Tryz.prog 181 #[(.pointer A9), (iV (if ((IntKind.wrap .i64 ((IntKind.wrap .i64 (jg - mz)) + 1)) : Int) < (IntKind.wrap .i64 (n5 - (IntKind.wrap .i64 (Int.tdiv n5 2)))) then (IntKind.wrap .i64 ((IntKind.wrap .i64 (jg - mz)) + 1)) else (IntKind.wrap .i64 (n5 - (IntKind.wrap .i64 (Int.tdiv n5 2))))))] nX (fun S1 mC =>
 aD (some S1) fun zH ig fa =>
 ((Mem.ld mC ⟨b0, (o0 + 1), none⟩) = (some (.pointer Db))) ∧
 ((Mem.ld mC ⟨b1, (o1 + 1), none⟩) = (some (.pointer A9))) ∧
 ((0 : Int) ≤ ((fa : Nat) : Int)) ∧
 ((((fa : Nat) : Int) : Int) ≤ ((fa : Nat) : Int)) ∧
 ((0 : Int) ≤ ((ig : Nat) : Int)) ∧
 ((((ig : Nat) : Int) : Int) ≤ ((fa : Nat) : Int)) ∧
 ((0 : Int) ≤ 1) ∧
 ((1 : Int) ≤ ((ig : Nat) : Int)) ∧
 ∃ I22 : Nat → List Value → Mem → Prop, (∃ iL : Nat, I22 iL [(iV 0)] mC) ∧
 ∀ qF : Nat, ∀ junk25 : Nat → Value, ∀ ov : Int, ∀ rV : Mem, (I22 qF [(iV ov)] rV) → aV (decide ((ov : Int) < ((((Int.toNat ((ig : Nat) : Int)) - 1) : Nat) : Int)))
 (((0 : Int) ≤ ov) ∧
 ((ov : Int) < ((((Int.toNat ((ig : Nat) : Int)) - 1) : Nat) : Int)) ∧
 aI (lj zH 1 (Int.toNat ((fa : Nat) : Int)) 1) fun lg jZ =>
 rI rV lg (jZ + (Int.toNat ov)) fun Gb =>
 bL (Mem.ld rV ⟨b0, (o0 + 1), none⟩) fun Pq =>
 ae Tryz.prog 183 #[(.pointer Pq), (iV Gb)] rV (fun v32 tT =>
 cD (some v32) fun t34 =>
 ∃ sA : Nat, (sA < qF) ∧
 I22 sA [(iV (IntKind.wrap .i64 (ov + 1)))] tT) Kp)
 (((0 : Int) ≤ 0) ∧
 ((0 : Int) < ((ig : Nat) : Int)) ∧
 aI zH fun De wC =>
 rI rV De (wC + 0) fun Jw =>
 K (.tuple #[(iV Jw), (.bool true)]) rV)) Kp) Kp) Kp)) Kp)) :
 ae Tryz.prog 133 ([.pointer (some ⟨b0, o0, none⟩), .pointer (some ⟨b1, o1, none⟩)] : List Value).toArray M K Kp :=
 aA (C := Cx) good [(8, .bS [0, 1, 3, 7, 0, 0, 32, 112, 0, 256, 768, 1792, 3840, 0, 8192, 24576, 57344, 130816, 261888, 524032, 1048560, 2097151, 4194303] (.step 0 (.step 1 (.step 2 (.step 4 (.step 5 (.step 6 (.step 7 (.step 8 (.step 9 (.step 10 (.step 13 (.step 14 (.step 15 (.step 11 (.dx 3 (.dx 16 (.step 12 (.step 17 (.step 18 (.step 19 (.step 20 (.step 21 (.step 22 .done)))))))))))))))))))))))), (2000000, .loop [(56, .c (.int .i64))])] Tryz.func133 (by kernel_rfl) (by kernel_rfl) h
theorem pK {b0 o0 : Nat} {x1 : Int} {b2 o2 : Nat} (h :
rI M b0 o0 fun n1 =>
sT M b0 o0 (iV x1) fun M2 =>
aV (n1 == (-1))
 (K (iV 0) M2)
 (ae Tryz.prog 184 #[(.pointer (some ⟨b0, o0, none⟩)), (iV n1), (.pointer (some ⟨b2, o2, none⟩))] M2 (fun v3 M4 =>
 aK (some v3) .i64 fun n5 =>
 K (iV n5) M4) Kp)) :
 ae Tryz.prog 134 ([.pointer (some ⟨b0, o0, none⟩), .int .i64 x1, .pointer (some ⟨b2, o2, none⟩)] : List Value).toArray M K Kp :=
 aA (C := Cx) good [] Tryz.func134 (by kernel_rfl) (by kernel_rfl) h
theorem vp {b0 o0 : Nat} (h :
rI M b0 (o0 + 2) fun n1 =>
aV (n1 == 0)
 (K (.tuple #[(iV 0), (.bool false)]) M)
 (rS M b0 o0 fun A2 k3 k4 =>
 rI M b0 (o0 + 1) fun n5 =>
 ((0 : Int) ≤ n5) ∧
 ((n5 : Int) < ((k3 : Nat) : Int)) ∧
 aI A2 fun k6 k7 =>
 rI M k6 (k7 + (Int.toNat n5)) fun n8 =>
 rI M b0 (o0 + 1) fun n9 =>
 rS M b0 o0 fun Db eB fK =>
 ((((eB : Nat) : Int) : Int) ≠ 0) ∧
 sT M b0 (o0 + 1) (iV (Int.tmod (IntKind.wrap .i64 (n9 + 1)) ((eB : Nat) : Int))) fun jN =>
 rI jN b0 (o0 + 2) fun je =>
 sT jN b0 (o0 + 2) (iV (IntKind.wrap .i64 (je - 1))) fun nX =>
 K (.tuple #[(iV n8), (.bool true)]) nX)) :
 ae Tryz.prog 176 ([.pointer (some ⟨b0, o0, none⟩)] : List Value).toArray M K Kp :=
 aA (C := Cx) good [(3, .bS [0, 1, 3, 7, 0, 16, 48, 112, 255, 511, 1023] (.step 0 (.step 1 (.step 2 (.step 4 (.step 5 (.step 6 (.step 3 (.step 7 (.step 8 (.step 9 (.step 10 .done)))))))))))), (4, .bS [0, 0, 2, 6, 14, 30, 0, 64, 192, 448, 960, 2046, 4095, 8191, 16383] (.step 0 (.step 1 (.step 2 (.step 3 (.step 6 (.step 7 (.step 8 (.step 4 (.step 5 (.step 9 (.step 10 (.step 11 (.step 12 (.step 13 (.step 14 .done))))))))))))))))] Tryz.func176 (by kernel_rfl) (by kernel_rfl) h
theorem ru {b0 o0 : Nat} {b1 o1 : Nat} (h :
rI M b0 o0 fun n1 =>
aV (n1 == (-1))
 (K (iV 0) M)
 (sT M b0 o0 (iV (-1)) fun M2 =>
 ae Tryz.prog 184 #[(.pointer (some ⟨b0, o0, none⟩)), (iV n1), (.pointer (some ⟨b1, o1, none⟩))] M2 (fun v3 M4 =>
 aK (some v3) .i64 fun n5 =>
 K (iV n5) M4) Kp)) :
 ae Tryz.prog 177 ([.pointer (some ⟨b0, o0, none⟩), .pointer (some ⟨b1, o1, none⟩)] : List Value).toArray M K Kp :=
 aA (C := Cx) good [] Tryz.func177 (by kernel_rfl) (by kernel_rfl) h
theorem pL {b0 o0 : Nat} {x1 : Int} (h :
aD (Mem.ld M ⟨b0, o0, none⟩) fun A1 k2 k3 =>
bj M (.cells #[] 3 (0, 0)) fun k4 M5 =>
aD (Mem.ld M5 ⟨b0, o0, none⟩) fun A6 k7 k8 =>
((0 : Int) ≤ ((k8 : Nat) : Int)) ∧
((((k8 : Nat) : Int) : Int) ≤ ((k8 : Nat) : Int)) ∧
((0 : Int) ≤ (if (((k2 : Nat) : Int) : Int) < (if (0 : Int) > x1 then 0 else x1) then ((k2 : Nat) : Int) else (if (0 : Int) > x1 then 0 else x1))) ∧
(((if (((k2 : Nat) : Int) : Int) < (if (0 : Int) > x1 then 0 else x1) then ((k2 : Nat) : Int) else (if (0 : Int) > x1 then 0 else x1)) : Int) ≤ ((k8 : Nat) : Int)) ∧
((0 : Int) ≤ 0) ∧
((0 : Int) ≤ (if (((k2 : Nat) : Int) : Int) < (if (0 : Int) > x1 then 0 else x1) then ((k2 : Nat) : Int) else (if (0 : Int) > x1 then 0 else x1))) ∧
aS Tryz.prog (Go.Builtin.append_ #[38, 38] 38 #[(.slice (some ⟨k4, 0, none⟩) 0 0), (.slice (lj A6 0 (Int.toNat ((k8 : Nat) : Int)) 1) ((Int.toNat (if (((k2 : Nat) : Int) : Int) < (if (0 : Int) > x1 then 0 else x1) then ((k2 : Nat) : Int) else (if (0 : Int) > x1 then 0 else x1))) - 0) ((Int.toNat ((k8 : Nat) : Int)) - 0))]) M5 (fun v9 gS =>
aD (some v9) fun JH fK c7 =>
bj gS (.cells #[] 3 (0, 0)) fun fX nX =>
aD (Mem.ld nX ⟨b0, o0, none⟩) fun Rv eE dS =>
((0 : Int) ≤ ((dS : Nat) : Int)) ∧
((((dS : Nat) : Int) : Int) ≤ ((dS : Nat) : Int)) ∧
((0 : Int) ≤ ((eE : Nat) : Int)) ∧
((((eE : Nat) : Int) : Int) ≤ ((dS : Nat) : Int)) ∧
((0 : Int) ≤ (if (((k2 : Nat) : Int) : Int) < (if (0 : Int) > x1 then 0 else x1) then ((k2 : Nat) : Int) else (if (0 : Int) > x1 then 0 else x1))) ∧
(((if (((k2 : Nat) : Int) : Int) < (if (0 : Int) > x1 then 0 else x1) then ((k2 : Nat) : Int) else (if (0 : Int) > x1 then 0 else x1)) : Int) ≤ ((eE : Nat) : Int)) ∧
aS Tryz.prog (Go.Builtin.append_ #[38, 38] 38 #[(.slice (some ⟨fX, 0, none⟩) 0 0), (.slice (lj Rv (Int.toNat (if (((k2 : Nat) : Int) : Int) < (if (0 : Int) > x1 then 0 else x1) then ((k2 : Nat) : Int) else (if (0 : Int) > x1 then 0 else x1))) (Int.toNat ((dS : Nat) : Int)) 1) ((Int.toNat ((eE : Nat) : Int)) - (Int.toNat (if (((k2 : Nat) : Int) : Int) < (if (0 : Int) > x1 then 0 else x1) then ((k2 : Nat) : Int) else (if (0 : Int) > x1 then 0 else x1)))) ((Int.toNat ((dS : Nat) : Int)) - (Int.toNat (if (((k2 : Nat) : Int) : Int) < (if (0 : Int) > x1 then 0 else x1) then ((k2 : Nat) : Int) else (if (0 : Int) > x1 then 0 else x1)))))]) nX (fun Pu nx =>
aD (some Pu) fun Cn gz iL =>
aO nx ⟨b0, o0, none⟩ (.slice Cn gz iL) fun ie =>
K (.slice JH fK c7) ie) Kp) Kp) :
 ae Tryz.prog 178 ([.pointer (some ⟨b0, o0, none⟩), .int .i64 x1] : List Value).toArray M K Kp :=
 aA (C := Cx) good [] Tryz.func178 (by kernel_rfl) (by kernel_rfl) h
theorem pM {b0 o0 : Nat} {b1 o1 : Nat} {x2 : Int} (h :
bL (Mem.ld M ⟨b0, (o0 + 1), none⟩) fun A1 =>
bL (Mem.ld M ⟨b0, (o0 + 1), none⟩) fun A2 =>
ae Tryz.prog 217 #[(.pointer (some ⟨b1, o1, none⟩))] M (fun v3 M4 =>
aK (some v3) .i64 fun n5 =>
((Mem.ld M4 ⟨b0, (o0 + 1), none⟩) = (some (.pointer A2))) ∧
((Mem.ld M4 ⟨b0, (o0 + 1), none⟩) = (some (.pointer A1))) ∧
(((if (1 : Int) > x2 then 1 else x2) : Int) ≠ 0) ∧
ae Tryz.prog 182 #[(.pointer A1)] M4 (fun v6 M7 =>
aK (some v6) .i64 fun n8 =>
((Mem.ld M7 ⟨b0, (o0 + 1), none⟩) = (some (.pointer A2))) ∧
((Mem.ld M7 ⟨b0, (o0 + 1), none⟩) = (some (.pointer A1))) ∧
ae Tryz.prog 180 #[(.pointer A2)] M7 (fun v9 gS =>
aK (some v9) .i64 fun fu =>
((Mem.ld gS ⟨b0, (o0 + 1), none⟩) = (some (.pointer A2))) ∧
((Mem.ld gS ⟨b0, (o0 + 1), none⟩) = (some (.pointer A1))) ∧
aV (decide ((x2 : Int) < 1))
 (ae Tryz.prog 178 #[(.pointer (some ⟨b1, o1, none⟩)), (iV 1)] gS (fun Pn jN =>
 aD (some Pn) fun nY fT dF =>
 aV (((fT : Nat) : Int) == 0)
 (K (.tuple #[(iV (-1)), (.bool false)]) jN)
 (((0 : Int) ≤ ((dF : Nat) : Int)) ∧
 ((((dF : Nat) : Int) : Int) ≤ ((dF : Nat) : Int)) ∧
 ((0 : Int) ≤ ((fT : Nat) : Int)) ∧
 ((((fT : Nat) : Int) : Int) ≤ ((dF : Nat) : Int)) ∧
 ((0 : Int) ≤ 1) ∧
 ((1 : Int) ≤ ((fT : Nat) : Int)) ∧
 ∃ I17 : Nat → List Value → Mem → Prop, (∃ dS : Nat, I17 dS [(iV 0)] jN) ∧
 ∀ iO : Nat, ∀ junk20 : Nat → Value, ∀ nw : Int, ∀ cR : Mem, (I17 iO [(iV nw)] cR) → aV (decide ((nw : Int) < ((((Int.toNat ((fT : Nat) : Int)) - 1) : Nat) : Int)))
 (((0 : Int) ≤ nw) ∧
 ((nw : Int) < ((((Int.toNat ((fT : Nat) : Int)) - 1) : Nat) : Int)) ∧
 aI (lj nY 1 (Int.toNat ((dF : Nat) : Int)) 1) fun iL qF =>
 rI cR iL (qF + (Int.toNat nw)) fun lZ =>
 bL (Mem.ld cR ⟨b0, (o0 + 1), none⟩) fun Fl =>
 ae Tryz.prog 183 #[(.pointer Fl), (iV lZ)] cR (fun Ml yg =>
 cD (some Ml) fun t29 =>
 ∃ kZ : Nat, (kZ < iO) ∧
 I17 kZ [(iV (IntKind.wrap .i64 (nw + 1)))] yg) Kp)
 (((0 : Int) ≤ 0) ∧
 ((0 : Int) < ((fT : Nat) : Int)) ∧
 aI nY fun nA tw =>
 rI cR nA (tw + 0) fun kY =>
 K (.tuple #[(iV kY), (.bool true)]) cR))) Kp)
 (ae Tryz.prog 178 #[(.pointer (some ⟨b1, o1, none⟩)), (iV (if ((IntKind.wrap .i64 ((IntKind.wrap .i64 (n8 - fu)) + 1)) : Int) < (IntKind.wrap .i64 ((IntKind.wrap .i64 (Int.tdiv n5 (if (1 : Int) > x2 then 1 else x2))) + 1)) then (IntKind.wrap .i64 ((IntKind.wrap .i64 (n8 - fu)) + 1)) else (IntKind.wrap .i64 ((IntKind.wrap .i64 (Int.tdiv n5 (if (1 : Int) > x2 then 1 else x2))) + 1))))] gS (fun v34 qu =>
 aD (some v34) fun Rw wC gL =>
 aV (((wC : Nat) : Int) == 0)
 (K (.tuple #[(iV (-1)), (.bool false)]) qu)
 (((0 : Int) ≤ ((gL : Nat) : Int)) ∧
 ((((gL : Nat) : Int) : Int) ≤ ((gL : Nat) : Int)) ∧
 ((0 : Int) ≤ ((wC : Nat) : Int)) ∧
 ((((wC : Nat) : Int) : Int) ≤ ((gL : Nat) : Int)) ∧
 ((0 : Int) ≤ 1) ∧
 ((1 : Int) ≤ ((wC : Nat) : Int)) ∧
 ∃ I39 : Nat → List Value → Mem → Prop, (∃ zR : Nat, I39 zR [(iV 0)] qu) ∧
 ∀ Me : Nat, ∀ junk42 : Nat → Value, ∀ Dc : Int, ∀ wD : Mem, (I39 Me [(iV Dc)] wD) → aV (decide ((Dc : Int) < ((((Int.toNat ((wC : Nat) : Int)) - 1) : Nat) : Int)))
 (((0 : Int) ≤ Dc) ∧
 ((Dc : Int) < ((((Int.toNat ((wC : Nat) : Int)) - 1) : Nat) : Int)) ∧
 aI (lj Rw 1 (Int.toNat ((gL : Nat) : Int)) 1) fun KR HW =>
 rI wD KR (HW + (Int.toNat Dc)) fun AV =>
 bL (Mem.ld wD ⟨b0, (o0 + 1), none⟩) fun PE =>
 ae Tryz.prog 183 #[(.pointer PE), (iV AV)] wD (fun HX zE =>
 cD (some HX) fun t51 =>
 ∃ kj : Nat, (kj < Me) ∧
 I39 kj [(iV (IntKind.wrap .i64 (Dc + 1)))] zE) Kp)
 (((0 : Int) ≤ 0) ∧
 ((0 : Int) < ((wC : Nat) : Int)) ∧
 aI Rw fun jI Ck =>
 rI wD jI (Ck + 0) fun n55 =>
 K (.tuple #[(iV n55), (.bool true)]) wD))) Kp)) Kp) Kp) Kp) :
 ae Tryz.prog 179 ([.pointer (some ⟨b0, o0, none⟩), .pointer (some ⟨b1, o1, none⟩), .int .i64 x2] : List Value).toArray M K Kp :=
 aA (C := Cx) good [(1, .bS [0, 1, 0, 4, 15, 31, 0, 64, 192, 448, 963, 0, 2048, 6144, 14336, 32707, 65475, 131011, 262143, 524287] (.step 0 (.step 2 (.step 3 (.step 6 (.step 7 (.step 8 (.step 11 (.step 12 (.step 13 (.dx 9 (.dx 14 (.step 1 (.step 4 (.step 5 (.step 10 (.step 15 (.step 16 (.step 17 (.step 18 (.step 19 .done))))))))))))))))))))), (2000000, .loop [(42, .c (.int .i64))])] Tryz.func179 (by kernel_rfl) (by kernel_rfl) h
theorem vq {b0 o0 : Nat} (h :
rI M b0 (o0 + 2) fun n1 =>
K (iV n1) M) :
 ae Tryz.prog 180 ([.pointer (some ⟨b0, o0, none⟩)] : List Value).toArray M K Kp :=
 aA (C := Cx) good [] Tryz.func180 (by kernel_rfl) (by kernel_rfl) h
theorem uf {b0 o0 : Nat} {x1 : Int} (h :
∃ I1 : Nat → List Value → Mem → Prop, (∃ k2 : Nat, I1 k2 [(.slice none 0 0)] M) ∧
∀ k3 : Nat, ∀ wu : Nat → Value, ∀ A5 : Option Addr, ∀ k6 : Nat, ∀ k7 : Nat, ∀ M8 : Mem, (I1 k3 [(.slice A5 k6 k7)] M8) → aV (decide ((((k6 : Nat) : Int) : Int) < x1))
 (ae Tryz.prog 176 #[(.pointer (some ⟨b0, o0, none⟩))] M8 (fun v9 gS =>
 ∃ fu : Int, ∃ t12 : Bool, (v9 = (.tuple #[(iV fu), (.bool t12)])) ∧
 aV (!t12)
 (K (.slice A5 k6 k7) gS)
 (bj gS (.cells #[(iV fu)] 3 (0, 0)) fun c7 ik =>
 aS Tryz.prog (Go.Builtin.append_ #[38, 38] 38 #[(.slice A5 k6 k7), (.slice (some ⟨c7, 0, none⟩) 1 1)]) ik (fun Co eT =>
 aD (some Co) fun KT dS iO =>
 ∃ ig : Nat, (ig < k3) ∧
 I1 ig [(.slice KT dS iO)] eT) Kp)) Kp)
 (K (.slice A5 k6 k7) M8)) :
 ae Tryz.prog 181 ([.pointer (some ⟨b0, o0, none⟩), .int .i64 x1] : List Value).toArray M K Kp :=
 aA (C := Cx) good [(2000000, .loop [(5, .c .sl)])] Tryz.func181 (by kernel_rfl) (by kernel_rfl) h
theorem ug {b0 o0 : Nat} (h :
rS M b0 o0 fun A1 k2 k3 =>
K (iV ((k2 : Nat) : Int)) M) :
 ae Tryz.prog 182 ([.pointer (some ⟨b0, o0, none⟩)] : List Value).toArray M K Kp :=
 aA (C := Cx) good [] Tryz.func182 (by kernel_rfl) (by kernel_rfl) h
theorem uh {b0 o0 : Nat} {x1 : Int} (h :
rI M b0 (o0 + 2) fun n1 =>
rS M b0 o0 fun A2 k3 k4 =>
aV (n1 == ((k3 : Nat) : Int))
 (K (.bool false) M)
 (rS M b0 o0 fun A5 k6 k7 =>
 rI M b0 (o0 + 1) fun n8 =>
 rI M b0 (o0 + 2) fun n9 =>
 rS M b0 o0 fun Db eB fK =>
 ((((eB : Nat) : Int) : Int) ≠ 0) ∧
 ((0 : Int) ≤ (Int.tmod (IntKind.wrap .i64 (n8 + n9)) ((eB : Nat) : Int))) ∧
 (((Int.tmod (IntKind.wrap .i64 (n8 + n9)) ((eB : Nat) : Int)) : Int) < ((k6 : Nat) : Int)) ∧
 aI A5 fun c7 fX =>
 sT M c7 (fX + (Int.toNat (Int.tmod (IntKind.wrap .i64 (n8 + n9)) ((eB : Nat) : Int)))) (iV x1) fun nX =>
 rI nX b0 (o0 + 2) fun mz =>
 sT nX b0 (o0 + 2) (iV (IntKind.wrap .i64 (mz + 1))) fun jO =>
 K (.bool true) jO)) :
 ae Tryz.prog 183 ([.pointer (some ⟨b0, o0, none⟩), .int .i64 x1] : List Value).toArray M K Kp :=
 aA (C := Cx) good [(1, .bS [0, 1, 3, 7, 0, 16, 48, 112, 240, 511] (.step 0 (.step 1 (.step 2 (.step 4 (.step 5 (.step 6 (.step 3 (.step 7 (.step 8 (.step 9 .done))))))))))), (3, .bS [0, 1, 3, 7, 0, 16, 48, 112, 0, 256, 768, 1792, 4080, 0, 8192, 24576, 57344, 122880, 262128, 0, 1048575, 2097151] (.step 0 (.step 1 (.step 2 (.step 4 (.step 5 (.step 6 (.step 8 (.step 9 (.step 10 (.step 13 (.step 14 (.step 15 (.step 19 (.step 3 (.step 7 (.step 11 (.step 12 (.step 16 (.step 17 (.step 18 (.step 20 (.step 21 .done)))))))))))))))))))))))] Tryz.func183 (by kernel_rfl) (by kernel_rfl) h
theorem sR {b0 o0 : Nat} {x1 : Int} {b2 o2 : Nat} (h :
bL (Mem.ld M ⟨b0, (o0 + 1), none⟩) fun A1 =>
ae Tryz.prog 183 #[(.pointer A1), (iV x1)] M (fun v2 M3 =>
cD (some v2) fun t4 =>
aV t4
 (K (iV 0) M3)
 (bL (Mem.ld M3 ⟨b0, (o0 + 1), none⟩) fun A5 =>
 bL (Mem.ld M3 ⟨b0, (o0 + 1), none⟩) fun A6 =>
 (True) ∧
 ae Tryz.prog 180 #[(.pointer A5)] M3 (fun v7 M8 =>
 aK (some v7) .i64 fun n9 =>
 ((Mem.ld M8 ⟨b0, (o0 + 1), none⟩) = (some (.pointer A6))) ∧
 ((2 : Int) ≠ 0) ∧
 (True) ∧
 ae Tryz.prog 181 #[(.pointer A6), (iV (IntKind.wrap .i64 (Int.tdiv n9 2)))] M8 (fun v10 iq =>
 aD (some v10) fun sB c7 fX =>
 ((Mem.ld iq ⟨b0, (o0 + 1), none⟩) = (some (.pointer A6))) ∧
 bj iq (.cells #[(iV x1)] 3 (0, 0)) fun fT eT =>
 aS Tryz.prog (Go.Builtin.append_ #[38, 38] 38 #[(.slice sB c7 fX), (.slice (some ⟨fT, 0, none⟩) 1 1)]) eT (fun S1 mC =>
 aD (some S1) fun zH ig fa =>
 ((Mem.ld mC ⟨b0, (o0 + 1), none⟩) = (some (.pointer A6))) ∧
 ae Tryz.prog 53 #[(.pointer (some ⟨b2, o2, none⟩)), (.slice zH ig fa)] mC (fun F1 kL =>
 (F1 = (.tuple #[])) ∧
 K (iV ((ig : Nat) : Int)) kL) Kp) Kp) Kp) Kp)) Kp) :
 ae Tryz.prog 184 ([.pointer (some ⟨b0, o0, none⟩), .int .i64 x1, .pointer (some ⟨b2, o2, none⟩)] : List Value).toArray M K Kp :=
 aA (C := Cx) good [(3, .bS [0, 1, 3, 7, 0, 16, 48, 112, 240, 496, 1023, 0, 2048, 8191, 16383] (.step 0 (.step 1 (.step 2 (.step 4 (.step 5 (.step 6 (.step 11 (.step 7 (.dx 3 (.late 8 (.step 9 (.late 10 (.step 12 (.step 13 (.step 14 .done))))))))))))))))] Tryz.func184 (by kernel_rfl) (by kernel_rfl) h
theorem ry {b0 o0 : Nat} (h :
aD (Mem.ld M ⟨b0, o0, none⟩) fun A1 k2 k3 =>
K (.int .i64 ((k2 : Nat) : Int)) M) :
 ae Tryz.prog 217 ([.pointer (some ⟨b0, o0, none⟩)] : List Value).toArray M K Kp :=
 aA (C := Cx) good [] Tryz.func217 (by kernel_rfl) (by kernel_rfl) h
end Go.Proofs
