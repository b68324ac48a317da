/- A part of proofs about one program. -/
import Derived.Scope
import Derived.Test.YtfjgcljdnhkmaaaGreatProg
import Derived.WalkKit
import Derived.Test.YtfjgcljdnhkmaaaGreatZSchedLostBase
import Derived.Test.YtfjgcljdnhkmaaaGreatZSchedLostOps
import Derived.Test.YtfjgcljdnhkmaaaGreatZSchedLostOpsB
import Derived.Test.YtfjgcljdnhkmaaaGreatZSchedLostOpC
import Derived.Test.YtfjgcljdnhkmaaaGreatZSchedLostFrame
import Derived.Test.YtfjgcljdnhkmaaaGreatZSchedLostReg
import Derived.Test.YtfjgcljdnhkmaaaGreatZSchedLostRegB
import Derived.Test.YtfjgcljdnhkmaaaGreatZSchedLostRegL
import Derived.Test.YtfjgcljdnhkmaaaGreatZSchedLostRegC
import Derived.Test.YtfjgcljdnhkmaaaGreatZSchedLostExec
import Derived.Test.YtfjgcljdnhkmaaaGreatZSchedLostSound
import Derived.Test.YtfjgcljdnhkmaaaGreatZSchedLostSoundB
import Derived.Test.YtfjgcljdnhkmaaaGreatZSchedLostLib
import Derived.Test.YtfjgcljdnhkmaaaGreatZSchedLostHp
import Derived.Test.YtfjgcljdnhkmaaaGreatZSchedLostRow
import Derived.Test.YtfjgcljdnhkmaaaGreatZSchedLostBig
import Derived.Test.YtfjgcljdnhkmaaaGreatZSchedLostStC
import Derived.Test.YtfjgcljdnhkmaaaGreatZSchedLostMod
import Derived.Test.YtfjgcljdnhkmaaaGreatZSchedLost0
set_option linter.unusedVariables false
namespace Go.Proofs
open Go.AF
set_option maxRecDepth 100000
variable {M : Mem} {K : Value → Mem → Prop} {Kp : List PanicEntry → Mem → Prop}
theorem Cw {jl : Option Addr} {jm jn : Nat} {jo : Option Addr} {jq jr : Nat} {gn : Int} {js : Option Addr} {jt ju : Nat} {cV : Int} {cW : Int} {cX : Int} {eK : Int} {b2 o2 : Nat} (h :
bj M (.cells #[(.slice jl jm jn), (.slice jo jq jr), (iV gn), (.slice js jt ju)] 41 (0, 0)) fun k1 M2 =>
bj M2 (.cells #[(iV cV), (iV cW), (iV cX), (iV eK)] 26 (0, 0)) fun k3 M4 =>
rS M4 k1 0 fun A5 k6 k7 =>
rS M4 k1 1 fun A8 k9 eA =>
rI M4 k1 2 fun fu =>
rS M4 k1 3 fun sB c7 fX =>
rI M4 k3 0 fun jY =>
rI M4 k3 1 fun mz =>
rI M4 k3 2 fun hU =>
rI M4 k3 3 fun kq =>
ae Tryz.prog 36 #[(.agg #[(.slice A5 k6 k7), (.slice A8 k9 eA), (iV fu), (.slice sB c7 fX)])] M4 (fun Pu nx =>
bL (some Pu) fun Cn =>
((Mem.fy nx ⟨k3, 0, none⟩ 0 4) = some [(iV jY), (iV mz), (iV hU), (iV kq)]) ∧
bj nx (.cells #[(.pointer Cn), (iV jY), (iV mz), (iV hU), (iV kq), (.slice none 0 0), (.slice none 0 0), (.slice none 0 0), (.pointer (some ⟨b2, o2, none⟩)), (iV 0)] 137 (0, 0)) fun gz kL =>
rI kL k3 0 fun wY =>
∃ Tb : Nat → List Value → Mem → Prop, (∃ lC : Nat, Tb lC [(iV 0)] kL) ∧
∀ oh : Nat, ∀ Tc : Nat → Value, ∀ wA : Int, ∀ oe : Mem, (Tb oh [(iV wA)] oe) → aV (decide ((wA : Int) < wY))
 (∃ J31 : List Value → Mem → Prop, (rI oe k3 2 fun n32 =>
 (rS oe gz 5 fun Jy tR sA =>
 ae Tryz.prog 52 #[(iV n32)] oe (fun Zn Cs =>
 bL (some Zn) fun Td =>
 bj Cs (.cells #[(.pointer Td), (iV 0), (iV (-1))] 141 (0, 0)) fun vn Pw =>
 aS Tryz.prog (Go.Builtin.append_ #[132, 132] 132 #[(.slice Jy tR sA), (.slice (some ⟨vn, 0, none⟩) 1 1)]) Pw (fun Wa JG =>
 aD (some Wa) fun A43 Jz KR =>
 sT JG gz 5 (.slice A43 Jz KR) fun wE =>
 J31 [] wE) Kp) Kp) ∧
 (ae Tryz.prog 52 #[(iV n32)] oe (fun Zo Mf =>
 bL (some Zo) fun Te =>
 rS Mf gz 5 fun Tf Bf kj =>
 bj Mf (.cells #[(.pointer Te), (iV 0), (iV (-1))] 141 (0, 0)) fun jI Ci =>
 aS Tryz.prog (Go.Builtin.append_ #[132, 132] 132 #[(.slice Tf Bf kj), (.slice (some ⟨jI, 0, none⟩) 1 1)]) Ci (fun Xa Fg =>
 aD (some Xa) fun A57 DX SO =>
 sT Fg gz 5 (.slice A57 DX SO) fun rW =>
 J31 [] rW) Kp) Kp) ∧
 True) ∧
 ∀ junk61 : Nat → Value, ∀ qv : Mem, (J31 [] qv) → ∃ ON : Nat, (ON < oh) ∧
 Tb ON [(iV (IntKind.wrap .i64 (wA + 1)))] qv)
 (rI oe k3 1 fun n64 =>
 ∃ I65 : Nat → List Value → Mem → Prop, (∃ Fk : Nat, I65 Fk [(iV 0)] oe) ∧
 ∀ w7 : Nat, ∀ junk68 : Nat → Value, ∀ Rz : Int, ∀ zF : Mem, (I65 w7 [(iV Rz)] zF) → aV (decide ((Rz : Int) < n64))
 (rS zF gz 6 fun JK Ic Mx =>
 bj zF (.cells #[(iV (-1)), (iV (-1)), (iV 0)] 143 (0, 0)) fun Ry yz =>
 aS Tryz.prog (Go.Builtin.append_ #[133, 133] 133 #[(.slice JK Ic Mx), (.slice (some ⟨Ry, 0, none⟩) 1 1)]) yz (fun Tg Mw =>
 aD (some Tg) fun Th Fm Ie =>
 sT Mw gz 6 (.slice Th Fm Ie) fun My =>
 ∃ Gd : Nat, (Gd < w7) ∧
 I65 Gd [(iV (IntKind.wrap .i64 (Rz + 1)))] My) Kp)
 (bj zF (.cells #[(iV 0)] 3 (0, 0)) fun vr Dg =>
 ae Tryz.prog 53 #[(.pointer (some ⟨gz, 7, none⟩)), (.slice (some ⟨vr, 0, none⟩) 1 1)] Dg (fun Xq AW =>
 (Xq = (.tuple #[])) ∧
 K (.pointer (some ⟨gz, 0, none⟩)) AW) Kp))) Kp) :
 ae Tryz.prog 16 ([.agg #[.slice jl jm jn, .slice jo jq jr, .int .i64 gn, .slice js jt ju], .agg #[.int .i64 cV, .int .i64 cW, .int .i64 cX, .int .i64 eK], .pointer (some ⟨b2, o2, none⟩)] : List Value).toArray M K Kp :=
 aA (C := Cx) good [(1, .bS [0, 1, 0, 0, 15, 31, 63] (.step 3 (.step 0 (.dx 2 (.step 1 (.step 4 (.step 5 (.step 6 .done)))))))), (2000000, .loop [(16, .c (.int .i64))]), (4, .DK [0, 0, 2, 6, 14, 0, 32, 96, 224, 480, 1022, 2047, 4095, 8191] (.step 0 (.step 1 (.step 2 (.step 3 (.step 5 (.step 6 (.fork 4 (.step 7 (.step 8 (.step 9 (.step 10 (.step 11 (.step 12 (.step 13 .done))))))) (.fork 7 (.step 8 (.step 4 (.step 9 (.step 10 (.step 11 (.step 12 (.step 13 .done))))))) .dead)))))))) []), (2000002, .loop [(34, .c (.int .i64))])] Tryz.func16 (by kernel_rfl) (by kernel_rfl) h
theorem lp {b0 o0 : Nat} (h :
aD (Mem.ld M ⟨b0, (o0 + 5), none⟩) fun A1 k2 k3 =>
∃ I4 : Nat → List Value → Mem → Prop, (∃ k5 : Nat, I4 k5 [(.slice none 0 0), (.int .i64 0)] M) ∧
∀ k6 : Nat, ∀ Rx : Nat → Value, ∀ A8 : Option Addr, ∀ k9 : Nat, ∀ eA : Nat, ∀ fu : Int, ∀ jH : Mem, (I4 k6 [(.slice A8 k9 eA), (.int .i64 fu)] jH) → aV (decide ((fu : Int) < ((k2 : Nat) : Int)))
 (((0 : Int) ≤ fu) ∧
 ((fu : Int) < ((k2 : Nat) : Int)) ∧
 aI A1 fun c7 fX =>
 bL (Mem.ld jH ⟨c7, (fX + ((Int.toNat fu) * 3)), none⟩) fun qt =>
 aK (Mem.ld jH ⟨c7, ((fX + ((Int.toNat fu) * 3)) + 1), none⟩) .i64 fun mz =>
 aK (Mem.ld jH ⟨c7, ((fX + ((Int.toNat fu) * 3)) + 2), none⟩) .i64 fun hU =>
 bj jH (.cells #[(.pointer none), (.int .i64 0), (.int .i64 0)] 141 (0, 0)) fun dS hH =>
 aO hH ⟨dS, 0, none⟩ (.pointer qt) fun nx =>
 aO nx ⟨dS, (0 + 1), none⟩ (.int .i64 mz) fun iP =>
 aO iP ⟨dS, (0 + 2), none⟩ (.int .i64 hU) fun cR =>
 bL (Mem.ld cR ⟨dS, 0, none⟩) fun OL =>
 bL (Mem.ld cR ⟨dS, 0, none⟩) fun F2 =>
 aK (Mem.ld cR ⟨dS, (0 + 1), none⟩) .i64 fun lZ =>
 aK (Mem.ld cR ⟨dS, (0 + 2), none⟩) .i64 fun ov =>
 ae Tryz.prog 58 #[(.pointer OL)] cR (fun Ml yg =>
 aK (some Ml) .i64 fun wA =>
 ((Mem.ld yg ⟨dS, (0 + 2), none⟩) = (some (.int .i64 ov))) ∧
 ((Mem.ld yg ⟨dS, (0 + 1), none⟩) = (some (.int .i64 lZ))) ∧
 ((Mem.ld yg ⟨dS, 0, none⟩) = (some (.pointer F2))) ∧
 ae Tryz.prog 59 #[(.pointer F2)] yg (fun v30 Be =>
 aD (some v30) fun Xr nE tR =>
 ((Mem.ld Be ⟨dS, (0 + 2), none⟩) = (some (.int .i64 ov))) ∧
 ((Mem.ld Be ⟨dS, (0 + 1), none⟩) = (some (.int .i64 lZ))) ∧
 ((Mem.ld Be ⟨dS, 0, none⟩) = (some (.pointer F2))) ∧
 bj Be (.cells #[(.int .i64 wA), (.slice Xr nE tR), (.int .i64 lZ), (.int .i64 ov)] 53 (0, 0)) fun sA oQ =>
 aS Tryz.prog (Go.Builtin.append_ #[50, 50] 50 #[(.slice A8 k9 eA), (.slice (some ⟨sA, 0, none⟩) 1 1)]) oQ (fun Rt jJ =>
 aD (some Rt) fun V2 zR Me =>
 ((Mem.ld jJ ⟨dS, (0 + 2), none⟩) = (some (.int .i64 ov))) ∧
 ((Mem.ld jJ ⟨dS, (0 + 1), none⟩) = (some (.int .i64 lZ))) ∧
 ((Mem.ld jJ ⟨dS, 0, none⟩) = (some (.pointer F2))) ∧
 ∃ KQ : Nat, (KQ < k6) ∧
 I4 KQ [(.slice V2 zR Me), (.int .i64 (IntKind.wrap .i64 (fu + 1)))] jJ) Kp) Kp) Kp)
 (K (.slice A8 k9 eA) jH)) :
 ae Tryz.prog 19 ([.pointer (some ⟨b0, o0, none⟩)] : List Value).toArray M K Kp :=
 aA (C := Cx) good [(2000000, .loop [(3, .c .sl), (11, .c (.int .i64))]), (5, .bS [0, 0, 2, 6, 0, 16, 62, 0, 128, 0, 512, 2046, 4094, 8191, 16383] (.step 0 (.step 1 (.step 4 (.step 7 (.step 9 (.step 2 (.dx 5 (.dx 8 (.dx 10 (.step 3 (.step 6 (.step 11 (.step 12 (.step 13 (.step 14 .done))))))))))))))))] Tryz.func19 (by kernel_rfl) (by kernel_rfl) h
theorem mF {b0 o0 : Nat} (h :
aD (Mem.ld M ⟨b0, (o0 + 6), none⟩) fun A1 k2 k3 =>
∃ I4 : Nat → List Value → Mem → Prop, (∃ k5 : Nat, I4 k5 [(.slice none 0 0), (.int .i64 0)] M) ∧
∀ k6 : Nat, ∀ Rx : Nat → Value, ∀ A8 : Option Addr, ∀ k9 : Nat, ∀ eA : Nat, ∀ fu : Int, ∀ jH : Mem, (I4 k6 [(.slice A8 k9 eA), (.int .i64 fu)] jH) → aV (decide ((fu : Int) < ((k2 : Nat) : Int)))
 (((0 : Int) ≤ fu) ∧
 ((fu : Int) < ((k2 : Nat) : Int)) ∧
 aI A1 fun c7 fX =>
 aK (Mem.ld jH ⟨c7, (fX + ((Int.toNat fu) * 3)), none⟩) .i64 fun jY =>
 aK (Mem.ld jH ⟨c7, ((fX + ((Int.toNat fu) * 3)) + 1), none⟩) .i64 fun mz =>
 aK (Mem.ld jH ⟨c7, ((fX + ((Int.toNat fu) * 3)) + 2), none⟩) .i64 fun hU =>
 bj jH (.cells #[(.int .i64 0), (.int .i64 0), (.int .i64 0)] 143 (0, 0)) fun dS hH =>
 aO hH ⟨dS, 0, none⟩ (.int .i64 jY) fun nx =>
 aO nx ⟨dS, (0 + 1), none⟩ (.int .i64 mz) fun iP =>
 aO iP ⟨dS, (0 + 2), none⟩ (.int .i64 hU) fun cR =>
 aK (Mem.ld cR ⟨dS, 0, none⟩) .i64 fun nB =>
 aK (Mem.ld cR ⟨dS, (0 + 1), none⟩) .i64 fun wY =>
 aK (Mem.ld cR ⟨dS, (0 + 2), none⟩) .i64 fun lZ =>
 bj cR (.cells #[(.int .i64 nB), (.int .i64 wY), (.int .i64 lZ)] 55 (0, 0)) fun lC rV =>
 aS Tryz.prog (Go.Builtin.append_ #[56, 56] 56 #[(.slice A8 k9 eA), (.slice (some ⟨lC, 0, none⟩) 1 1)]) rV (fun Mm lT =>
 aD (some Mm) fun Fh nA tw =>
 ∃ nE : Nat, (nE < k6) ∧
 I4 nE [(.slice Fh nA tw), (.int .i64 (IntKind.wrap .i64 (fu + 1)))] lT) Kp)
 (K (.slice A8 k9 eA) jH)) :
 ae Tryz.prog 20 ([.pointer (some ⟨b0, o0, none⟩)] : List Value).toArray M K Kp :=
 aA (C := Cx) good [(2000000, .loop [(3, .c .sl), (11, .c (.int .i64))])] Tryz.func20 (by kernel_rfl) (by kernel_rfl) h
theorem pN {b0 o0 : Nat} (h :
bL (Mem.ld M ⟨b0, o0, none⟩) fun A1 =>
K (.pointer A1) M) :
 ae Tryz.prog 21 ([.pointer (some ⟨b0, o0, none⟩)] : List Value).toArray M K Kp :=
 aA (C := Cx) good [] Tryz.func21 (by kernel_rfl) (by kernel_rfl) h
theorem oD {b0 o0 : Nat} (h :
bL (Mem.ld M ⟨b0, o0, none⟩) fun A1 =>
ae Tryz.prog 60 #[(.pointer A1)] M (fun v2 M3 =>
∃ n4 : Int, ∃ n5 : Int, (v2 = (.tuple #[(iV n4), (iV n5)])) ∧
aV (n4 == 1)
 (K (iV 1) M3)
 (aV (n4 == 2)
 (K (iV 2) M3)
 (bL (Mem.ld M3 ⟨b0, o0, none⟩) fun A6 =>
 ae Tryz.prog 44 #[(.pointer A6)] M3 (fun v7 M8 =>
 cD (some v7) fun t9 =>
 aV t9
 (K (iV 3) M8)
 (K (iV 0) M8)) Kp))) Kp) :
 ae Tryz.prog 23 ([.pointer (some ⟨b0, o0, none⟩)] : List Value).toArray M K Kp :=
 aA (C := Cx) good [] Tryz.func23 (by kernel_rfl) (by kernel_rfl) h
theorem oE {b0 o0 : Nat} (h :
ae Tryz.prog 62 #[(.pointer (some ⟨b0, (o0 + 7), none⟩))] M (fun v1 M2 =>
aD (some v1) fun A3 k4 k5 =>
K (.slice A3 k4 k5) M2) Kp) :
 ae Tryz.prog 25 ([.pointer (some ⟨b0, o0, none⟩)] : List Value).toArray M K Kp :=
 aA (C := Cx) good [] Tryz.func25 (by kernel_rfl) (by kernel_rfl) h
theorem pO {b0 o0 : Nat} (h :
rI M b0 (o0 + 9) fun n1 =>
K (iV n1) M) :
 ae Tryz.prog 33 ([.pointer (some ⟨b0, o0, none⟩)] : List Value).toArray M K Kp :=
 aA (C := Cx) good [] Tryz.func33 (by kernel_rfl) (by kernel_rfl) h
theorem rz {b0 o0 : Nat} (h :
bj M (.cells #[(.int .i64 0), (.int .i64 0), (.int .i64 0), (.slice none 0 0)] 47 (0, 0)) fun k1 M2 =>
ae Tryz.prog 23 #[(.pointer (some ⟨b0, o0, none⟩))] M2 (fun v3 M4 =>
aK (some v3) .i64 fun n5 =>
aV (n5 != 0)
 (aO M4 ⟨k1, 0, none⟩ (.int .i64 0) fun M6 =>
 aO M6 ⟨k1, (0 + 1), none⟩ (.int .i64 0) fun M7 =>
 aO M7 ⟨k1, (0 + 2), none⟩ (.int .i64 0) fun M8 =>
 aO M8 ⟨k1, (0 + 3), none⟩ (.slice none 0 0) fun M9 =>
 aK (Mem.ld M9 ⟨k1, 0, none⟩) .i64 fun jP =>
 aK (Mem.ld M9 ⟨k1, (0 + 1), none⟩) .i64 fun fu =>
 aK (Mem.ld M9 ⟨k1, (0 + 2), none⟩) .i64 fun jf =>
 aD (Mem.ld M9 ⟨k1, (0 + 3), none⟩) fun KP fX fT =>
 K (.agg #[(.int .i64 jP), (.int .i64 fu), (.int .i64 jf), (.slice KP fX fT)]) M9)
 (bL (Mem.ld M4 ⟨b0, (o0 + 8), none⟩) fun Rv =>
 aK (Mem.ld M4 ⟨b0, ((o0 + 1) + 1), none⟩) .i64 fun hU =>
 ae Tryz.prog 98 #[(.pointer Rv), (.int .i64 1), (.int .i64 (IntKind.wrap .i64 (hU + 1)))] M4 (fun DV hH =>
 aK (some DV) .i64 fun fq =>
 bj hH (.cells #[(.int .i64 0), (.int .i64 0), (.int .i64 0), (.slice none 0 0)] 47 (0, 0)) fun fa cR =>
 aK (Mem.ld cR ⟨b0, ((o0 + 1) + 1), none⟩) .i64 fun nB =>
 aV (fq == nB)
  (ae Tryz.prog 99 #[(.pointer (some ⟨b0, o0, none⟩))] cR (fun SZ AX =>
  ∃ ov : Int, ∃ xA : Int, ∃ wm : Int, ∃ Rp : Option Addr, ∃ kZ : Nat, ∃ nA : Nat, (SZ = (.agg #[(.int .i64 ov), (.int .i64 xA), (.int .i64 wm), (.slice Rp kZ nA)])) ∧
  aO AX ⟨fa, 0, none⟩ (.int .i64 ov) fun mA =>
  aO mA ⟨fa, (0 + 1), none⟩ (.int .i64 xA) fun tT =>
  aO tT ⟨fa, (0 + 2), none⟩ (.int .i64 wm) fun lY =>
  aO lY ⟨fa, (0 + 3), none⟩ (.slice Rp kZ nA) fun qu =>
  aK (Mem.ld qu ⟨b0, (o0 + 9), none⟩) .i64 fun xB =>
  aO qu ⟨b0, (o0 + 9), none⟩ (.int .i64 (IntKind.wrap .i64 (xB + 1))) fun Cs =>
  aK (Mem.ld Cs ⟨fa, 0, none⟩) .i64 fun Jw =>
  aK (Mem.ld Cs ⟨fa, (0 + 1), none⟩) .i64 fun HV =>
  aK (Mem.ld Cs ⟨fa, (0 + 2), none⟩) .i64 fun Ia =>
  aD (Mem.ld Cs ⟨fa, (0 + 3), none⟩) fun S0 KQ nW =>
  aO Cs ⟨k1, 0, none⟩ (.int .i64 Jw) fun wD =>
  aO wD ⟨k1, (0 + 1), none⟩ (.int .i64 HV) fun mW =>
  aO mW ⟨k1, (0 + 2), none⟩ (.int .i64 Ia) fun wE =>
  aO wE ⟨k1, (0 + 3), none⟩ (.slice S0 KQ nW) fun rY =>
  aK (Mem.ld rY ⟨k1, 0, none⟩) .i64 fun zI =>
  aK (Mem.ld rY ⟨k1, (0 + 1), none⟩) .i64 fun Fo =>
  aK (Mem.ld rY ⟨k1, (0 + 2), none⟩) .i64 fun Bc =>
  aD (Mem.ld rY ⟨k1, (0 + 3), none⟩) fun SK kj jI =>
  K (.agg #[(.int .i64 zI), (.int .i64 Fo), (.int .i64 Bc), (.slice SK kj jI)]) rY) Kp)
  (aD (Mem.ld cR ⟨b0, (o0 + 6), none⟩) fun A54 Mu KZ =>
  ((0 : Int) ≤ fq) ∧
  ((fq : Int) < ((Mu : Nat) : Int)) ∧
  aI A54 fun rZ DX =>
  aK (Mem.ld cR ⟨rZ, (DX + ((Int.toNat fq) * 3)), none⟩) .i64 fun Cj =>
  aV (Cj == (-1))
   (ae Tryz.prog 100 #[(.pointer (some ⟨b0, o0, none⟩)), (.int .i64 fq)] cR (fun v60 vf =>
   ∃ KX : Int, ∃ yj : Int, ∃ n64 : Int, ∃ PF : Option Addr, ∃ Fk : Nat, ∃ w7 : Nat, (v60 = (.agg #[(.int .i64 KX), (.int .i64 yj), (.int .i64 n64), (.slice PF Fk w7)])) ∧
   aO vf ⟨fa, 0, none⟩ (.int .i64 KX) fun Mg =>
   aO Mg ⟨fa, (0 + 1), none⟩ (.int .i64 yj) fun Xb =>
   aO Xb ⟨fa, (0 + 2), none⟩ (.int .i64 n64) fun zF =>
   aO zF ⟨fa, (0 + 3), none⟩ (.slice PF Fk w7) fun Dd =>
   aK (Mem.ld Dd ⟨b0, (o0 + 9), none⟩) .i64 fun Xk =>
   aO Dd ⟨b0, (o0 + 9), none⟩ (.int .i64 (IntKind.wrap .i64 (Xk + 1))) fun z0 =>
   aK (Mem.ld z0 ⟨fa, 0, none⟩) .i64 fun Ig =>
   aK (Mem.ld z0 ⟨fa, (0 + 1), none⟩) .i64 fun Mh =>
   aK (Mem.ld z0 ⟨fa, (0 + 2), none⟩) .i64 fun Mi =>
   aD (Mem.ld z0 ⟨fa, (0 + 3), none⟩) fun A77 JJ Fm =>
   aO z0 ⟨k1, 0, none⟩ (.int .i64 Ig) fun xC =>
   aO xC ⟨k1, (0 + 1), none⟩ (.int .i64 Mh) fun My =>
   aO My ⟨k1, (0 + 2), none⟩ (.int .i64 Mi) fun K2 =>
   aO K2 ⟨k1, (0 + 3), none⟩ (.slice A77 JJ Fm) fun Fj =>
   aK (Mem.ld Fj ⟨k1, 0, none⟩) .i64 fun JB =>
   aK (Mem.ld Fj ⟨k1, (0 + 1), none⟩) .i64 fun z8 =>
   aK (Mem.ld Fj ⟨k1, (0 + 2), none⟩) .i64 fun n86 =>
   aD (Mem.ld Fj ⟨k1, (0 + 3), none⟩) fun A87 D6 k89 =>
   K (.agg #[(.int .i64 JB), (.int .i64 z8), (.int .i64 n86), (.slice A87 D6 k89)]) Fj) Kp)
   (aD (Mem.ld cR ⟨b0, (o0 + 6), none⟩) fun Wb PG wF =>
   ((0 : Int) ≤ fq) ∧
   ((fq : Int) < ((PG : Nat) : Int)) ∧
   aI Wb fun Mz PC =>
   aK (Mem.ld cR ⟨Mz, ((PC + ((Int.toNat fq) * 3)) + 1), none⟩) .i64 fun JC =>
   aV (JC == (-1))
    (ae Tryz.prog 101 #[(.pointer (some ⟨b0, o0, none⟩)), (.int .i64 fq)] cR (fun v96 K0 =>
    ∃ V3 : Int, ∃ JL : Int, ∃ tS : Int, ∃ Xs : Option Addr, ∃ Ge : Nat, ∃ j5 : Nat, (v96 = (.agg #[(.int .i64 V3), (.int .i64 JL), (.int .i64 tS), (.slice Xs Ge j5)])) ∧
    aO K0 ⟨fa, 0, none⟩ (.int .i64 V3) fun FZ =>
    aO FZ ⟨fa, (0 + 1), none⟩ (.int .i64 JL) fun mB =>
    aO mB ⟨fa, (0 + 2), none⟩ (.int .i64 tS) fun yl =>
    aO yl ⟨fa, (0 + 3), none⟩ (.slice Xs Ge j5) fun ym =>
    aK (Mem.ld ym ⟨b0, (o0 + 9), none⟩) .i64 fun yA =>
    aO ym ⟨b0, (o0 + 9), none⟩ (.int .i64 (IntKind.wrap .i64 (yA + 1))) fun ny =>
    aK (Mem.ld ny ⟨fa, 0, none⟩) .i64 fun DZ =>
    aK (Mem.ld ny ⟨fa, (0 + 1), none⟩) .i64 fun Ti =>
    aK (Mem.ld ny ⟨fa, (0 + 2), none⟩) .i64 fun yn =>
    aD (Mem.ld ny ⟨fa, (0 + 3), none⟩) fun A113 Tj k115 =>
    aO ny ⟨k1, 0, none⟩ (.int .i64 DZ) fun oF =>
    aO oF ⟨k1, (0 + 1), none⟩ (.int .i64 Ti) fun vt =>
    aO vt ⟨k1, (0 + 2), none⟩ (.int .i64 yn) fun lU =>
    aO lU ⟨k1, (0 + 3), none⟩ (.slice A113 Tj k115) fun xd =>
    aK (Mem.ld xd ⟨k1, 0, none⟩) .i64 fun yB =>
    aK (Mem.ld xd ⟨k1, (0 + 1), none⟩) .i64 fun yC =>
    aK (Mem.ld xd ⟨k1, (0 + 2), none⟩) .i64 fun MA =>
    aD (Mem.ld xd ⟨k1, (0 + 3), none⟩) fun A123 D8 MB =>
    K (.agg #[(.int .i64 yB), (.int .i64 yC), (.int .i64 MA), (.slice A123 D8 MB)]) xd) Kp)
    (ae Tryz.prog 102 #[(.pointer (some ⟨b0, o0, none⟩)), (.int .i64 fq)] cR (fun Tk JM =>
    ∃ xe : Int, ∃ Xt : Int, ∃ Xu : Int, ∃ xg : Option Addr, ∃ D9 : Nat, ∃ JN : Nat, (Tk = (.agg #[(.int .i64 xe), (.int .i64 Xt), (.int .i64 Xu), (.slice xg D9 JN)])) ∧
    aO JM ⟨fa, 0, none⟩ (.int .i64 xe) fun MC =>
    aO MC ⟨fa, (0 + 1), none⟩ (.int .i64 Xt) fun M135 =>
    aO M135 ⟨fa, (0 + 2), none⟩ (.int .i64 Xu) fun M136 =>
    aO M136 ⟨fa, (0 + 3), none⟩ (.slice xg D9 JN) fun JO =>
    aK (Mem.ld JO ⟨b0, (o0 + 9), none⟩) .i64 fun n138 =>
    aO JO ⟨b0, (o0 + 9), none⟩ (.int .i64 (IntKind.wrap .i64 (n138 + 1))) fun yD =>
    aK (Mem.ld yD ⟨fa, 0, none⟩) .i64 fun n140 =>
    aK (Mem.ld yD ⟨fa, (0 + 1), none⟩) .i64 fun n141 =>
    aK (Mem.ld yD ⟨fa, (0 + 2), none⟩) .i64 fun Tl =>
    aD (Mem.ld yD ⟨fa, (0 + 3), none⟩) fun A143 k144 k145 =>
    aO yD ⟨k1, 0, none⟩ (.int .i64 n140) fun M146 =>
    aO M146 ⟨k1, (0 + 1), none⟩ (.int .i64 n141) fun JP =>
    aO JP ⟨k1, (0 + 2), none⟩ (.int .i64 Tl) fun Tm =>
    aO Tm ⟨k1, (0 + 3), none⟩ (.slice A143 k144 k145) fun vu =>
    aK (Mem.ld vu ⟨k1, 0, none⟩) .i64 fun Ea =>
    aK (Mem.ld vu ⟨k1, (0 + 1), none⟩) .i64 fun MD =>
    aK (Mem.ld vu ⟨k1, (0 + 2), none⟩) .i64 fun Tn =>
    aD (Mem.ld vu ⟨k1, (0 + 3), none⟩) fun A153 ME PI =>
    K (.agg #[(.int .i64 Ea), (.int .i64 MD), (.int .i64 Tn), (.slice A153 ME PI)]) vu) Kp)))) Kp)) Kp) :
 ae Tryz.prog 50 ([.pointer (some ⟨b0, o0, none⟩)] : List Value).toArray M K Kp :=
 aA (C := Cx) good [(3, .bS [0, 1, 3, 7, 0, 16, 48, 112, 240, 496, 1023, 2047] (.step 0 (.step 1 (.step 2 (.step 4 (.step 5 (.step 6 (.step 7 (.step 3 (.step 8 (.step 9 (.step 10 (.step 11 .done)))))))))))))] Tryz.func50 (by kernel_rfl) (by kernel_rfl) h
theorem rD {b0 o0 : Nat} (h :
bj M (.cells #[(iV 0), (iV 0), (iV 0), (.slice none 0 0)] 47 (0, 0)) fun k1 M2 =>
bL (Mem.ld M2 ⟨b0, o0, none⟩) fun A3 =>
ae Tryz.prog 43 #[(.pointer A3)] M2 (fun v4 M5 =>
aD (some v4) fun A6 k7 k8 =>
ae Tryz.prog 53 #[(.pointer (some ⟨b0, (o0 + 7), none⟩)), (.slice A6 k7 k8)] M5 (fun v9 gS =>
(v9 = (.tuple #[])) ∧
sT gS k1 0 (iV 1) fun iq =>
sT iq k1 1 (iV (-1)) fun jH =>
sT jH k1 2 (iV (-1)) fun jN =>
sT jN k1 3 (.slice A6 k7 k8) fun ik =>
rI ik k1 0 fun jY =>
rI ik k1 1 fun mz =>
rI ik k1 2 fun hU =>
rS ik k1 3 fun Ib iO ig =>
K (.agg #[(iV jY), (iV mz), (iV hU), (.slice Ib iO ig)]) ik) Kp) Kp) :
 ae Tryz.prog 99 ([.pointer (some ⟨b0, o0, none⟩)] : List Value).toArray M K Kp :=
 aA (C := Cx) good [] Tryz.func99 (by kernel_rfl) (by kernel_rfl) h
theorem rE {b0 o0 : Nat} {x1 : Int} (h :
bj M (.cells #[(iV 0), (iV 0), (iV 0), (.slice none 0 0)] 47 (0, 0)) fun k1 M2 =>
rS M2 b0 (o0 + 5) fun A3 k4 k5 =>
∃ I6 : Nat → List Value → Mem → Prop, (∃ k7 : Nat, I6 k7 [(iV 0)] M2) ∧
∀ k8 : Nat, ∀ junk9 : Nat → Value, ∀ jP : Int, ∀ iq : Mem, (I6 k8 [(iV jP)] iq) → aV (decide ((jP : Int) < ((k4 : Nat) : Int)))
 (rS iq b0 (o0 + 5) fun sB c7 fX =>
 ((0 : Int) ≤ jP) ∧
 ((jP : Int) < ((c7 : Nat) : Int)) ∧
 aI sB fun fT dF =>
 rI iq fT ((dF + ((Int.toNat jP) * 3)) + 2) fun hU =>
 aV (hU == (-1))
 (rS iq b0 (o0 + 5) fun Ib iO ig =>
 rS iq b0 (o0 + 6) fun Cn gz iL =>
 ((0 : Int) ≤ jP) ∧
 ((jP : Int) < ((iO : Nat) : Int)) ∧
 aI Ib fun qF sw =>
 sT iq qF ((sw + ((Int.toNat jP) * 3)) + 2) (iV x1) fun wj =>
 ((0 : Int) ≤ x1) ∧
 ((x1 : Int) < ((gz : Nat) : Int)) ∧
 aI Cn fun oh lg =>
 sT wj oh (lg + ((Int.toNat x1) * 3)) (iV jP) fun lT =>
 sT lT k1 0 (iV 2) fun oe =>
 sT oe k1 1 (iV x1) fun Be =>
 sT Be k1 2 (iV (-1)) fun mA =>
 sT mA k1 3 (.slice none 0 0) fun tT =>
 rI tT k1 0 fun Ps =>
 rI tT k1 1 fun KW =>
 rI tT k1 2 fun xB =>
 rS tT k1 3 fun KY gL vn =>
 K (.agg #[(iV Ps), (iV KW), (iV xB), (.slice KY gL vn)]) tT)
 (∃ zR : Nat, (zR < k8) ∧
 I6 zR [(iV (IntKind.wrap .i64 (jP + 1)))] iq))
 (sT iq k1 0 (iV 3) fun wZ =>
 sT wZ k1 1 (iV x1) fun JG =>
 sT JG k1 2 (iV (-1)) fun tZ =>
 sT tZ k1 3 (.slice none 0 0) fun wD =>
 rI wD k1 0 fun uN =>
 rI wD k1 1 fun Ba =>
 rI wD k1 2 fun AV =>
 rS wD k1 3 fun PE Ga yh =>
 K (.agg #[(iV uN), (iV Ba), (iV AV), (.slice PE Ga yh)]) wD)) :
 ae Tryz.prog 100 ([.pointer (some ⟨b0, o0, none⟩), .int .i64 x1] : List Value).toArray M K Kp :=
 aA (C := Cx) good [(2000000, .loop [(11, .c (.int .i64))]), (5, .bS [0, 1, 3, 7, 0, 0, 32, 96, 224, 0, 0, 0, 1535, 5631, 13823, 32767, 65535, 131071] (.step 0 (.step 1 (.step 2 (.step 4 (.step 5 (.step 6 (.step 7 (.step 9 (.step 10 (.step 11 (.step 3 (.step 8 (.step 12 (.step 13 (.step 14 (.step 15 (.step 16 (.step 17 .done)))))))))))))))))))] Tryz.func100 (by kernel_rfl) (by kernel_rfl) h
theorem rF {b0 o0 : Nat} {x1 : Int} (h :
bj M (.cells #[(.int .i64 0), (.int .i64 0), (.int .i64 0), (.slice none 0 0)] 47 (0, 0)) fun k1 M2 =>
aD (Mem.ld M2 ⟨b0, (o0 + 5), none⟩) fun A3 k4 k5 =>
aD (Mem.ld M2 ⟨b0, (o0 + 6), none⟩) fun A6 k7 k8 =>
((0 : Int) ≤ x1) ∧
((x1 : Int) < ((k7 : Nat) : Int)) ∧
aI A6 fun k9 eA =>
aK (Mem.ld M2 ⟨k9, (eA + ((Int.toNat x1) * 3)), none⟩) .i64 fun fu =>
((0 : Int) ≤ fu) ∧
((fu : Int) < ((k4 : Nat) : Int)) ∧
aI A3 fun fK c7 =>
aD (Mem.ld M2 ⟨b0, (o0 + 6), none⟩) fun nY fT dF =>
((0 : Int) ≤ x1) ∧
((x1 : Int) < ((fT : Nat) : Int)) ∧
aI nY fun eE dS =>
aK (Mem.ld M2 ⟨eE, ((dS + ((Int.toNat x1) * 3)) + 2), none⟩) .i64 fun wq =>
aV (decide ((wq : Int) > 0))
 (bL (Mem.ld M2 ⟨fK, (c7 + ((Int.toNat fu) * 3)), none⟩) fun Zj =>
 ae Tryz.prog 58 #[(.pointer Zj)] M2 (fun Xn cR =>
 aK (some Xn) .i64 fun nB =>
 ∃ J24 : List Value → Mem → Prop, (aV (nB != (-1))
  (bL (Mem.ld cR ⟨fK, (c7 + ((Int.toNat fu) * 3)), none⟩) fun Jx =>
   aD (Mem.ld cR ⟨b0, (o0 + 6), none⟩) fun Fl oh lg =>
   ae Tryz.prog 131 #[(.pointer Jx)] cR (fun v29 oe =>
   ∃ tv : Int, ∃ t32 : Bool, (v29 = (.tuple #[(.int .i64 tv), (.bool t32)])) ∧
   ((Mem.ld oe ⟨b0, (o0 + 6), none⟩) = (some (.slice Fl oh lg))) ∧
   ((0 : Int) ≤ x1) ∧
   ((x1 : Int) < ((oh : Nat) : Int)) ∧
   aI Fl fun nE tR =>
   aO oe ⟨nE, ((tR + ((Int.toNat x1) * 3)) + 1), none⟩ (.int .i64 tv) fun qu =>
   ((Mem.ld qu ⟨b0, (o0 + 6), none⟩) = (some (.slice Fl oh lg))) ∧
   aD (Mem.ld qu ⟨b0, (o0 + 6), none⟩) fun Rw wC gL =>
   ((0 : Int) ≤ x1) ∧
   ((x1 : Int) < ((wC : Nat) : Int)) ∧
   aI Rw fun vn zR =>
   aK (Mem.ld qu ⟨vn, ((zR + ((Int.toNat x1) * 3)) + 1), none⟩) .i64 fun RA =>
   aO qu ⟨k1, 0, none⟩ (.int .i64 4) fun JG =>
   aO JG ⟨k1, (0 + 1), none⟩ (.int .i64 x1) fun tZ =>
   aO tZ ⟨k1, (0 + 2), none⟩ (.int .i64 RA) fun wD =>
   aO wD ⟨k1, (0 + 3), none⟩ (.slice none 0 0) fun mW =>
   aK (Mem.ld mW ⟨k1, 0, none⟩) .i64 fun Ba =>
   aK (Mem.ld mW ⟨k1, (0 + 1), none⟩) .i64 fun AV =>
   aK (Mem.ld mW ⟨k1, (0 + 2), none⟩) .i64 fun zI =>
   aD (Mem.ld mW ⟨k1, (0 + 3), none⟩) fun Te yh Bf =>
   K (.agg #[(.int .i64 Ba), (.int .i64 AV), (.int .i64 zI), (.slice Te yh Bf)]) mW) Kp)
  (J24 [] cR)) ∧
 ∀ junk52 : Nat → Value, ∀ Ct : Mem, (J24 [] Ct) → ae Tryz.prog 132 #[(.pointer (some ⟨b0, o0, none⟩)), (.pointer (some ⟨fK, (c7 + ((Int.toNat fu) * 3)), none⟩))] Ct (fun MF mV =>
 ∃ Dh : Int, ∃ t57 : Bool, (MF = (.tuple #[(.int .i64 Dh), (.bool t57)])) ∧
 aV (!t57)
  (aK (Mem.ld mV ⟨b0, (o0 + 1), none⟩) .i64 fun DW =>
  ∃ To : List Value → Mem → Prop, (aV (decide ((DW : Int) > 1))
   (bL (Mem.ld mV ⟨b0, (o0 + 8), none⟩) fun A60 =>
    aK (Mem.ld mV ⟨b0, (o0 + 1), none⟩) .i64 fun JA =>
    ae Tryz.prog 98 #[(.pointer A60), (.int .i64 2), (.int .i64 JA)] mV (fun SY wk =>
    aK (some SY) .i64 fun n64 =>
    bL (Mem.ld wk ⟨fK, (c7 + ((Int.toNat fu) * 3)), none⟩) fun PF =>
    aD (Mem.ld wk ⟨b0, (o0 + 5), none⟩) fun MG w7 Ih =>
    ((0 : Int) ≤ n64) ∧
    ((n64 : Int) < ((w7 : Nat) : Int)) ∧
    aI MG fun Ii Bg =>
    bL (Mem.ld wk ⟨Ii, (Bg + ((Int.toNat n64) * 3)), none⟩) fun JK =>
    ae Tryz.prog 133 #[(.pointer PF), (.pointer JK)] wk (fun v72 z0 =>
    ∃ Ig : Int, ∃ t75 : Bool, (v72 = (.tuple #[(.int .i64 Ig), (.bool t75)])) ∧
    To [(.int .i64 5), (.int .i64 Ig), (.bool t75)] z0) Kp) Kp)
   (To [(.int .i64 4), (.int .i64 Dh), (.bool t57)] mV)) ∧
  ∀ Tp : Nat → Value, ∀ DY : Int, ∀ Gg : Int, ∀ t79 : Bool, ∀ xC : Mem, (To [(.int .i64 DY), (.int .i64 Gg), (.bool t79)] xC) → aV (!t79)
   (aD (Mem.ld xC ⟨b0, (o0 + 6), none⟩) fun S4 Gd vr =>
   aO xC ⟨fK, ((c7 + ((Int.toNat fu) * 3)) + 2), none⟩ (.int .i64 (-1)) fun Dg =>
   ((0 : Int) ≤ x1) ∧
   ((x1 : Int) < ((Gd : Nat) : Int)) ∧
   aI S4 fun K3 Ij =>
   aO Dg ⟨K3, (Ij + ((Int.toNat x1) * 3)), none⟩ (.int .i64 (-1)) fun zG =>
   aO zG ⟨K3, ((Ij + ((Int.toNat x1) * 3)) + 1), none⟩ (.int .i64 (-1)) fun SP =>
   aO SP ⟨K3, ((Ij + ((Int.toNat x1) * 3)) + 2), none⟩ (.int .i64 0) fun Cl =>
   aO Cl ⟨k1, 0, none⟩ (.int .i64 6) fun SQ =>
   aO SQ ⟨k1, (0 + 1), none⟩ (.int .i64 x1) fun jK =>
   aO jK ⟨k1, (0 + 2), none⟩ (.int .i64 (-1)) fun Tq =>
   aO Tq ⟨k1, (0 + 3), none⟩ (.slice none 0 0) fun yE =>
   aK (Mem.ld yE ⟨k1, 0, none⟩) .i64 fun Po =>
   aK (Mem.ld yE ⟨k1, (0 + 1), none⟩) .i64 fun JC =>
   aK (Mem.ld yE ⟨k1, (0 + 2), none⟩) .i64 fun JD =>
   aD (Mem.ld yE ⟨k1, (0 + 3), none⟩) fun Xv Tr Wc =>
   K (.agg #[(.int .i64 Po), (.int .i64 JC), (.int .i64 JD), (.slice Xv Tr Wc)]) yE)
   (aK (Mem.ld xC ⟨fK, ((c7 + ((Int.toNat fu) * 3)) + 1), none⟩) .i64 fun tS =>
   aO xC ⟨fK, ((c7 + ((Int.toNat fu) * 3)) + 1), none⟩ (.int .i64 (IntKind.wrap .i64 (tS + 1))) fun gF =>
   aD (Mem.ld gF ⟨b0, (o0 + 6), none⟩) fun yF j5 z9 =>
   aD (Mem.ld gF ⟨b0, (o0 + 6), none⟩) fun Cy w8 JQ =>
   aK (Mem.ld gF ⟨b0, ((o0 + 1) + 3), none⟩) .i64 fun yA =>
   ((0 : Int) ≤ x1) ∧
   ((x1 : Int) < ((j5 : Nat) : Int)) ∧
   aI yF fun Aa JR =>
   aO gF ⟨Aa, ((JR + ((Int.toNat x1) * 3)) + 1), none⟩ (.int .i64 Gg) fun nG =>
   ((0 : Int) ≤ x1) ∧
   ((x1 : Int) < ((w8 : Nat) : Int)) ∧
   aI Cy fun Gh Cz =>
   aO nG ⟨Gh, ((Cz + ((Int.toNat x1) * 3)) + 2), none⟩ (.int .i64 yA) fun sS =>
   aO sS ⟨k1, 0, none⟩ (.int .i64 DY) fun Gi =>
   aO Gi ⟨k1, (0 + 1), none⟩ (.int .i64 x1) fun oF =>
   aO oF ⟨k1, (0 + 2), none⟩ (.int .i64 Gg) fun vt =>
   aO vt ⟨k1, (0 + 3), none⟩ (.slice none 0 0) fun lU =>
   aK (Mem.ld lU ⟨k1, 0, none⟩) .i64 fun Ad =>
   aK (Mem.ld lU ⟨k1, (0 + 1), none⟩) .i64 fun yB =>
   aK (Mem.ld lU ⟨k1, (0 + 2), none⟩) .i64 fun yC =>
   aD (Mem.ld lU ⟨k1, (0 + 3), none⟩) fun Gj CA D8 =>
   K (.agg #[(.int .i64 Ad), (.int .i64 yB), (.int .i64 yC), (.slice Gj CA D8)]) lU))
  (∃ MH : List Value → Mem → Prop, (MH [(.int .i64 4), (.int .i64 Dh), (.bool t57)] mV) ∧
  ∀ PJ : Nat → Value, ∀ yG : Int, ∀ xe : Int, ∀ t129 : Bool, ∀ kP : Mem, (MH [(.int .i64 yG), (.int .i64 xe), (.bool t129)] kP) → aV (!t129)
   (aD (Mem.ld kP ⟨b0, (o0 + 6), none⟩) fun xg D9 JN =>
   aO kP ⟨fK, ((c7 + ((Int.toNat fu) * 3)) + 2), none⟩ (.int .i64 (-1)) fun MC =>
   ((0 : Int) ≤ x1) ∧
   ((x1 : Int) < ((D9 : Nat) : Int)) ∧
   aI xg fun Ae oG =>
   aO MC ⟨Ae, (oG + ((Int.toNat x1) * 3)), none⟩ (.int .i64 (-1)) fun JO =>
   aO JO ⟨Ae, ((oG + ((Int.toNat x1) * 3)) + 1), none⟩ (.int .i64 (-1)) fun MI =>
   aO MI ⟨Ae, ((oG + ((Int.toNat x1) * 3)) + 2), none⟩ (.int .i64 0) fun yD =>
   aO yD ⟨k1, 0, none⟩ (.int .i64 6) fun CB =>
   aO CB ⟨k1, (0 + 1), none⟩ (.int .i64 x1) fun CC =>
   aO CC ⟨k1, (0 + 2), none⟩ (.int .i64 (-1)) fun Eb =>
   aO Eb ⟨k1, (0 + 3), none⟩ (.slice none 0 0) fun yH =>
   aK (Mem.ld yH ⟨k1, 0, none⟩) .i64 fun MJ =>
   aK (Mem.ld yH ⟨k1, (0 + 1), none⟩) .i64 fun MK =>
   aK (Mem.ld yH ⟨k1, (0 + 2), none⟩) .i64 fun Ec =>
   aD (Mem.ld yH ⟨k1, (0 + 3), none⟩) fun Ts ML Tt =>
   K (.agg #[(.int .i64 MJ), (.int .i64 MK), (.int .i64 Ec), (.slice Ts ML Tt)]) yH)
   (aK (Mem.ld kP ⟨fK, ((c7 + ((Int.toNat fu) * 3)) + 1), none⟩) .i64 fun Ea =>
   aO kP ⟨fK, ((c7 + ((Int.toNat fu) * 3)) + 1), none⟩ (.int .i64 (IntKind.wrap .i64 (Ea + 1))) fun yI =>
   aD (Mem.ld yI ⟨b0, (o0 + 6), none⟩) fun MM MN ME =>
   aD (Mem.ld yI ⟨b0, (o0 + 6), none⟩) fun Tu JS Tv =>
   aK (Mem.ld yI ⟨b0, ((o0 + 1) + 3), none⟩) .i64 fun Tw =>
   ((0 : Int) ≤ x1) ∧
   ((x1 : Int) < ((MN : Nat) : Int)) ∧
   aI MM fun Tx Ty =>
   aO yI ⟨Tx, ((Ty + ((Int.toNat x1) * 3)) + 1), none⟩ (.int .i64 xe) fun vv =>
   ((0 : Int) ≤ x1) ∧
   ((x1 : Int) < ((JS : Nat) : Int)) ∧
   aI Tu fun MO MP =>
   aO vv ⟨MO, ((MP + ((Int.toNat x1) * 3)) + 2), none⟩ (.int .i64 Tw) fun MQ =>
   aO MQ ⟨k1, 0, none⟩ (.int .i64 yG) fun MR =>
   aO MR ⟨k1, (0 + 1), none⟩ (.int .i64 x1) fun MS =>
   aO MS ⟨k1, (0 + 2), none⟩ (.int .i64 xe) fun CD =>
   aO CD ⟨k1, (0 + 3), none⟩ (.slice none 0 0) fun yJ =>
   aK (Mem.ld yJ ⟨k1, 0, none⟩) .i64 fun MT =>
   aK (Mem.ld yJ ⟨k1, (0 + 1), none⟩) .i64 fun MU =>
   aK (Mem.ld yJ ⟨k1, (0 + 2), none⟩) .i64 fun MW =>
   aD (Mem.ld yJ ⟨k1, (0 + 3), none⟩) fun Tz JT TA =>
   K (.agg #[(.int .i64 MT), (.int .i64 MU), (.int .i64 MW), (.slice Tz JT TA)]) yJ))) Kp) Kp)
 (∃ Xw : List Value → Mem → Prop, (Xw [] M2) ∧
 ∀ Zp : Nat → Value, ∀ Xx : Mem, (Xw [] Xx) → ae Tryz.prog 132 #[(.pointer (some ⟨b0, o0, none⟩)), (.pointer (some ⟨fK, (c7 + ((Int.toNat fu) * 3)), none⟩))] Xx (fun v178 Ed =>
 ∃ TB : Int, ∃ t181 : Bool, (v178 = (.tuple #[(.int .i64 TB), (.bool t181)])) ∧
 aV (!t181)
  (aK (Mem.ld Ed ⟨b0, (o0 + 1), none⟩) .i64 fun n182 =>
  ∃ TC : List Value → Mem → Prop, (aV (decide ((n182 : Int) > 1))
   (bL (Mem.ld Ed ⟨b0, (o0 + 8), none⟩) fun A184 =>
    aK (Mem.ld Ed ⟨b0, (o0 + 1), none⟩) .i64 fun TD =>
    ae Tryz.prog 98 #[(.pointer A184), (.int .i64 2), (.int .i64 TD)] Ed (fun v186 PK =>
    aK (some v186) .i64 fun Gk =>
    bL (Mem.ld PK ⟨fK, (c7 + ((Int.toNat fu) * 3)), none⟩) fun A189 =>
    aD (Mem.ld PK ⟨b0, (o0 + 5), none⟩) fun A190 k191 CE =>
    ((0 : Int) ≤ Gk) ∧
    ((Gk : Int) < ((k191 : Nat) : Int)) ∧
    aI A190 fun k193 k194 =>
    bL (Mem.ld PK ⟨k193, (k194 + ((Int.toNat Gk) * 3)), none⟩) fun A195 =>
    ae Tryz.prog 133 #[(.pointer A189), (.pointer A195)] PK (fun v196 yK =>
    ∃ PL : Int, ∃ t199 : Bool, (v196 = (.tuple #[(.int .i64 PL), (.bool t199)])) ∧
    TC [(.int .i64 5), (.int .i64 PL), (.bool t199)] yK) Kp) Kp)
   (TC [(.int .i64 4), (.int .i64 TB), (.bool t181)] Ed)) ∧
  ∀ Zq : Nat → Value, ∀ PM : Int, ∀ MX : Int, ∀ t203 : Bool, ∀ Gl : Mem, (TC [(.int .i64 PM), (.int .i64 MX), (.bool t203)] Gl) → aV (!t203)
   (aD (Mem.ld Gl ⟨b0, (o0 + 6), none⟩) fun TE TF Xy =>
   aO Gl ⟨fK, ((c7 + ((Int.toNat fu) * 3)) + 2), none⟩ (.int .i64 (-1)) fun M208 =>
   ((0 : Int) ≤ x1) ∧
   ((x1 : Int) < ((TF : Nat) : Int)) ∧
   aI TE fun TG TH =>
   aO M208 ⟨TG, (TH + ((Int.toNat x1) * 3)), none⟩ (.int .i64 (-1)) fun M211 =>
   aO M211 ⟨TG, ((TH + ((Int.toNat x1) * 3)) + 1), none⟩ (.int .i64 (-1)) fun Gm =>
   aO Gm ⟨TG, ((TH + ((Int.toNat x1) * 3)) + 2), none⟩ (.int .i64 0) fun TI =>
   aO TI ⟨k1, 0, none⟩ (.int .i64 6) fun M214 =>
   aO M214 ⟨k1, (0 + 1), none⟩ (.int .i64 x1) fun M215 =>
   aO M215 ⟨k1, (0 + 2), none⟩ (.int .i64 (-1)) fun M216 =>
   aO M216 ⟨k1, (0 + 3), none⟩ (.slice none 0 0) fun Gn =>
   aK (Mem.ld Gn ⟨k1, 0, none⟩) .i64 fun n218 =>
   aK (Mem.ld Gn ⟨k1, (0 + 1), none⟩) .i64 fun n219 =>
   aK (Mem.ld Gn ⟨k1, (0 + 2), none⟩) .i64 fun n220 =>
   aD (Mem.ld Gn ⟨k1, (0 + 3), none⟩) fun A221 k222 TJ =>
   K (.agg #[(.int .i64 n218), (.int .i64 n219), (.int .i64 n220), (.slice A221 k222 TJ)]) Gn)
   (aK (Mem.ld Gl ⟨fK, ((c7 + ((Int.toNat fu) * 3)) + 1), none⟩) .i64 fun TK =>
   aO Gl ⟨fK, ((c7 + ((Int.toNat fu) * 3)) + 1), none⟩ (.int .i64 (IntKind.wrap .i64 (TK + 1))) fun PN =>
   aD (Mem.ld PN ⟨b0, (o0 + 6), none⟩) fun TL TM k228 =>
   aD (Mem.ld PN ⟨b0, (o0 + 6), none⟩) fun A229 TN k231 =>
   aK (Mem.ld PN ⟨b0, ((o0 + 1) + 3), none⟩) .i64 fun n232 =>
   ((0 : Int) ≤ x1) ∧
   ((x1 : Int) < ((TM : Nat) : Int)) ∧
   aI TL fun k233 TO =>
   aO PN ⟨k233, ((TO + ((Int.toNat x1) * 3)) + 1), none⟩ (.int .i64 MX) fun M235 =>
   ((0 : Int) ≤ x1) ∧
   ((x1 : Int) < ((TN : Nat) : Int)) ∧
   aI A229 fun k236 TP =>
   aO M235 ⟨k236, ((TP + ((Int.toNat x1) * 3)) + 2), none⟩ (.int .i64 n232) fun TQ =>
   aO TQ ⟨k1, 0, none⟩ (.int .i64 PM) fun TR =>
   aO TR ⟨k1, (0 + 1), none⟩ (.int .i64 x1) fun Gp =>
   aO Gp ⟨k1, (0 + 2), none⟩ (.int .i64 MX) fun M241 =>
   aO M241 ⟨k1, (0 + 3), none⟩ (.slice none 0 0) fun MY =>
   aK (Mem.ld MY ⟨k1, 0, none⟩) .i64 fun TS =>
   aK (Mem.ld MY ⟨k1, (0 + 1), none⟩) .i64 fun TT =>
   aK (Mem.ld MY ⟨k1, (0 + 2), none⟩) .i64 fun TU =>
   aD (Mem.ld MY ⟨k1, (0 + 3), none⟩) fun A246 k247 TV =>
   K (.agg #[(.int .i64 TS), (.int .i64 TT), (.int .i64 TU), (.slice A246 k247 TV)]) MY))
  (∃ Xz : List Value → Mem → Prop, (Xz [(.int .i64 4), (.int .i64 TB), (.bool t181)] Ed) ∧
  ∀ Zr : Nat → Value, ∀ XA : Int, ∀ TW : Int, ∀ t253 : Bool, ∀ Gq : Mem, (Xz [(.int .i64 XA), (.int .i64 TW), (.bool t253)] Gq) → aV (!t253)
   (aD (Mem.ld Gq ⟨b0, (o0 + 6), none⟩) fun A255 TX k257 =>
   aO Gq ⟨fK, ((c7 + ((Int.toNat fu) * 3)) + 2), none⟩ (.int .i64 (-1)) fun M258 =>
   ((0 : Int) ≤ x1) ∧
   ((x1 : Int) < ((TX : Nat) : Int)) ∧
   aI A255 fun TY TZ =>
   aO M258 ⟨TY, (TZ + ((Int.toNat x1) * 3)), none⟩ (.int .i64 (-1)) fun M261 =>
   aO M261 ⟨TY, ((TZ + ((Int.toNat x1) * 3)) + 1), none⟩ (.int .i64 (-1)) fun M262 =>
   aO M262 ⟨TY, ((TZ + ((Int.toNat x1) * 3)) + 2), none⟩ (.int .i64 0) fun M263 =>
   aO M263 ⟨k1, 0, none⟩ (.int .i64 6) fun T0 =>
   aO T0 ⟨k1, (0 + 1), none⟩ (.int .i64 x1) fun T3 =>
   aO T3 ⟨k1, (0 + 2), none⟩ (.int .i64 (-1)) fun T4 =>
   aO T4 ⟨k1, (0 + 3), none⟩ (.slice none 0 0) fun yL =>
   aK (Mem.ld yL ⟨k1, 0, none⟩) .i64 fun T5 =>
   aK (Mem.ld yL ⟨k1, (0 + 1), none⟩) .i64 fun T6 =>
   aK (Mem.ld yL ⟨k1, (0 + 2), none⟩) .i64 fun T7 =>
   aD (Mem.ld yL ⟨k1, (0 + 3), none⟩) fun A271 k272 k273 =>
   K (.agg #[(.int .i64 T5), (.int .i64 T6), (.int .i64 T7), (.slice A271 k272 k273)]) yL)
   (aK (Mem.ld Gq ⟨fK, ((c7 + ((Int.toNat fu) * 3)) + 1), none⟩) .i64 fun T8 =>
   aO Gq ⟨fK, ((c7 + ((Int.toNat fu) * 3)) + 1), none⟩ (.int .i64 (IntKind.wrap .i64 (T8 + 1))) fun PO =>
   aD (Mem.ld PO ⟨b0, (o0 + 6), none⟩) fun A276 k277 k278 =>
   aD (Mem.ld PO ⟨b0, (o0 + 6), none⟩) fun A279 k280 k281 =>
   aK (Mem.ld PO ⟨b0, ((o0 + 1) + 3), none⟩) .i64 fun T9 =>
   ((0 : Int) ≤ x1) ∧
   ((x1 : Int) < ((k277 : Nat) : Int)) ∧
   aI A276 fun k283 k284 =>
   aO PO ⟨k283, ((k284 + ((Int.toNat x1) * 3)) + 1), none⟩ (.int .i64 TW) fun Gr =>
   ((0 : Int) ≤ x1) ∧
   ((x1 : Int) < ((k280 : Nat) : Int)) ∧
   aI A279 fun k286 k287 =>
   aO Gr ⟨k286, ((k287 + ((Int.toNat x1) * 3)) + 2), none⟩ (.int .i64 T9) fun M288 =>
   aO M288 ⟨k1, 0, none⟩ (.int .i64 XA) fun M289 =>
   aO M289 ⟨k1, (0 + 1), none⟩ (.int .i64 x1) fun Ua =>
   aO Ua ⟨k1, (0 + 2), none⟩ (.int .i64 TW) fun Ub =>
   aO Ub ⟨k1, (0 + 3), none⟩ (.slice none 0 0) fun Gs =>
   aK (Mem.ld Gs ⟨k1, 0, none⟩) .i64 fun n293 =>
   aK (Mem.ld Gs ⟨k1, (0 + 1), none⟩) .i64 fun Uc =>
   aK (Mem.ld Gs ⟨k1, (0 + 2), none⟩) .i64 fun Ud =>
   aD (Mem.ld Gs ⟨k1, (0 + 3), none⟩) fun A296 k297 k298 =>
   K (.agg #[(.int .i64 n293), (.int .i64 Uc), (.int .i64 Ud), (.slice A296 k297 k298)]) Gs))) Kp)) :
 ae Tryz.prog 101 ([.pointer (some ⟨b0, o0, none⟩), .int .i64 x1] : List Value).toArray M K Kp :=
 aA (C := Cx) good [(1, .bS [0, 1, 3, 7, 0, 16, 48, 112, 0, 496, 1008, 2032, 4095, 8191] (.step 0 (.step 1 (.step 2 (.step 4 (.step 5 (.step 6 (.step 8 (.step 3 (.step 7 (.step 9 (.step 10 (.step 11 (.step 12 (.step 13 .done))))))))))))))), (3000039, .cut []), (3, .bS [0, 1, 3, 7, 0, 0, 32, 96, 224, 480, 992, 2016, 2016, 4095, 12287, 28671] (.step 0 (.step 1 (.step 2 (.step 4 (.step 5 (.step 6 (.step 7 (.step 8 (.dx 3 (.step 9 (.step 10 (.step 11 (.step 12 (.step 13 (.step 14 (.step 15 .done))))))))))))))))), (3000080, .cut [(6, .c (.int .i64)), (7, .c (.int .i64)), (8, .c .bool)]), (8, .bS [0, 1, 3, 7, 0, 16, 48, 112, 240, 511, 1023] (.step 0 (.step 1 (.step 2 (.step 4 (.step 5 (.step 6 (.step 7 (.step 3 (.step 8 (.step 9 (.step 10 .done)))))))))))), (10, .bS [0, 1, 3, 7, 0, 16, 48, 112, 0, 496, 1008, 2032, 4095, 8191, 16383, 16383, 32767, 131071] (.step 0 (.step 1 (.step 2 (.step 4 (.step 5 (.step 6 (.step 8 (.step 3 (.step 7 (.step 9 (.step 10 (.step 11 (.step 12 (.step 13 (.step 14 (.step 15 (.step 16 (.step 17 .done))))))))))))))))))), (15, .bS [0, 1, 3, 7, 0, 0, 32, 96, 224, 0, 0, 0, 2048, 6144, 14336, 30720, 65023, 130559, 261631, 524287, 1048575, 2097151] (.step 0 (.step 1 (.step 2 (.step 4 (.step 5 (.step 6 (.step 7 (.step 9 (.step 10 (.step 11 (.step 12 (.step 13 (.step 14 (.step 3 (.step 8 (.step 15 (.step 16 (.step 17 (.step 18 (.step 19 (.step 20 (.step 21 .done)))))))))))))))))))))))] Tryz.func101 (by kernel_rfl) (by kernel_rfl) h
theorem sU {b0 o0 : Nat} {x1 : Int} (h :
bj M (.cells #[(.int .i64 0), (.int .i64 0), (.int .i64 0), (.slice none 0 0)] 47 (0, 0)) fun k1 M2 =>
aD (Mem.ld M2 ⟨b0, (o0 + 6), none⟩) fun A3 k4 k5 =>
((0 : Int) ≤ x1) ∧
((x1 : Int) < ((k4 : Nat) : Int)) ∧
aI A3 fun k6 k7 =>
aK (Mem.ld M2 ⟨k6, ((k7 + ((Int.toNat x1) * 3)) + 1), none⟩) .i64 fun n8 =>
bL (Mem.ld M2 ⟨b0, o0, none⟩) fun A9 =>
bL (Mem.ld M2 ⟨b0, (o0 + 8), none⟩) fun Db =>
(True) ∧
ae Tryz.prog 41 #[(.pointer A9), (.int .i64 n8), (.func (.func 98) #[(.pointer Db)] #[])] M2 (fun v11 jH =>
∃ t13 : Bool, ∃ nY : Option Addr, ∃ fT : Nat, ∃ dF : Nat, (v11 = (.agg #[(.bool t13), (.slice nY fT dF)])) ∧
bj jH (.cells #[(.bool false), (.slice none 0 0)] 120 (0, 0)) fun eE mC =>
aO mC ⟨eE, 0, none⟩ (.bool t13) fun hH =>
aO hH ⟨eE, (0 + 1), none⟩ (.slice nY fT dF) fun nx =>
aD (Mem.ld nx ⟨eE, (0 + 1), none⟩) fun Cn gz iL =>
∃ Ue : Nat → List Value → Mem → Prop, (∃ sw : Nat, Ue sw [(.int .i64 0)] nx) ∧
∀ lC : Nat, ∀ Uf : Nat → Value, ∀ wm : Int, ∀ lT : Mem, (Ue lC [(.int .i64 wm)] lT) → aV (decide ((wm : Int) < ((gz : Nat) : Int)))
 (((0 : Int) ≤ wm) ∧
 ((wm : Int) < ((gz : Nat) : Int)) ∧
 aI Cn fun kZ nA =>
 aK (Mem.ld lT ⟨kZ, (nA + (Int.toNat wm)), none⟩) .i64 fun n32 =>
 aD (Mem.ld lT ⟨b0, (o0 + 5), none⟩) fun Jy tR sA =>
 aK (Mem.ld lT ⟨k6, (k7 + ((Int.toNat x1) * 3)), none⟩) .i64 fun xB =>
 ((0 : Int) ≤ xB) ∧
 ((xB : Int) < ((tR : Nat) : Int)) ∧
 aI Jy fun wC gL =>
 bL (Mem.ld lT ⟨wC, (gL + ((Int.toNat xB) * 3)), none⟩) fun V2 =>
 ae Tryz.prog 134 #[(.pointer V2), (.int .i64 n32), (.pointer (some ⟨b0, (o0 + 7), none⟩))] lT (fun H8 wZ =>
 aK (some H8) .i64 fun Pt =>
 ∃ nW : Nat, (nW < lC) ∧
 Ue nW [(.int .i64 (IntKind.wrap .i64 (wm + 1)))] wZ) Kp)
 (aK (Mem.ld lT ⟨k6, ((k7 + ((Int.toNat x1) * 3)) + 2), none⟩) .i64 fun Df =>
 aO lT ⟨k6, ((k7 + ((Int.toNat x1) * 3)) + 2), none⟩ (.int .i64 (IntKind.wrap .i64 (Df - 1))) fun mW =>
 cD (Mem.ld mW ⟨eE, 0, none⟩) fun t46 =>
 aV (!t46)
  (aO mW ⟨k6, ((k7 + ((Int.toNat x1) * 3)) + 1), none⟩ (.int .i64 (-1)) fun rY =>
  bL (Mem.ld rY ⟨b0, o0, none⟩) fun PE =>
  ae Tryz.prog 65 #[(.pointer PE), (.int .i64 n8)] rY (fun HX zE =>
  aK (some HX) .i64 fun zY =>
  aV (zY == 1)
   (bj zE (.cells #[(.int .i64 n8)] 3 (0, 0)) fun kj Ct =>
   ae Tryz.prog 53 #[(.pointer (some ⟨b0, (o0 + 7), none⟩)), (.slice (some ⟨kj, 0, none⟩) 1 1)] Ct (fun MF mV =>
   (MF = (.tuple #[])) ∧
   aD (Mem.ld mV ⟨eE, (0 + 1), none⟩) fun PR rZ DX =>
   aO mV ⟨k1, 0, none⟩ (.int .i64 7) fun xD =>
   aO xD ⟨k1, (0 + 1), none⟩ (.int .i64 x1) fun rW =>
   aO rW ⟨k1, (0 + 2), none⟩ (.int .i64 n8) fun vf =>
   aO vf ⟨k1, (0 + 3), none⟩ (.slice PR rZ DX) fun qv =>
   aK (Mem.ld qv ⟨k1, 0, none⟩) .i64 fun yj =>
   aK (Mem.ld qv ⟨k1, (0 + 1), none⟩) .i64 fun n64 =>
   aK (Mem.ld qv ⟨k1, (0 + 2), none⟩) .i64 fun vg =>
   aD (Mem.ld qv ⟨k1, (0 + 3), none⟩) fun MG w7 Ih =>
   K (.agg #[(.int .i64 yj), (.int .i64 n64), (.int .i64 vg), (.slice MG w7 Ih)]) qv) Kp)
   (aD (Mem.ld zE ⟨eE, (0 + 1), none⟩) fun XB Bg JI =>
   aO zE ⟨k1, 0, none⟩ (.int .i64 7) fun vj =>
   aO vj ⟨k1, (0 + 1), none⟩ (.int .i64 x1) fun z0 =>
   aO z0 ⟨k1, (0 + 2), none⟩ (.int .i64 n8) fun Bd =>
   aO Bd ⟨k1, (0 + 3), none⟩ (.slice XB Bg JI) fun yz =>
   aK (Mem.ld yz ⟨k1, 0, none⟩) .i64 fun Mi =>
   aK (Mem.ld yz ⟨k1, (0 + 1), none⟩) .i64 fun DY =>
   aK (Mem.ld yz ⟨k1, (0 + 2), none⟩) .i64 fun Gg =>
   aD (Mem.ld yz ⟨k1, (0 + 3), none⟩) fun S9 Ie Ta =>
   K (.agg #[(.int .i64 Mi), (.int .i64 DY), (.int .i64 Gg), (.slice S9 Ie Ta)]) yz)) Kp)
  (aK (Mem.ld mW ⟨k6, ((k7 + ((Int.toNat x1) * 3)) + 2), none⟩) .i64 fun HZ =>
  aV (HZ == 0)
   (aO mW ⟨k6, ((k7 + ((Int.toNat x1) * 3)) + 1), none⟩ (.int .i64 (-1)) fun Fj =>
   bL (Mem.ld Fj ⟨b0, o0, none⟩) fun A84 =>
   ae Tryz.prog 65 #[(.pointer A84), (.int .i64 n8)] Fj (fun Xq AW =>
   aK (some Xq) .i64 fun XC =>
   aV (XC == 1)
    (bj AW (.cells #[(.int .i64 n8)] 3 (0, 0)) fun D6 Cl =>
    ae Tryz.prog 53 #[(.pointer (some ⟨b0, (o0 + 7), none⟩)), (.slice (some ⟨D6, 0, none⟩) 1 1)] Cl (fun Mv jK =>
    (Mv = (.tuple #[])) ∧
    aD (Mem.ld jK ⟨eE, (0 + 1), none⟩) fun S5 Mz PC =>
    aO jK ⟨k1, 0, none⟩ (.int .i64 7) fun Ee =>
    aO Ee ⟨k1, (0 + 1), none⟩ (.int .i64 x1) fun RB =>
    aO RB ⟨k1, (0 + 2), none⟩ (.int .i64 n8) fun K0 =>
    aO K0 ⟨k1, (0 + 3), none⟩ (.slice S5 Mz PC) fun Di =>
    aK (Mem.ld Di ⟨k1, 0, none⟩) .i64 fun JL =>
    aK (Mem.ld Di ⟨k1, (0 + 1), none⟩) .i64 fun tS =>
    aK (Mem.ld Di ⟨k1, (0 + 2), none⟩) .i64 fun Mj =>
    aD (Mem.ld Di ⟨k1, (0 + 3), none⟩) fun yF j5 z9 =>
    K (.agg #[(.int .i64 JL), (.int .i64 tS), (.int .i64 Mj), (.slice yF j5 z9)]) Di) Kp)
    (aD (Mem.ld AW ⟨eE, (0 + 1), none⟩) fun Cy w8 JQ =>
    aO AW ⟨k1, 0, none⟩ (.int .i64 7) fun wX =>
    aO wX ⟨k1, (0 + 1), none⟩ (.int .i64 x1) fun ny =>
    aO ny ⟨k1, (0 + 2), none⟩ (.int .i64 n8) fun Ug =>
    aO Ug ⟨k1, (0 + 3), none⟩ (.slice Cy w8 JQ) fun nG =>
    aK (Mem.ld nG ⟨k1, 0, none⟩) .i64 fun yn =>
    aK (Mem.ld nG ⟨k1, (0 + 1), none⟩) .i64 fun F0 =>
    aK (Mem.ld nG ⟨k1, (0 + 2), none⟩) .i64 fun Mk =>
    aD (Mem.ld nG ⟨k1, (0 + 3), none⟩) fun Uh JU Ui =>
    K (.agg #[(.int .i64 yn), (.int .i64 F0), (.int .i64 Mk), (.slice Uh JU Ui)]) nG)) Kp)
   (aD (Mem.ld mW ⟨eE, (0 + 1), none⟩) fun Uj CF Uk =>
   aO mW ⟨k1, 0, none⟩ (.int .i64 7) fun Ef =>
   aO Ef ⟨k1, (0 + 1), none⟩ (.int .i64 x1) fun Ul =>
   aO Ul ⟨k1, (0 + 2), none⟩ (.int .i64 n8) fun JV =>
   aO JV ⟨k1, (0 + 3), none⟩ (.slice Uj CF Uk) fun vw =>
   aK (Mem.ld vw ⟨k1, 0, none⟩) .i64 fun Gt =>
   aK (Mem.ld vw ⟨k1, (0 + 1), none⟩) .i64 fun Um =>
   aK (Mem.ld vw ⟨k1, (0 + 2), none⟩) .i64 fun yG =>
   aD (Mem.ld vw ⟨k1, (0 + 3), none⟩) fun Un MZ Uo =>
   K (.agg #[(.int .i64 Gt), (.int .i64 Um), (.int .i64 yG), (.slice Un MZ Uo)]) vw)))) Kp) :
 ae Tryz.prog 102 ([.pointer (some ⟨b0, o0, none⟩), .int .i64 x1] : List Value).toArray M K Kp :=
 aA (C := Cx) good [(3, .bS [0, 1, 3, 7, 0, 0, 32, 96, 224, 480, 1023, 0, 4095] (.step 0 (.step 1 (.step 2 (.step 4 (.step 5 (.step 6 (.step 7 (.step 3 (.step 8 (.step 9 (.late 10 (.step 11 (.step 12 .done)))))))))))))), (2000000, .loop [(34, .c (.int .i64))]), (7, .bS [0, 1, 3, 7, 0, 16, 48, 112, 255, 511, 1023, 0, 0, 4096, 12288, 32767] (.step 0 (.step 1 (.step 2 (.step 4 (.step 5 (.step 6 (.step 11 (.step 12 (.step 13 (.step 14 (.step 3 (.step 7 (.step 8 (.step 9 (.step 10 (.step 15 .done)))))))))))))))))] Tryz.func102 (by kernel_rfl) (by kernel_rfl) h
theorem sV {b0 o0 : Nat} {b1 o1 : Nat} (h :
bL (Mem.ld M ⟨b1, o1, none⟩) fun A1 =>
ae Tryz.prog 177 #[(.pointer A1), (.pointer (some ⟨b0, (o0 + 7), none⟩))] M (fun v2 M3 =>
aK (some v2) .i64 fun n4 =>
rI M3 b1 (o1 + 1) fun n5 =>
((7 : Int) ≠ 0) ∧
aV ((Int.tmod n5 7) == 6)
 (ae Tryz.prog 178 #[(.pointer (some ⟨b0, (o0 + 7), none⟩)), (iV 1)] M3 (fun v6 M7 =>
 aD (some v6) fun A8 k9 eA =>
 aV (((k9 : Nat) : Int) == 1)
 (((0 : Int) ≤ 0) ∧
 ((0 : Int) < ((k9 : Nat) : Int)) ∧
 aI A8 fun eB fK =>
 rI M7 eB (fK + 0) fun jg =>
 K (.tuple #[(iV jg), (.bool true)]) M7)
 (bL (Mem.ld M7 ⟨b1, o1, none⟩) fun nY =>
 ae Tryz.prog 131 #[(.pointer nY)] M7 (fun Co eT =>
 ∃ hU : Int, ∃ t18 : Bool, (Co = (.tuple #[(iV hU), (.bool t18)])) ∧
 aV t18
 (K (.tuple #[(iV hU), (.bool true)]) eT)
 (bL (Mem.ld eT ⟨b1, o1, none⟩) fun zH =>
 ae Tryz.prog 179 #[(.pointer zH), (.pointer (some ⟨b0, (o0 + 7), none⟩)), (iV 0)] eT (fun v20 iP =>
 ∃ rU : Int, ∃ t23 : Bool, (v20 = (.tuple #[(iV rU), (.bool t23)])) ∧
 K (.tuple #[(iV rU), (.bool t23)]) iP) Kp)) Kp)) Kp)
 (bL (Mem.ld M3 ⟨b1, o1, none⟩) fun F2 =>
 ae Tryz.prog 131 #[(.pointer F2)] M3 (fun SX wj =>
 ∃ xA : Int, ∃ t28 : Bool, (SX = (.tuple #[(iV xA), (.bool t28)])) ∧
 aV t28
 (K (.tuple #[(iV xA), (.bool true)]) wj)
 (bL (Mem.ld wj ⟨b1, o1, none⟩) fun Rp =>
 ae Tryz.prog 179 #[(.pointer Rp), (.pointer (some ⟨b0, (o0 + 7), none⟩)), (iV 0)] wj (fun v30 Be =>
 ∃ n32 : Int, ∃ t33 : Bool, (v30 = (.tuple #[(iV n32), (.bool t33)])) ∧
 K (.tuple #[(iV n32), (.bool t33)]) Be) Kp)) Kp)) Kp) :
 ae Tryz.prog 132 ([.pointer (some ⟨b0, o0, none⟩), .pointer (some ⟨b1, o1, none⟩)] : List Value).toArray M K Kp :=
 aA (C := Cx) good [(1, .bS [0, 1, 3, 7, 0, 16, 48, 127] (.step 0 (.step 1 (.step 2 (.step 4 (.step 5 (.step 6 (.step 3 (.step 7 .done))))))))), (9, .bS [0, 1, 3, 7, 0, 16, 48, 127, 255, 255, 1023, 2047] (.step 0 (.step 1 (.step 2 (.step 4 (.step 5 (.step 6 (.step 3 (.step 7 (.step 8 (.step 9 (.step 10 (.step 11 .done)))))))))))))] Tryz.func132 (by kernel_rfl) (by kernel_rfl) h
end Go.Proofs
namespace Go.AF
theorem aF.two : ∀ (zs : List HP) (i j : Nat), i ≠ j → i < zs.length → j < zs.length → ∃ rest, ∀ P Q, ∃ l1, aF ((zs.set i P).set j Q) P l1 ∧ aF l1 Q rest
 | [], _, _, _, h, _ => by simp at h
 | z :: zs, 0, 0, h, _, _ => absurd rfl h
 | z :: zs, 0, j + 1, _, _, hj => ⟨zs.eraseIdx j, fun P Q => ⟨zs.set j Q, by simp only [List.set_cons_zero, List.set_cons_succ]; exact .here, aF.idx (by simpa using hj)⟩⟩
 | z :: zs, i + 1, 0, _, hi, _ => ⟨zs.eraseIdx i, fun P Q => ⟨Q :: zs.eraseIdx i, by simp only [List.set_cons_zero, List.set_cons_succ]; exact .there (aF.idx (by simpa using hi)), .here⟩⟩
 | z :: zs, i + 1, j + 1, h, hi, hj => by
  obtain ⟨rest, hr⟩ := aF.two zs i j (by omega) (by simpa using hi) (by simpa using hj)
  refine ⟨z :: rest, fun P Q => ?_⟩
  obtain ⟨l1, h1, h2⟩ := hr P Q
  exact ⟨z :: l1, by simp only [List.set_cons_succ]; exact .there h1, .there h2⟩
section
variable {α : Type} {r : tu α} {R : Mem} {L L' nm : List HP} {M : Mem} {bs : List Nat} {cs : List α} {b b' i j : Nat} {c c' : α}
theorem Hp.Na (h : Hp R L M) (r : tu α) {bs : List Nat} {cs : List α} [o : fD r L bs cs L'] (hij : i ≠ j) (hb : bs[i]? = some b) (hc : cs[i]? = some c) (hb' : bs[j]? = some b') (Fi : cs[j]? = some c') :
  ∃ X : HP, Hp R (aB r b c :: aB r b' c' :: X :: L') M ∧ ∀ {R' : Mem} {L2 : List HP} {M' : Mem} {d d' : α}, Hp R' (aB r b d :: aB r b' d' :: X :: L2) M' → Hp R' (bn r bs ((cs.set i d).set j d') :: L2) M' := by
 have hi := (List.getElem?_eq_some_iff.1 hb).1
 have hj := (List.getElem?_eq_some_iff.1 hb').1
 have K4 := (List.getElem?_eq_some_iff.1 hc).1
 have KO := (List.getElem?_eq_some_iff.1 Fi).1
 have hl : (List.zipWith (aB r) bs cs).length = min bs.length cs.length := List.length_zipWith
 obtain ⟨rest, hr⟩ := aF.two (List.zipWith (aB r) bs cs) i j hij (by omega) (by omega)
 refine ⟨sep rest, ?_, ?_⟩
 ·have h0 : Hp R (sep (List.zipWith (aB r) bs cs) :: L') M := h.pick o.pick
  obtain ⟨l1, p1, p2⟩ := hr (aB r b c) (aB r b' c')
  have e : ((List.zipWith (aB r) bs cs).set i (aB r b c)).set j (aB r b' c') = List.zipWith (aB r) bs cs := by
   rw [nC hb, nC hb']
   congr 1
   obtain ⟨_, e1⟩ := List.getElem?_eq_some_iff.1 hc
   obtain ⟨_, e2⟩ := List.getElem?_eq_some_iff.1 Fi
   subst e1; subst e2
   rw [List.set_getElem_self, List.set_getElem_self]
  rw [e] at p1
  refine h0.map fun A hs => ?_
  have h1 := bW.pick p1.app (bW.bl.1 hs)
  exact h1.tail fun B OI => (bW.pick p2.app OI).tail fun C Cq => bW.bl.2 Cq
 ·intro R' L2 M' d d' h1
  obtain ⟨l1, p1, p2⟩ := hr (aB r b d) (aB r b' d')
  rw [nC hb, nC hb'] at p1
  show Hp R' (sep (List.zipWith (aB r) bs ((cs.set i d).set j d')) :: L2) M'
  refine h1.map fun A hs => bW.bl.2 (bW.nj p1.app ?_)
  exact hs.tail fun B OI => bW.nj p2.app (OI.tail fun C Cq => bW.bl.1 Cq)
end
end Go.AF
namespace Go.Proofs
open Go.AF
set_option maxRecDepth 100000
variable {M : Mem} {K : Value → Mem → Prop} {Kp : List PanicEntry → Mem → Prop}
theorem rG {jl : Option Addr} {jm jn : Nat} {jo : Option Addr} {jq jr : Nat} {gn : Int} {js : Option Addr} {jt ju : Nat} (h :
bj M (.cells #[(.slice jl jm jn), (.slice jo jq jr), (iV gn), (.slice js jt ju)] 73 (0, 0)) fun k1 M2 =>
bj M2 (.cells #[(.slice none 0 0), (.slice none 0 0), (iV 0), (.slice none 0 0)] 41 (0, 0)) fun k3 M4 =>
rS M4 k1 1 fun A5 k6 k7 =>
rI M4 k1 2 fun n8 =>
bj M4 (.cells #[] 3 (0, 0)) fun k9 gS =>
(True) ∧
aS Tryz.prog (Go.Builtin.append_ #[38, 38] 38 #[(.slice (some ⟨k9, 0, none⟩) 0 0), (.slice A5 k6 k7)]) gS (fun v11 jH =>
aD (some v11) fun KP fX fT =>
((Mem.ld jH ⟨k1, 2, none⟩) = (some (iV n8))) ∧
bj jH (.cells #[(.slice none 0 0), (.slice none 0 0), (iV 0), (.slice none 0 0)] 41 (0, 0)) fun dF jO =>
sT jO dF 0 (.slice none 0 0) fun mC =>
sT mC dF 1 (.slice KP fX fT) fun hH =>
sT hH dF 2 (iV n8) fun nx =>
sT nx dF 3 (.slice none 0 0) fun iP =>
((Mem.ld iP ⟨k1, 2, none⟩) = (some (iV n8))) ∧
rS iP k1 0 fun Pv iL qF =>
∃ Tb : Nat → List Value → Mem → Prop, (∃ lC : Nat, Tb lC [(iV 0)] iP) ∧
∀ oh : Nat, ∀ Tc : Nat → Value, ∀ wA : Int, ∀ oe : Mem, (Tb oh [(iV wA)] oe) → aV (decide ((wA : Int) < ((iL : Nat) : Int)))
 (((0 : Int) ≤ wA) ∧
 ((wA : Int) < ((iL : Nat) : Int)) ∧
 aI Pv fun nA tw =>
 rS oe nA (tw + (Int.toNat wA)) fun Jy tR sA =>
 bj oe (.cells #[] 34 (0, 0)) fun De Cs =>
 ∃ I38 : Nat → List Value → Mem → Prop, (∃ vn : Nat, I38 vn [(.slice (some ⟨De, 0, none⟩) 0 0), (iV 0)] Cs) ∧
 ∀ zR : Nat, ∀ junk41 : Nat → Value, ∀ KU : Option Addr, ∀ nW : Nat, ∀ Jz : Nat, ∀ uN : Int, ∀ wE : Mem, (I38 zR [(.slice KU nW Jz), (iV uN)] wE) → aV (decide ((uN : Int) < ((tR : Nat) : Int)))
 (((0 : Int) ≤ uN) ∧
 ((uN : Int) < ((tR : Nat) : Int)) ∧
 aI Jy fun KS Bb =>
 rI wE KS (Bb + ((Int.toNat uN) * 4)) fun Fo =>
 rI wE KS ((Bb + ((Int.toNat uN) * 4)) + 1) fun Bc =>
 rI wE KS ((Bb + ((Int.toNat uN) * 4)) + 2) fun zY =>
 rI wE KS ((Bb + ((Int.toNat uN) * 4)) + 3) fun Xh =>
 bj wE (.cells #[(iV 0), (iV 0), (iV 0), (iV 0)] 109 (0, 0)) fun jI Ci =>
 sT Ci jI 0 (iV Fo) fun mV =>
 sT mV jI 1 (iV Bc) fun Fg =>
 sT Fg jI 2 (iV zY) fun wW =>
 sT wW jI 3 (iV Xh) fun Gc =>
 rI Gc jI 0 fun Cj =>
 rI Gc jI 1 fun HY =>
 rI Gc jI 2 fun JA =>
 rI Gc jI 3 fun KX =>
 bj Gc (.cells #[(iV Cj), (iV HY), (iV JA), (iV KX)] 34 (0, 0)) fun ON zZ =>
 aS Tryz.prog (Go.Builtin.append_ #[31, 31] 31 #[(.slice KU nW Jz), (.slice (some ⟨ON, 0, none⟩) 1 1)]) zZ (fun v65 Ru =>
 aD (some v65) fun A67 Ih Ii =>
 ∃ Bg : Nat, (Bg < zR) ∧
 I38 Bg [(.slice A67 Ih Ii), (iV (IntKind.wrap .i64 (uN + 1)))] Ru) Kp)
 (rS wE dF 0 fun JK Ic Mx =>
 bj wE (.cells #[(.slice KU nW Jz)] 31 (0, 0)) fun Ry yz =>
 aS Tryz.prog (Go.Builtin.append_ #[37, 37] 37 #[(.slice JK Ic Mx), (.slice (some ⟨Ry, 0, none⟩) 1 1)]) yz (fun Tg Mw =>
 aD (some Tg) fun Th Fm Ie =>
 sT Mw dF 0 (.slice Th Fm Ie) fun My =>
 ∃ Gd : Nat, (Gd < oh) ∧
 Tb Gd [(iV (IntKind.wrap .i64 (wA + 1)))] My) Kp))
 (rS oe k1 3 fun A83 Zs K3 =>
 ∃ I86 : Nat → List Value → Mem → Prop, (∃ OO : Nat, I86 OO [(iV 0)] oe) ∧
 ∀ D6 : Nat, ∀ junk89 : Nat → Value, ∀ K5 : Int, ∀ jK : Mem, (I86 D6 [(iV K5)] jK) → aV (decide ((K5 : Int) < ((Zs : Nat) : Int)))
 (((0 : Int) ≤ K5) ∧
 ((K5 : Int) < ((Zs : Nat) : Int)) ∧
 aI A83 fun wF Mz =>
 rI jK wF (Mz + ((Int.toNat K5) * 3)) fun Po =>
 rI jK wF ((Mz + ((Int.toNat K5) * 3)) + 1) fun JC =>
 rI jK wF ((Mz + ((Int.toNat K5) * 3)) + 2) fun JD =>
 bj jK (.cells #[(iV 0), (iV 0), (iV 0)] 171 (0, 0)) fun RD Di =>
 sT Di RD 0 (iV Po) fun S6 =>
 sT S6 RD 1 (iV JC) fun M100 =>
 sT M100 RD 2 (iV JD) fun gF =>
 rS gF dF 3 fun yF j5 z9 =>
 rI gF RD 0 fun n105 =>
 rI gF RD 1 fun Up =>
 rI gF RD 2 fun CG =>
 bj gF (.cells #[(iV n105), (iV Up), (iV CG)] 172 (0, 0)) fun k108 ny =>
 aS Tryz.prog (Go.Builtin.append_ #[39, 39] 39 #[(.slice yF j5 z9), (.slice (some ⟨k108, 0, none⟩) 1 1)]) ny (fun v110 nG =>
 aD (some v110) fun A112 Cz Tj =>
 sT nG dF 3 (.slice A112 Cz Tj) fun Gi =>
 ∃ JU : Nat, (JU < D6) ∧
 I86 JU [(iV (IntKind.wrap .i64 (K5 + 1)))] Gi) Kp)
 (rS jK dF 0 fun Nb Nc CF =>
 rS jK dF 1 fun A120 PS k122 =>
 rI jK dF 2 fun Uq =>
 rS jK dF 3 fun A124 MB Ur =>
 sT jK k3 0 (.slice Nb Nc CF) fun JM =>
 sT JM k3 1 (.slice A120 PS k122) fun M128 =>
 sT M128 k3 2 (iV Uq) fun Us =>
 sT Us k3 3 (.slice A124 MB Ur) fun kP =>
 rS kP k3 0 fun xg D9 JN =>
 rS kP k3 1 fun Ut Ae oG =>
 rI kP k3 2 fun Uu =>
 rS kP k3 3 fun A138 XD k140 =>
 K (.agg #[(.slice xg D9 JN), (.slice Ut Ae oG), (iV Uu), (.slice A138 XD k140)]) kP))) Kp) :
 ae Tryz.prog 29 ([.agg #[.slice jl jm jn, .slice jo jq jr, .int .i64 gn, .slice js jt ju]] : List Value).toArray M K Kp :=
 aA (C := Cx) good [(1, .bS [0, 0, 2, 7, 0, 16, 63, 0, 255] (.step 1 (.step 4 (.step 2 (.dx 5 (.step 0 (.late 3 (.step 6 (.step 7 (.step 8 .done)))))))))), (2000000, .loop [(21, .c (.int .i64))]), (2000002, .loop [(6, .c .sl), (28, .c (.int .i64))]), (2000004, .loop [(55, .c (.int .i64))])] Tryz.func29 (by kernel_rfl) (by kernel_rfl) h
theorem pP {jl : Option Addr} {jm jn : Nat} {jo : Option Addr} {jq jr : Nat} {gn : Int} {js : Option Addr} {jt ju : Nat} (h :
bj M (.cells #[(.slice jl jm jn), (.slice jo jq jr), (iV gn), (.slice js jt ju)] 73 (0, 0)) fun k1 M2 =>
bj M2 (.cells #[(.slice none 0 0), (.slice none 0 0), (iV 0), (.slice none 0 0)] 73 (0, 0)) fun k3 M4 =>
rI M4 k1 2 fun n5 =>
ae Tryz.prog 69 #[(iV n5), (iV 4)] M4 (fun v6 M7 =>
aK (some v6) .i64 fun n8 =>
bj M7 (.cells #[(.slice none 0 0), (.slice none 0 0), (iV 0), (.slice none 0 0)] 73 (0, 0)) fun k9 gS =>
sT gS k9 0 (.slice none 0 0) fun iq =>
sT iq k9 1 (.slice none 0 0) fun jH =>
sT jH k9 2 (iV n8) fun jN =>
sT jN k9 3 (.slice none 0 0) fun ik =>
∃ J15 : List Value → Mem → Prop, (∃ I16 : Nat → List Value → Mem → Prop, (∃ eE : Nat, I16 eE [(iV 0)] ik) ∧
 ∀ dS : Nat, ∀ junk19 : Nat → Value, ∀ fq : Int, ∀ iP : Mem, (I16 dS [(iV fq)] iP) → rS iP k1 1 fun Pv iL qF =>
 aV (decide ((fq : Int) < ((iL : Nat) : Int)))
 (aV (decide ((fq : Int) < 4))
 (∃ J25 : List Value → Mem → Prop, (rS iP k1 1 fun Fl oh lg =>
 ((0 : Int) ≤ fq) ∧
 ((fq : Int) < ((oh : Nat) : Int)) ∧
 aI Fl fun jZ kZ =>
 rI iP jZ (kZ + (Int.toNat fq)) fun tv =>
 (rS iP k9 1 fun Xr nE tR =>
 ae Tryz.prog 69 #[(iV tv), (iV 4)] iP (fun v35 oQ =>
 aK (some v35) .i64 fun Md =>
 bj oQ (.cells #[(iV Md)] 3 (0, 0)) fun gL V5 =>
 aS Tryz.prog (Go.Builtin.append_ #[38, 38] 38 #[(.slice Xr nE tR), (.slice (some ⟨gL, 0, none⟩) 1 1)]) V5 (fun H8 wZ =>
 aD (some H8) fun KU nW Jz =>
 sT wZ k9 1 (.slice KU nW Jz) fun mW =>
 J25 [] mW) Kp) Kp) ∧
 (ae Tryz.prog 69 #[(iV tv), (iV 4)] iP (fun Zt rY =>
 aK (some Zt) .i64 fun zI =>
 rS rY k9 1 fun Te yh Bf =>
 bj rY (.cells #[(iV zI)] 3 (0, 0)) fun kj Ct =>
 aS Tryz.prog (Go.Builtin.append_ #[38, 38] 38 #[(.slice Te yh Bf), (.slice (some ⟨kj, 0, none⟩) 1 1)]) Ct (fun MF mV =>
 aD (some MF) fun PR rZ DX =>
 sT mV k9 1 (.slice PR rZ DX) fun xD =>
 J25 [] xD) Kp) Kp) ∧
 True) ∧
 ∀ junk60 : Nat → Value, ∀ vf : Mem, (J25 [] vf) → ∃ Pz : Nat, (Pz < dS) ∧
 I16 Pz [(iV (IntKind.wrap .i64 (fq + 1)))] vf)
 (J15 [] iP))
 (J15 [] iP)) ∧
∀ junk63 : Nat → Value, ∀ zZ : Mem, (J15 [] zZ) → ∃ J65 : List Value → Mem → Prop, (∃ I66 : Nat → List Value → Mem → Prop, (∃ w7 : Nat, I66 w7 [(iV 0)] zZ) ∧
 ∀ Ih : Nat, ∀ junk69 : Nat → Value, ∀ PT : Int, ∀ Dd : Mem, (I66 Ih [(iV PT)] Dd) → rS Dd k1 3 fun A72 Mx Ry =>
 aV (decide ((PT : Int) < ((Mx : Nat) : Int)))
 (aV (decide ((PT : Int) < 8))
 (rS Dd k1 3 fun We RE PB =>
 ((0 : Int) ≤ PT) ∧
 ((PT : Int) < ((RE : Nat) : Int)) ∧
 aI We fun JJ Fm =>
 rI Dd JJ (Fm + ((Int.toNat PT) * 3)) fun Xc =>
 rI Dd JJ ((Fm + ((Int.toNat PT) * 3)) + 1) fun RF =>
 rI Dd JJ ((Fm + ((Int.toNat PT) * 3)) + 2) fun HZ =>
 bj Dd (.cells #[(iV 0), (iV 0), (iV 0)] 171 (0, 0)) fun vr Dg =>
 sT Dg vr 0 (iV Xc) fun Xp =>
 sT Xp vr 1 (iV RF) fun AW =>
 sT AW vr 2 (iV HZ) fun zG =>
 rI zG vr 0 fun Wf =>
 rI zG vr 1 fun OP =>
 rS zG k9 1 fun Wb PG wF =>
 rI zG vr 2 fun Uv =>
 (True) ∧
 ae Tryz.prog 69 #[(iV Wf), (iV 3)] zG (fun v94 Ee =>
 aK (some v94) .i64 fun JD =>
 ((Mem.ld Ee ⟨vr, 2, none⟩) = (some (iV Uv))) ∧
 ((Mem.ld Ee ⟨k9, 1, none⟩) = (some (.slice Wb PG wF))) ∧
 ((Mem.ld Ee ⟨vr, 1, none⟩) = (some (iV OP))) ∧
 (True) ∧
 ae Tryz.prog 69 #[(iV OP), (iV ((PG : Nat) : Int))] Ee (fun v97 Di =>
 aK (some v97) .i64 fun JL =>
 ((Mem.ld Di ⟨vr, 2, none⟩) = (some (iV Uv))) ∧
 ((Mem.ld Di ⟨k9, 1, none⟩) = (some (.slice Wb PG wF))) ∧
 ((Mem.ld Di ⟨vr, 1, none⟩) = (some (iV OP))) ∧
 (True) ∧
 ae Tryz.prog 69 #[(iV Uv), (iV 8)] Di (fun Nd gF =>
 aK (some Nd) .i64 fun FY =>
 ((Mem.ld gF ⟨vr, 2, none⟩) = (some (iV Uv))) ∧
 ((Mem.ld gF ⟨k9, 1, none⟩) = (some (.slice Wb PG wF))) ∧
 ((Mem.ld gF ⟨vr, 1, none⟩) = (some (iV OP))) ∧
 bj gF (.cells #[(iV 0), (iV 0), (iV 0)] 171 (0, 0)) fun j5 FZ =>
 sT FZ j5 0 (iV JD) fun mB =>
 sT mB j5 1 (iV JL) fun yl =>
 sT yl j5 2 (iV FY) fun ym =>
 ((Mem.ld ym ⟨vr, 2, none⟩) = (some (iV Uv))) ∧
 ((Mem.ld ym ⟨k9, 1, none⟩) = (some (.slice Wb PG wF))) ∧
 ((Mem.ld ym ⟨vr, 1, none⟩) = (some (iV OP))) ∧
 rS ym k9 1 fun A108 Aa JR =>
 ∃ Uw : List Value → Mem → Prop, (aV (((Aa : Nat) : Int) == 0)
 (sT ym j5 0 (iV 2) fun Ux =>
 sT Ux j5 1 (iV 0) fun M113 =>
 sT M113 j5 2 (iV 0) fun sS =>
 Uw [] sS)
 (Uw [] ym)) ∧
 ∀ Zu : Nat → Value, ∀ oF : Mem, (Uw [] oF) → rS oF k9 3 fun Nb Nc CF =>
 rI oF j5 0 fun yB =>
 rI oF j5 1 fun yC =>
 rI oF j5 2 fun MA =>
 bj oF (.cells #[(iV yB), (iV yC), (iV MA)] 171 (0, 0)) fun CA vw =>
 aS Tryz.prog (Go.Builtin.append_ #[71, 71] 71 #[(.slice Nb Nc CF), (.slice (some ⟨CA, 0, none⟩) 1 1)]) vw (fun v125 M126 =>
 aD (some v125) fun A127 PU MZ =>
 sT M126 k9 3 (.slice A127 PU MZ) fun kP =>
 ∃ XE : Nat, (XE < Ih) ∧
 I66 XE [(iV (IntKind.wrap .i64 (PT + 1)))] kP) Kp) Kp) Kp) Kp)
 (J65 [] Dd))
 (J65 [] Dd)) ∧
∀ Zv : Nat → Value, ∀ Gu : Mem, (J65 [] Gu) → rS Gu k1 0 fun Ut Ae oG =>
rS Gu k1 0 fun A137 Af XD =>
((0 : Int) ≤ ((oG : Nat) : Int)) ∧
((((oG : Nat) : Int) : Int) ≤ ((oG : Nat) : Int)) ∧
((0 : Int) ≤ (if (5 : Int) < ((Af : Nat) : Int) then 5 else ((Af : Nat) : Int))) ∧
(((if (5 : Int) < ((Af : Nat) : Int) then 5 else ((Af : Nat) : Int)) : Int) ≤ ((oG : Nat) : Int)) ∧
((0 : Int) ≤ 0) ∧
((0 : Int) ≤ (if (5 : Int) < ((Af : Nat) : Int) then 5 else ((Af : Nat) : Int))) ∧
∃ Uy : List Value → Mem → Prop, (aV (((((Int.toNat (if (5 : Int) < ((Af : Nat) : Int) then 5 else ((Af : Nat) : Int))) - 0) : Nat) : Int) == 0)
 (bj Gu (.cells #[(iV 0), (iV 0), (iV 0), (iV 0)] 109 (0, 0)) fun k141 Eb =>
 bj Eb (.cells #[(.slice (some ⟨k141, 0, none⟩) 1 1)] 115 (0, 0)) fun k143 M144 =>
 Uy [(.slice (some ⟨k143, 0, none⟩) 1 1)] M144)
 (Uy [(.slice (lj Ut 0 (Int.toNat ((oG : Nat) : Int)) 1) ((Int.toNat (if (5 : Int) < ((Af : Nat) : Int) then 5 else ((Af : Nat) : Int))) - 0) ((Int.toNat ((oG : Nat) : Int)) - 0))] Gu)) ∧
∀ PV : Nat → Value, ∀ XF : Option Addr, ∀ Nf : Nat, ∀ ML : Nat, ∀ vu : Mem, (Uy [(.slice XF Nf ML)] vu) → aS Tryz.prog (Go.Instr.makeSlice 70 (iV ((Nf : Nat) : Int)) (iV ((Nf : Nat) : Int))) vu (fun v150 yI =>
aD (some v150) fun MM MN ME =>
sT yI k9 0 (.slice MM MN ME) fun M155 =>
∃ Uz : Nat → List Value → Mem → Prop, (∃ Tv : Nat, Uz Tv [(iV 0)] M155) ∧
∀ XG : Nat, ∀ Zw : Nat → Value, ∀ yM : Int, ∀ vv : Mem, (Uz XG [(iV yM)] vv) → aV (decide ((yM : Int) < ((Nf : Nat) : Int)))
 (((0 : Int) ≤ yM) ∧
 ((yM : Int) < ((Nf : Nat) : Int)) ∧
 aI XF fun MO MP =>
 rS vv MO (MP + (Int.toNat yM)) fun A164 Ag JW =>
 ((0 : Int) ≤ ((JW : Nat) : Int)) ∧
 ((((JW : Nat) : Int) : Int) ≤ ((JW : Nat) : Int)) ∧
 ((0 : Int) ≤ (if (20 : Int) < ((Ag : Nat) : Int) then 20 else ((Ag : Nat) : Int))) ∧
 (((if (20 : Int) < ((Ag : Nat) : Int) then 20 else ((Ag : Nat) : Int)) : Int) ≤ ((JW : Nat) : Int)) ∧
 ((0 : Int) ≤ 0) ∧
 ((0 : Int) ≤ (if (20 : Int) < ((Ag : Nat) : Int) then 20 else ((Ag : Nat) : Int))) ∧
 ∃ UA : List Value → Mem → Prop, (aV (((((Int.toNat (if (20 : Int) < ((Ag : Nat) : Int) then 20 else ((Ag : Nat) : Int))) - 0) : Nat) : Int) == 0)
 (bj vv (.cells #[(iV 0), (iV 0), (iV 0), (iV 0)] 109 (0, 0)) fun k168 M169 =>
 UA [(.slice (some ⟨k168, 0, none⟩) 1 1)] M169)
 (UA [(.slice (lj A164 0 (Int.toNat ((JW : Nat) : Int)) 4) ((Int.toNat (if (20 : Int) < ((Ag : Nat) : Int) then 20 else ((Ag : Nat) : Int))) - 0) ((Int.toNat ((JW : Nat) : Int)) - 0))] vv)) ∧
 ∀ Zx : Nat → Value, ∀ UB : Option Addr, ∀ PW : Nat, ∀ JT : Nat, ∀ XH : Mem, (UA [(.slice UB PW JT)] XH) → bj XH (.cells #[] 109 (0, 0)) fun k175 M176 =>
 ∃ UC : Nat → List Value → Mem → Prop, (∃ k178 : Nat, UC k178 [(.slice (some ⟨k175, 0, none⟩) 0 0), (iV 0)] M176) ∧
 ∀ XI : Nat, ∀ Zy : Nat → Value, ∀ UD : Option Addr, ∀ UE : Nat, ∀ UF : Nat, ∀ CH : Int, ∀ Eg : Mem, (UC XI [(.slice UD UE UF), (iV CH)] Eg) → aV (decide ((CH : Int) < ((PW : Nat) : Int)))
 (((0 : Int) ≤ CH) ∧
 ((CH : Int) < ((PW : Nat) : Int)) ∧
 aI UB fun PX PY =>
 rI Eg PX (PY + ((Int.toNat CH) * 4)) fun Gk =>
 rI Eg PX ((PY + ((Int.toNat CH) * 4)) + 1) fun UG =>
 rI Eg PX ((PY + ((Int.toNat CH) * 4)) + 2) fun UH =>
 rI Eg PX ((PY + ((Int.toNat CH) * 4)) + 3) fun n191 =>
 bj Eg (.cells #[(iV 0), (iV 0), (iV 0), (iV 0)] 109 (0, 0)) fun CE UI =>
 sT UI CE 0 (iV Gk) fun Gv =>
 sT Gv CE 1 (iV UG) fun M195 =>
 sT M195 CE 2 (iV UH) fun M196 =>
 sT M196 CE 3 (iV n191) fun yK =>
 rS yK k9 0 fun A198 k199 k200 =>
 rS yK k9 1 fun A201 k202 k203 =>
 rI yK k9 2 fun n204 =>
 rS yK k9 3 fun TE TF Xy =>
 rI yK CE 0 fun UJ =>
 rI yK CE 1 fun UK =>
 rI yK CE 2 fun UL =>
 rI yK CE 3 fun UM =>
 ae Tryz.prog 70 #[(.agg #[(.slice A198 k199 k200), (.slice A201 k202 k203), (iV n204), (.slice TE TF Xy)]), (.slice UB PW JT), (.agg #[(iV UJ), (iV UK), (iV UL), (iV UM)])] yK (fun v212 TI =>
 ∃ PZ : Int, ∃ P0 : Int, ∃ P2 : Int, ∃ XJ : Int, (v212 = (.agg #[(iV PZ), (iV P0), (iV P2), (iV XJ)])) ∧
 bj TI (.cells #[(iV PZ), (iV P0), (iV P2), (iV XJ)] 109 (0, 0)) fun k218 UN =>
 aS Tryz.prog (Go.Builtin.append_ #[115, 115] 115 #[(.slice UD UE UF), (.slice (some ⟨k218, 0, none⟩) 1 1)]) UN (fun v220 M221 =>
 aD (some v220) fun A222 TJ k224 =>
 ∃ XK : Nat, (XK < XI) ∧
 UC XK [(.slice A222 TJ k224), (iV (IntKind.wrap .i64 (CH + 1)))] M221) Kp) Kp)
 (rS Eg k9 0 fun TL TM k228 =>
 ((0 : Int) ≤ yM) ∧
 ((yM : Int) < ((TM : Nat) : Int)) ∧
 aI TL fun k229 TN =>
 sT Eg k229 (TN + (Int.toNat yM)) (.slice UD UE UF) fun UO =>
 ∃ XL : Nat, (XL < XG) ∧
 Uz XL [(iV (IntKind.wrap .i64 (yM + 1)))] UO))
 (rS vv k9 0 fun A233 TO k235 =>
 rS vv k9 1 fun A236 TP k238 =>
 rI vv k9 2 fun n239 =>
 rS vv k9 3 fun A240 k241 k242 =>
 sT vv k3 0 (.slice A233 TO k235) fun M243 =>
 sT M243 k3 1 (.slice A236 TP k238) fun M244 =>
 sT M244 k3 2 (iV n239) fun M245 =>
 sT M245 k3 3 (.slice A240 k241 k242) fun Ng =>
 rS Ng k3 0 fun A247 TV k249 =>
 rS Ng k3 1 fun A250 k251 k252 =>
 rI Ng k3 2 fun n253 =>
 rS Ng k3 3 fun A254 k255 TX =>
 K (.agg #[(.slice A247 TV k249), (.slice A250 k251 k252), (iV n253), (.slice A254 k255 TX)]) Ng)) Kp) Kp) :
 ae Tryz.prog 35 ([.agg #[.slice jl jm jn, .slice jo jq jr, .int .i64 gn, .slice js jt ju]] : List Value).toArray M K Kp :=
 aA (C := Cx) good [(1000000, .cut []), (2000000, .loop [(4, .c (.int .i64))]), (5, .DK [0, 1, 0, 4, 0, 28, 60, 124, 252, 511, 1023, 2047] (.step 0 (.step 2 (.step 4 (.step 3 (.step 5 (.step 6 (.fork 1 (.step 7 (.step 8 (.step 9 (.step 10 (.step 11 .done))))) (.fork 7 (.step 1 (.step 8 (.step 9 (.step 10 (.step 11 .done))))) .dead)))))))) []), (1000002, .cut []), (2000002, .loop [(5, .c (.int .i64))]), (10, .bS [0, 1, 3, 0, 8, 0, 32, 96, 255, 0, 512, 2047, 4095, 0, 16383] (.step 0 (.step 3 (.step 5 (.step 9 (.step 1 (.dx 4 (.dx 6 (.step 7 (.dx 10 (.late 2 (.late 8 (.late 11 (.step 12 (.step 13 (.step 14 .done)))))))))))))))), (3000072, .cut []), (3000089, .cut [(8, .c .sl)]), (2000004, .loop [(99, .c (.int .i64))]), (3000111, .cut [(10, .c .sl)]), (2000006, .loop [(11, .c .sl), (117, .c (.int .i64))])] Tryz.func35 (by kernel_rfl) (by kernel_rfl) h
theorem rH {x0 : Int} {x1 : Int} (h :
aV (decide ((x1 : Int) < 1))
 (K (iV 0) M)
 (((x1 : Int) ≠ 0) ∧
 ((x1 : Int) ≠ 0) ∧
 K (iV (Int.tmod (IntKind.wrap .i64 ((Int.tmod x0 x1) + x1)) x1)) M)) :
 ae Tryz.prog 69 ([.int .i64 x0, .int .i64 x1] : List Value).toArray M K Kp :=
 aA (C := Cx) good [] Tryz.func69 (by kernel_rfl) (by kernel_rfl) h
theorem rJ {jl : Option Addr} {jm jn : Nat} {jo : Option Addr} {jq jr : Nat} {gn : Int} {js : Option Addr} {jt ju : Nat} {B1 : Option Addr} {m1 c1 : Nat} {Mq : Int} {Mr : Int} {Ms : Int} {Mt : Int} (h :
bj M (.cells #[(.slice jl jm jn), (.slice jo jq jr), (iV gn), (.slice js jt ju)] 73 (0, 0)) fun k1 M2 =>
bj M2 (.cells #[(iV Mq), (iV Mr), (iV Ms), (iV Mt)] 109 (0, 0)) fun k3 M4 =>
bj M4 (.cells #[(iV 0), (iV 0), (iV 0), (iV 0)] 109 (0, 0)) fun k5 M6 =>
rI M6 k3 0 fun n7 =>
ae Tryz.prog 69 #[(iV n7), (iV 23)] M6 (fun v8 M9 =>
aK (some v8) .i64 fun jP =>
sT M9 k3 0 (iV jP) fun iq =>
rI iq k3 1 fun jf =>
rI iq k3 2 fun jg =>
rI iq k3 3 fun je =>
ae Tryz.prog 69 #[(iV jf), (iV 8)] iq (fun Co eT =>
aK (some Co) .i64 fun hU =>
((Mem.ld eT ⟨k3, 3, none⟩) = (some (iV je))) ∧
((Mem.ld eT ⟨k3, 2, none⟩) = (some (iV jg))) ∧
ae Tryz.prog 69 #[(iV jg), (iV 8)] eT (fun DV hH =>
aK (some DV) .i64 fun fq =>
((Mem.ld hH ⟨k3, 3, none⟩) = (some (iV je))) ∧
((Mem.ld hH ⟨k3, 2, none⟩) = (some (iV jg))) ∧
ae Tryz.prog 69 #[(iV je), (iV 8)] hH (fun Xn cR =>
aK (some Xn) .i64 fun nB =>
((Mem.ld cR ⟨k3, 3, none⟩) = (some (iV je))) ∧
((Mem.ld cR ⟨k3, 2, none⟩) = (some (iV jg))) ∧
rS cR k1 0 fun F2 sw lC =>
rS cR k1 1 fun Rs lg jZ =>
rS cR k1 3 fun Fh nA tw =>
rI cR k3 0 fun kY =>
aV (kY == 1)
 (rI cR k3 2 fun Ps =>
 sT cR k5 0 (iV 1) fun qu =>
 sT qu k5 1 (iV hU) fun oQ =>
 sT oQ k5 2 (iV Ps) fun Cs =>
 sT Cs k5 3 (iV 0) fun jJ =>
 rI jJ k5 0 fun HV =>
 rI jJ k5 1 fun Ia =>
 rI jJ k5 2 fun RA =>
 rI jJ k5 3 fun Pt =>
 K (.agg #[(iV HV), (iV Ia), (iV RA), (iV Pt)]) jJ)
 (aV (kY == 2)
 (sT cR k5 0 (iV 2) fun tZ =>
 sT tZ k5 1 (iV hU) fun wD =>
 sT wD k5 2 (iV fq) fun mW =>
 sT mW k5 3 (iV 0) fun wE =>
 rI wE k5 0 fun AV =>
 rI wE k5 1 fun zI =>
 rI wE k5 2 fun Fo =>
 rI wE k5 3 fun Bc =>
 K (.agg #[(iV AV), (iV zI), (iV Fo), (iV Bc)]) wE)
 (aV (kY == 3)
 (rI cR k3 0 fun zY =>
 sT cR k5 0 (iV zY) fun Px =>
 sT Px k5 1 (iV hU) fun Ct =>
 sT Ct k5 2 (iV fq) fun Ci =>
 sT Ci k5 3 (iV nB) fun mV =>
 rI mV k5 0 fun Dh =>
 rI mV k5 1 fun S2 =>
 rI mV k5 2 fun DW =>
 rI mV k5 3 fun Cj =>
 K (.agg #[(iV Dh), (iV S2), (iV DW), (iV Cj)]) mV)
 (aV (kY == 4)
 (rI cR k3 0 fun HY =>
 sT cR k5 0 (iV HY) fun vf =>
 sT vf k5 1 (iV hU) fun qv =>
 sT qv k5 2 (iV fq) fun wk =>
 sT wk k5 3 (iV nB) fun zZ =>
 rI zZ k5 0 fun vg =>
 rI zZ k5 1 fun SL =>
 rI zZ k5 2 fun Xi =>
 rI zZ k5 3 fun H9 =>
 K (.agg #[(iV vg), (iV SL), (iV Xi), (iV H9)]) zZ)
 (aV (kY == 5)
 (rI cR k3 0 fun Rz =>
 sT cR k5 0 (iV Rz) fun zF =>
 sT zF k5 1 (iV hU) fun Dd =>
 sT Dd k5 2 (iV fq) fun vj =>
 sT vj k5 3 (iV nB) fun z0 =>
 rI z0 k5 0 fun Ig =>
 rI z0 k5 1 fun Mh =>
 rI z0 k5 2 fun Mi =>
 rI z0 k5 3 fun DY =>
 K (.agg #[(iV Ig), (iV Mh), (iV Mi), (iV DY)]) z0)
 (aV (kY == 6)
 (rI cR k3 0 fun Gg =>
 sT cR k5 0 (iV Gg) fun RH =>
 sT RH k5 1 (iV hU) fun xC =>
 sT xC k5 2 (iV fq) fun My =>
 sT My k5 3 (iV nB) fun K2 =>
 rI K2 k5 0 fun Ro =>
 rI K2 k5 1 fun JB =>
 rI K2 k5 2 fun z8 =>
 rI K2 k5 3 fun n86 =>
 K (.agg #[(iV Ro), (iV JB), (iV z8), (iV n86)]) K2)
 (aV (kY == 7)
 (rI cR k3 1 fun XC =>
 ae Tryz.prog 69 #[(iV XC), (iV ((m1 : Nat) : Int))] cR (fun v88 Cl =>
 aK (some v88) .i64 fun K5 =>
 sT Cl k5 0 (iV 7) fun jK =>
 sT jK k5 1 (iV K5) fun Tq =>
 sT Tq k5 2 (iV 0) fun yE =>
 sT yE k5 3 (iV 0) fun UP =>
 rI UP k5 0 fun JC =>
 rI UP k5 1 fun JD =>
 rI UP k5 2 fun n97 =>
 rI UP k5 3 fun V3 =>
 K (.agg #[(iV JC), (iV JD), (iV n97), (iV V3)]) UP) Kp)
 (aV (kY == 8)
 (rI cR k3 2 fun JL =>
 ae Tryz.prog 69 #[(iV JL), (iV ((m1 : Nat) : Int))] cR (fun Nd gF =>
 aK (some Nd) .i64 fun FY =>
 sT gF k5 0 (iV 8) fun Gf =>
 sT Gf k5 1 (iV hU) fun FZ =>
 sT FZ k5 2 (iV FY) fun mB =>
 sT mB k5 3 (iV 0) fun yl =>
 rI yl k5 0 fun CG =>
 rI yl k5 1 fun yA =>
 rI yl k5 2 fun UQ =>
 rI yl k5 3 fun DZ =>
 K (.agg #[(iV CG), (iV yA), (iV UQ), (iV DZ)]) yl) Kp)
 (aV (kY == 9)
 (rI cR k3 1 fun Ti =>
 rI cR k3 0 fun yn =>
 ae Tryz.prog 69 #[(iV Ti), (iV ((sw : Nat) : Int))] cR (fun v113 sS =>
 aK (some v113) .i64 fun UR =>
 ((Mem.ld sS ⟨k3, 0, none⟩) = (some (iV yn))) ∧
 sT sS k5 0 (iV yn) fun oF =>
 sT oF k5 1 (iV UR) fun vt =>
 sT vt k5 2 (iV fq) fun lU =>
 sT lU k5 3 (iV nB) fun xd =>
 ((Mem.ld xd ⟨k3, 0, none⟩) = (some (iV yn))) ∧
 rI xd k5 0 fun yB =>
 rI xd k5 1 fun yC =>
 rI xd k5 2 fun MA =>
 rI xd k5 3 fun Uq =>
 K (.agg #[(iV yB), (iV yC), (iV MA), (iV Uq)]) xd) Kp)
 (aV (kY == 11)
 (rI cR k3 1 fun n124 =>
 rI cR k3 0 fun Gt =>
 ae Tryz.prog 69 #[(iV n124), (iV ((sw : Nat) : Int))] cR (fun Tk JM =>
 aK (some Tk) .i64 fun xe =>
 ((Mem.ld JM ⟨k3, 0, none⟩) = (some (iV Gt))) ∧
 sT JM k5 0 (iV Gt) fun Us =>
 sT Us k5 1 (iV xe) fun kP =>
 sT kP k5 2 (iV fq) fun M131 =>
 sT M131 k5 3 (iV nB) fun JX =>
 ((Mem.ld JX ⟨k3, 0, none⟩) = (some (iV Gt))) ∧
 rI JX k5 0 fun n133 =>
 rI JX k5 1 fun US =>
 rI JX k5 2 fun n135 =>
 rI JX k5 3 fun n136 =>
 K (.agg #[(iV n133), (iV US), (iV n135), (iV n136)]) JX) Kp)
 (aV (kY == 10)
 (rI cR k3 0 fun Uu =>
 sT cR k5 0 (iV Uu) fun MI =>
 sT MI k5 1 (iV hU) fun yD =>
 sT yD k5 2 (iV 0) fun CB =>
 sT CB k5 3 (iV 0) fun CC =>
 rI CC k5 0 fun Tl =>
 rI CC k5 1 fun UT =>
 rI CC k5 2 fun MJ =>
 rI CC k5 3 fun MK =>
 K (.agg #[(iV Tl), (iV UT), (iV MJ), (iV MK)]) CC)
 (aV (kY == 17)
 (rI cR k3 0 fun Ec =>
 sT cR k5 0 (iV Ec) fun JP =>
 sT JP k5 1 (iV hU) fun Tm =>
 sT Tm k5 2 (iV 0) fun vu =>
 sT vu k5 3 (iV 0) fun Nh =>
 rI Nh k5 0 fun MD =>
 rI Nh k5 1 fun Tn =>
 rI Nh k5 2 fun n153 =>
 rI Nh k5 3 fun UU =>
 K (.agg #[(iV MD), (iV Tn), (iV n153), (iV UU)]) Nh)
 (aV (kY == 20)
 (rI cR k3 0 fun n155 =>
 sT cR k5 0 (iV n155) fun M156 =>
 sT M156 k5 1 (iV hU) fun M157 =>
 sT M157 k5 2 (iV 0) fun M158 =>
 sT M158 k5 3 (iV 0) fun Ni =>
 rI Ni k5 0 fun yM =>
 rI Ni k5 1 fun n161 =>
 rI Ni k5 2 fun n162 =>
 rI Ni k5 3 fun n163 =>
 K (.agg #[(iV yM), (iV n161), (iV n162), (iV n163)]) Ni)
 (aV (kY == 13)
 (aV (((lg : Nat) : Int) == 0)
 (sT cR k5 0 (iV 0) fun MQ =>
 sT MQ k5 1 (iV 0) fun MR =>
 sT MR k5 2 (iV 0) fun MS =>
 sT MS k5 3 (iV 0) fun CD =>
 rI CD k5 0 fun n168 =>
 rI CD k5 1 fun MT =>
 rI CD k5 2 fun MU =>
 rI CD k5 3 fun MW =>
 K (.agg #[(iV n168), (iV MT), (iV MU), (iV MW)]) CD)
 (rI cR k3 1 fun n172 =>
 rI cR k3 0 fun UW =>
 (True) ∧
 ae Tryz.prog 69 #[(iV n172), (iV ((lg : Nat) : Int))] cR (fun v174 XM =>
 aK (some v174) .i64 fun n176 =>
 ((Mem.ld XM ⟨k3, 0, none⟩) = (some (iV UW))) ∧
 bj XM (.cells #[(iV 0), (iV 0), (iV 0), (iV 0)] 109 (0, 0)) fun kQ M178 =>
 sT M178 kQ 0 (iV UW) fun Ed =>
 sT Ed kQ 1 (iV n176) fun M180 =>
 sT M180 kQ 2 (iV 0) fun M181 =>
 sT M181 kQ 3 (iV 0) fun Ah =>
 ((Mem.ld Ah ⟨k3, 0, none⟩) = (some (iV UW))) ∧
 rI Ah k3 0 fun n183 =>
 aV (decide ((n183 : Int) < 15))
 (sT Ah kQ 2 (iV fq) fun Gw =>
 rI Gw k3 0 fun TD =>
 aV (TD == 14)
 (sT Gw kQ 3 (iV nB) fun Nj =>
 rI Nj kQ 0 fun n187 =>
 rI Nj kQ 1 fun Gk =>
 rI Nj kQ 2 fun UG =>
 rI Nj kQ 3 fun UH =>
 sT Nj k5 0 (iV n187) fun M191 =>
 sT M191 k5 1 (iV Gk) fun M192 =>
 sT M192 k5 2 (iV UG) fun UI =>
 sT UI k5 3 (iV UH) fun Gv =>
 rI Gv k5 0 fun n195 =>
 rI Gv k5 1 fun n196 =>
 rI Gv k5 2 fun n197 =>
 rI Gv k5 3 fun PL =>
 K (.agg #[(iV n195), (iV n196), (iV n197), (iV PL)]) Gv)
 (rI Gw kQ 0 fun n199 =>
 rI Gw kQ 1 fun n200 =>
 rI Gw kQ 2 fun PM =>
 rI Gw kQ 3 fun MX =>
 sT Gw k5 0 (iV n199) fun M203 =>
 sT M203 k5 1 (iV n200) fun Gl =>
 sT Gl k5 2 (iV PM) fun M205 =>
 sT M205 k5 3 (iV MX) fun Nk =>
 rI Nk k5 0 fun n207 =>
 rI Nk k5 1 fun UJ =>
 rI Nk k5 2 fun UK =>
 rI Nk k5 3 fun UL =>
 K (.agg #[(iV n207), (iV UJ), (iV UK), (iV UL)]) Nk))
 (rI Ah k3 0 fun UM =>
 aV (UM == 14)
 (sT Ah kQ 3 (iV nB) fun Gm =>
 rI Gm kQ 0 fun n213 =>
 rI Gm kQ 1 fun PZ =>
 rI Gm kQ 2 fun P0 =>
 rI Gm kQ 3 fun P2 =>
 sT Gm k5 0 (iV n213) fun Gn =>
 sT Gn k5 1 (iV PZ) fun M218 =>
 sT M218 k5 2 (iV P0) fun UN =>
 sT UN k5 3 (iV P2) fun Nl =>
 rI Nl k5 0 fun n221 =>
 rI Nl k5 1 fun n222 =>
 rI Nl k5 2 fun n223 =>
 rI Nl k5 3 fun TK =>
 K (.agg #[(iV n221), (iV n222), (iV n223), (iV TK)]) Nl)
 (rI Ah kQ 0 fun n225 =>
 rI Ah kQ 1 fun n226 =>
 rI Ah kQ 2 fun n227 =>
 rI Ah kQ 3 fun n228 =>
 sT Ah k5 0 (iV n225) fun M229 =>
 sT M229 k5 1 (iV n226) fun M230 =>
 sT M230 k5 2 (iV n227) fun UO =>
 sT UO k5 3 (iV n228) fun Nm =>
 rI Nm k5 0 fun n233 =>
 rI Nm k5 1 fun n234 =>
 rI Nm k5 2 fun n235 =>
 rI Nm k5 3 fun n236 =>
 K (.agg #[(iV n233), (iV n234), (iV n235), (iV n236)]) Nm))) Kp))
 (aV (kY == 14)
 (aV (((lg : Nat) : Int) == 0)
 (sT cR k5 0 (iV 0) fun M237 =>
 sT M237 k5 1 (iV 0) fun TQ =>
 sT TQ k5 2 (iV 0) fun TR =>
 sT TR k5 3 (iV 0) fun Gp =>
 rI Gp k5 0 fun n241 =>
 rI Gp k5 1 fun n242 =>
 rI Gp k5 2 fun TS =>
 rI Gp k5 3 fun TT =>
 K (.agg #[(iV n241), (iV n242), (iV TS), (iV TT)]) Gp)
 (rI cR k3 1 fun TU =>
 rI cR k3 0 fun UX =>
 (True) ∧
 ae Tryz.prog 69 #[(iV TU), (iV ((lg : Nat) : Int))] cR (fun v247 XN =>
 aK (some v247) .i64 fun n249 =>
 ((Mem.ld XN ⟨k3, 0, none⟩) = (some (iV UX))) ∧
 bj XN (.cells #[(iV 0), (iV 0), (iV 0), (iV 0)] 109 (0, 0)) fun kS M251 =>
 sT M251 kS 0 (iV UX) fun M252 =>
 sT M252 kS 1 (iV n249) fun M253 =>
 sT M253 kS 2 (iV 0) fun Gq =>
 sT Gq kS 3 (iV 0) fun Ai =>
 ((Mem.ld Ai ⟨k3, 0, none⟩) = (some (iV UX))) ∧
 rI Ai k3 0 fun n256 =>
 aV (decide ((n256 : Int) < 15))
 (sT Ai kS 2 (iV fq) fun Gx =>
 rI Gx k3 0 fun n258 =>
 aV (n258 == 14)
 (sT Gx kS 3 (iV nB) fun Nn =>
 rI Nn kS 0 fun n260 =>
 rI Nn kS 1 fun n261 =>
 rI Nn kS 2 fun n262 =>
 rI Nn kS 3 fun n263 =>
 sT Nn k5 0 (iV n260) fun T0 =>
 sT T0 k5 1 (iV n261) fun T3 =>
 sT T3 k5 2 (iV n262) fun T4 =>
 sT T4 k5 3 (iV n263) fun yL =>
 rI yL k5 0 fun T5 =>
 rI yL k5 1 fun T6 =>
 rI yL k5 2 fun T7 =>
 rI yL k5 3 fun n271 =>
 K (.agg #[(iV T5), (iV T6), (iV T7), (iV n271)]) yL)
 (rI Gx kS 0 fun n272 =>
 rI Gx kS 1 fun n273 =>
 rI Gx kS 2 fun T8 =>
 rI Gx kS 3 fun n275 =>
 sT Gx k5 0 (iV n272) fun M276 =>
 sT M276 k5 1 (iV n273) fun M277 =>
 sT M277 k5 2 (iV T8) fun M278 =>
 sT M278 k5 3 (iV n275) fun No =>
 rI No k5 0 fun n280 =>
 rI No k5 1 fun n281 =>
 rI No k5 2 fun T9 =>
 rI No k5 3 fun n283 =>
 K (.agg #[(iV n280), (iV n281), (iV T9), (iV n283)]) No))
 (rI Ai k3 0 fun n284 =>
 aV (n284 == 14)
 (sT Ai kS 3 (iV nB) fun Gr =>
 rI Gr kS 0 fun n286 =>
 rI Gr kS 1 fun n287 =>
 rI Gr kS 2 fun n288 =>
 rI Gr kS 3 fun n289 =>
 sT Gr k5 0 (iV n286) fun Ua =>
 sT Ua k5 1 (iV n287) fun Ub =>
 sT Ub k5 2 (iV n288) fun Gs =>
 sT Gs k5 3 (iV n289) fun Np =>
 rI Np k5 0 fun Uc =>
 rI Np k5 1 fun Ud =>
 rI Np k5 2 fun n296 =>
 rI Np k5 3 fun n297 =>
 K (.agg #[(iV Uc), (iV Ud), (iV n296), (iV n297)]) Np)
 (rI Ai kS 0 fun n298 =>
 rI Ai kS 1 fun n299 =>
 rI Ai kS 2 fun n300 =>
 rI Ai kS 3 fun n301 =>
 sT Ai k5 0 (iV n298) fun M302 =>
 sT M302 k5 1 (iV n299) fun M303 =>
 sT M303 k5 2 (iV n300) fun M304 =>
 sT M304 k5 3 (iV n301) fun Nq =>
 rI Nq k5 0 fun n306 =>
 rI Nq k5 1 fun n307 =>
 rI Nq k5 2 fun n308 =>
 rI Nq k5 3 fun n309 =>
 K (.agg #[(iV n306), (iV n307), (iV n308), (iV n309)]) Nq))) Kp))
 (aV (kY == 15)
 (aV (((lg : Nat) : Int) == 0)
 (sT cR k5 0 (iV 0) fun M310 =>
 sT M310 k5 1 (iV 0) fun M311 =>
 sT M311 k5 2 (iV 0) fun M312 =>
 sT M312 k5 3 (iV 0) fun Nr =>
 rI Nr k5 0 fun n314 =>
 rI Nr k5 1 fun n315 =>
 rI Nr k5 2 fun n316 =>
 rI Nr k5 3 fun n317 =>
 K (.agg #[(iV n314), (iV n315), (iV n316), (iV n317)]) Nr)
 (rI cR k3 1 fun n318 =>
 rI cR k3 0 fun UY =>
 (True) ∧
 ae Tryz.prog 69 #[(iV n318), (iV ((lg : Nat) : Int))] cR (fun v320 XO =>
 aK (some v320) .i64 fun n322 =>
 ((Mem.ld XO ⟨k3, 0, none⟩) = (some (iV UY))) ∧
 bj XO (.cells #[(iV 0), (iV 0), (iV 0), (iV 0)] 109 (0, 0)) fun kT M324 =>
 sT M324 kT 0 (iV UY) fun M325 =>
 sT M325 kT 1 (iV n322) fun M326 =>
 sT M326 kT 2 (iV 0) fun M327 =>
 sT M327 kT 3 (iV 0) fun Aj =>
 ((Mem.ld Aj ⟨k3, 0, none⟩) = (some (iV UY))) ∧
 rI Aj k3 0 fun n329 =>
 aV (decide ((n329 : Int) < 15))
 (sT Aj kT 2 (iV fq) fun Gy =>
 rI Gy k3 0 fun n331 =>
 aV (n331 == 14)
 (sT Gy kT 3 (iV nB) fun Ns =>
 rI Ns kT 0 fun n333 =>
 rI Ns kT 1 fun n334 =>
 rI Ns kT 2 fun n335 =>
 rI Ns kT 3 fun n336 =>
 sT Ns k5 0 (iV n333) fun M337 =>
 sT M337 k5 1 (iV n334) fun M338 =>
 sT M338 k5 2 (iV n335) fun M339 =>
 sT M339 k5 3 (iV n336) fun Nt =>
 rI Nt k5 0 fun n341 =>
 rI Nt k5 1 fun n342 =>
 rI Nt k5 2 fun n343 =>
 rI Nt k5 3 fun n344 =>
 K (.agg #[(iV n341), (iV n342), (iV n343), (iV n344)]) Nt)
 (rI Gy kT 0 fun n345 =>
 rI Gy kT 1 fun n346 =>
 rI Gy kT 2 fun n347 =>
 rI Gy kT 3 fun n348 =>
 sT Gy k5 0 (iV n345) fun M349 =>
 sT M349 k5 1 (iV n346) fun M350 =>
 sT M350 k5 2 (iV n347) fun M351 =>
 sT M351 k5 3 (iV n348) fun Nu =>
 rI Nu k5 0 fun n353 =>
 rI Nu k5 1 fun n354 =>
 rI Nu k5 2 fun n355 =>
 rI Nu k5 3 fun n356 =>
 K (.agg #[(iV n353), (iV n354), (iV n355), (iV n356)]) Nu))
 (rI Aj k3 0 fun n357 =>
 aV (n357 == 14)
 (sT Aj kT 3 (iV nB) fun Nv =>
 rI Nv kT 0 fun n359 =>
 rI Nv kT 1 fun n360 =>
 rI Nv kT 2 fun n361 =>
 rI Nv kT 3 fun n362 =>
 sT Nv k5 0 (iV n359) fun M363 =>
 sT M363 k5 1 (iV n360) fun M364 =>
 sT M364 k5 2 (iV n361) fun M365 =>
 sT M365 k5 3 (iV n362) fun Nw =>
 rI Nw k5 0 fun n367 =>
 rI Nw k5 1 fun n368 =>
 rI Nw k5 2 fun n369 =>
 rI Nw k5 3 fun n370 =>
 K (.agg #[(iV n367), (iV n368), (iV n369), (iV n370)]) Nw)
 (rI Aj kT 0 fun n371 =>
 rI Aj kT 1 fun n372 =>
 rI Aj kT 2 fun n373 =>
 rI Aj kT 3 fun n374 =>
 sT Aj k5 0 (iV n371) fun M375 =>
 sT M375 k5 1 (iV n372) fun M376 =>
 sT M376 k5 2 (iV n373) fun M377 =>
 sT M377 k5 3 (iV n374) fun Nx =>
 rI Nx k5 0 fun n379 =>
 rI Nx k5 1 fun n380 =>
 rI Nx k5 2 fun n381 =>
 rI Nx k5 3 fun n382 =>
 K (.agg #[(iV n379), (iV n380), (iV n381), (iV n382)]) Nx))) Kp))
 (aV (kY == 16)
 (aV (((nA : Nat) : Int) == 0)
 (sT cR k5 0 (iV 0) fun M383 =>
 sT M383 k5 1 (iV 0) fun M384 =>
 sT M384 k5 2 (iV 0) fun M385 =>
 sT M385 k5 3 (iV 0) fun Ny =>
 rI Ny k5 0 fun n387 =>
 rI Ny k5 1 fun n388 =>
 rI Ny k5 2 fun n389 =>
 rI Ny k5 3 fun n390 =>
 K (.agg #[(iV n387), (iV n388), (iV n389), (iV n390)]) Ny)
 (rI cR k3 1 fun n391 =>
 ae Tryz.prog 69 #[(iV n391), (iV ((nA : Nat) : Int))] cR (fun v392 XP =>
 aK (some v392) .i64 fun XQ =>
 rI XP k3 2 fun n395 =>
 ae Tryz.prog 69 #[(iV n395), (iV (IntKind.wrap .i64 (((nA : Nat) : Int) - XQ)))] XP (fun v396 M397 =>
 aK (some v396) .i64 fun n398 =>
 sT M397 k5 0 (iV 16) fun M399 =>
 sT M399 k5 1 (iV XQ) fun M400 =>
 sT M400 k5 2 (iV (IntKind.wrap .i64 (1 + n398))) fun M401 =>
 sT M401 k5 3 (iV nB) fun Nz =>
 rI Nz k5 0 fun n403 =>
 rI Nz k5 1 fun n404 =>
 rI Nz k5 2 fun n405 =>
 rI Nz k5 3 fun n406 =>
 K (.agg #[(iV n403), (iV n404), (iV n405), (iV n406)]) Nz) Kp) Kp))
 (aV (kY == 18)
 (rI cR k1 2 fun n407 =>
 aV (n407 == 0)
 (sT cR k5 0 (iV 0) fun M408 =>
 sT M408 k5 1 (iV 0) fun M409 =>
 sT M409 k5 2 (iV 0) fun M410 =>
 sT M410 k5 3 (iV 0) fun NA =>
 rI NA k5 0 fun n412 =>
 rI NA k5 1 fun n413 =>
 rI NA k5 2 fun n414 =>
 rI NA k5 3 fun n415 =>
 K (.agg #[(iV n412), (iV n413), (iV n414), (iV n415)]) NA)
 (rI cR k3 1 fun n416 =>
 rI cR k1 2 fun n417 =>
 rI cR k3 0 fun UZ =>
 ae Tryz.prog 69 #[(iV n416), (iV n417)] cR (fun v419 XR =>
 aK (some v419) .i64 fun n421 =>
 ((Mem.ld XR ⟨k3, 0, none⟩) = (some (iV UZ))) ∧
 sT XR k5 0 (iV UZ) fun M422 =>
 sT M422 k5 1 (iV n421) fun M423 =>
 sT M423 k5 2 (iV 0) fun M424 =>
 sT M424 k5 3 (iV 0) fun JY =>
 ((Mem.ld JY ⟨k3, 0, none⟩) = (some (iV UZ))) ∧
 rI JY k5 0 fun n426 =>
 rI JY k5 1 fun n427 =>
 rI JY k5 2 fun n428 =>
 rI JY k5 3 fun n429 =>
 K (.agg #[(iV n426), (iV n427), (iV n428), (iV n429)]) JY) Kp))
 (aV (kY == 19)
 (rI cR k1 2 fun n430 =>
 aV (n430 == 0)
 (sT cR k5 0 (iV 0) fun M431 =>
 sT M431 k5 1 (iV 0) fun M432 =>
 sT M432 k5 2 (iV 0) fun M433 =>
 sT M433 k5 3 (iV 0) fun NB =>
 rI NB k5 0 fun n435 =>
 rI NB k5 1 fun n436 =>
 rI NB k5 2 fun n437 =>
 rI NB k5 3 fun n438 =>
 K (.agg #[(iV n435), (iV n436), (iV n437), (iV n438)]) NB)
 (rI cR k3 1 fun n439 =>
 rI cR k1 2 fun n440 =>
 rI cR k3 0 fun U0 =>
 ae Tryz.prog 69 #[(iV n439), (iV n440)] cR (fun v442 XS =>
 aK (some v442) .i64 fun n444 =>
 ((Mem.ld XS ⟨k3, 0, none⟩) = (some (iV U0))) ∧
 sT XS k5 0 (iV U0) fun M445 =>
 sT M445 k5 1 (iV n444) fun M446 =>
 sT M446 k5 2 (iV 0) fun M447 =>
 sT M447 k5 3 (iV 0) fun JZ =>
 ((Mem.ld JZ ⟨k3, 0, none⟩) = (some (iV U0))) ∧
 rI JZ k5 0 fun n449 =>
 rI JZ k5 1 fun n450 =>
 rI JZ k5 2 fun n451 =>
 rI JZ k5 3 fun n452 =>
 K (.agg #[(iV n449), (iV n450), (iV n451), (iV n452)]) JZ) Kp))
 (aV (kY == 21)
 (rI cR k3 2 fun n453 =>
 ae Tryz.prog 69 #[(iV n453), (iV 1000)] cR (fun v454 M455 =>
 aK (some v454) .i64 fun n456 =>
 sT M455 k5 0 (iV 21) fun M457 =>
 sT M457 k5 1 (iV hU) fun M458 =>
 sT M458 k5 2 (iV (IntKind.wrap .i64 (1 + n456))) fun M459 =>
 sT M459 k5 3 (iV 0) fun NC =>
 rI NC k5 0 fun n461 =>
 rI NC k5 1 fun n462 =>
 rI NC k5 2 fun n463 =>
 rI NC k5 3 fun n464 =>
 K (.agg #[(iV n461), (iV n462), (iV n463), (iV n464)]) NC) Kp)
 (aV (kY == 22)
 (rI cR k3 1 fun n465 =>
 ae Tryz.prog 69 #[(iV n465), (iV 1000)] cR (fun v466 M467 =>
 aK (some v466) .i64 fun n468 =>
 sT M467 k5 0 (iV 22) fun M469 =>
 sT M469 k5 1 (iV n468) fun M470 =>
 sT M470 k5 2 (iV 0) fun M471 =>
 sT M471 k5 3 (iV 0) fun ND =>
 rI ND k5 0 fun n473 =>
 rI ND k5 1 fun n474 =>
 rI ND k5 2 fun n475 =>
 rI ND k5 3 fun n476 =>
 K (.agg #[(iV n473), (iV n474), (iV n475), (iV n476)]) ND) Kp)
 (rI cR k3 0 fun n477 =>
 sT cR k5 0 (iV n477) fun M478 =>
 sT M478 k5 1 (iV 0) fun M479 =>
 sT M479 k5 2 (iV 0) fun M480 =>
 sT M480 k5 3 (iV 0) fun NF =>
 rI NF k5 0 fun n482 =>
 rI NF k5 1 fun n483 =>
 rI NF k5 2 fun n484 =>
 rI NF k5 3 fun n485 =>
 K (.agg #[(iV n482), (iV n483), (iV n484), (iV n485)]) NF)))))))))))))))))))))) Kp) Kp) Kp) Kp) :
 ae Tryz.prog 70 ([.agg #[.slice jl jm jn, .slice jo jq jr, .int .i64 gn, .slice js jt ju], .slice B1 m1 c1, .agg #[.int .i64 Mq, .int .i64 Mr, .int .i64 Ms, .int .i64 Mt]] : List Value).toArray M K Kp :=
 aA (C := Cx) good [(2, .bS [0, 1, 3, 0, 8, 31, 0, 64, 255, 511, 1023, 2047] (.step 0 (.step 3 (.step 6 (.step 1 (.dx 4 (.dx 7 (.step 2 (.step 5 (.step 8 (.step 9 (.step 10 (.step 11 .done))))))))))))), (3, .bS [0, 1, 3, 0, 8, 24, 0, 64, 192, 7, 575, 2047] (.step 0 (.step 3 (.step 6 (.step 1 (.step 2 (.step 9 (.step 4 (.step 5 (.step 10 (.step 7 (.step 8 (.step 11 .done))))))))))))), (20, .bS [0, 1, 0, 4, 0, 28, 0, 0, 255, 511] (.step 0 (.step 2 (.step 4 (.step 6 (.step 7 (.step 3 (.dx 1 (.step 5 (.step 8 (.step 9 .done))))))))))), (30, .bS [0, 1, 0, 4, 0, 28, 63, 0, 255] (.step 0 (.step 2 (.step 4 (.step 3 (.dx 1 (.late 5 (.step 6 (.step 7 (.step 8 .done)))))))))), (45, .bS [0, 1, 0, 4, 0, 16, 60, 127, 255] (.step 0 (.step 2 (.step 4 (.step 3 (.step 5 (.dx 1 (.step 6 (.step 7 (.step 8 .done))))))))))] Tryz.func70 (by kernel_rfl) (by kernel_rfl) h
end Go.Proofs
namespace Go.Proofs
open Go.AF
set_option maxRecDepth 100000
theorem rK {x0 : Int} {M : Mem} {K : Value → Mem → Prop} {Kp : List PanicEntry → Mem → Prop} (h :
bj M (.cells #[(iV 0), (.slice none 0 0), (.slice none 0 0), (.slice none 0 0), (.bool false)] 190 (0, 0)) fun k1 M2 =>
sT M2 k1 0 (iV (if ((if (16 : Int) < x0 then 16 else x0) : Int) > 0 then (if (16 : Int) < x0 then 16 else x0) else 0)) fun M3 =>
sT M3 k1 1 (.slice none 0 0) fun M4 =>
sT M4 k1 2 (.slice none 0 0) fun M5 =>
sT M5 k1 3 (.slice none 0 0) fun M6 =>
sT M6 k1 4 (.bool false) fun M7 =>
rI M7 k1 0 fun n8 =>
rS M7 k1 1 fun A9 eA eB =>
rS M7 k1 2 fun sB c7 fX =>
rS M7 k1 3 fun qt dF eE =>
cD (Mem.ld M7 ⟨k1, 4, none⟩) fun t18 =>
K (.agg #[(iV n8), (.slice A9 eA eB), (.slice sB c7 fX), (.slice qt dF eE), (.bool t18)]) M7) :
 ae Tryz.prog 75 ([.int .i64 x0] : List Value).toArray M K Kp :=
 aA (C := Cx) good [] Tryz.func75 (by kernel_rfl) (by kernel_rfl) h
end Go.Proofs
namespace Go.Proofs
open Go.AF
set_option maxRecDepth 100000
set_option maxHeartbeats 1000000
attribute [local irreducible] aK cD fH bL aD fx aI aO bj aS bI aV
def wG (R : Mem) (vs : List Value) (c : aX) : Prop := ∃ A ca B cb D cd, vs = [.int .i64 (c.room : Int), .slice A c.buf.length ca, .slice B c.snd.length cb, .slice D c.en.length cd, .bool c.closed] ∧
 RS bu R A ca c.buf ∧ RS gH R B cb c.snd ∧ RS gH R D cd c.en
theorem wG.le {R R' : Mem} {vs : List Value} {c : aX} (h : wG R vs c) (hle : R.le R') : wG R' vs c := by
 obtain ⟨A, ca, B, cb, D, cd, e, h1, h2, h3⟩ := h
 exact ⟨A, ca, B, cb, D, cd, e, h1.le hle, h2.le hle, h3.le hle⟩
section
variable {R : Mem} {L L' : List HP} {M : Mem} {K : Value → Mem → Prop} {Kp : List PanicEntry → Mem → Prop} {c : aX} {vs : List Value}
theorem Bh {room : Int} (h : Hp R L M) (k : ∀ vs M', Hp R L M' → wG R vs (.new room) → K (.agg vs.toArray) M') : ae Tryz.prog 75 #[.int .i64 room] M K Kp := by
 refine rK ?_
 repeat (first | (refine av h ?_; clear h; intro kb M h) | (refine az h ?_; clear h; intro M h) | refine St.to h ?_ | (apply Exists.intro; (repeat apply Exists.intro); refine And.intro rfl ?_) | (refine And.intro ?_ ?_; first | exact rfl | (refine aa (aj h) ?_; (repeat (refine aa (aj h) ?_)); exact ai) | omega) | refine aq ?_ | refine au ?_)
 have e : (if (if (16 : Int) < room then 16 else room) > 0 then (if (16 : Int) < room then 16 else room) else 0) = ((ye room : Nat) : Int) := by unfold ye; omega
 rw [e] at h ⊢
 exact k _ _ h.vb ⟨none, 0, none, 0, none, 0, rfl, RS.nil _ _, RS.nil _ _, RS.nil _ _⟩
end
end Go.Proofs
namespace Go.Proofs
open Go.AF
set_option maxRecDepth 100000
set_option maxHeartbeats 1000000
attribute [local irreducible] aK cD fH bL aD fx aI aO bj aS bI aV
structure RC where
 room : Int
 A : Option Addr
 na : Nat
 ca : Nat
 B : Option Addr
 nb : Nat
 cb : Nat
 D : Option Addr
 nd : Nat
 cd : Nat
 closed : Bool
def U1 : gy RC := ⟨5, fun w => [.int .i64 w.room, .slice w.A w.na w.ca, .slice w.B w.nb w.cb, .slice w.D w.nd w.cd, .bool w.closed], fun _ => rfl, fun w v hv => by
 simp only [List.mem_cons, List.not_mem_nil, or_false] at hv; obtain rfl | rfl | rfl | rfl | rfl := hv <;> rfl⟩
def P3 (R : Mem) (r : RC) (c : aX) : Prop := wG R (U1.f r) c
theorem P3.le {R R' : Mem} {r : RC} {c : aX} (h : P3 R r c) (hle : R.le R') : P3 R' r c := wG.le h hle
theorem wG.rc {R : Mem} {vs : List Value} {c : aX} (h : wG R vs c) : ∃ r, vs = U1.f r ∧ P3 R r c := by
 obtain ⟨A, ca, B, cb, D, cd, rfl, q1, q2, q3⟩ := id h
 exact ⟨⟨c.room, A, c.buf.length, ca, B, c.snd.length, cb, D, c.en.length, cd, c.closed⟩, rfl, h⟩
theorem P3.eq {R : Mem} {r : RC} {c : aX} (h : P3 R r c) : ∃ A ca B cb D cd, r = ⟨c.room, A, c.buf.length, ca, B, c.snd.length, cb, D, c.en.length, cd, c.closed⟩ ∧ RS bu R A ca c.buf ∧ RS gH R B cb c.snd ∧ RS gH R D cd c.en := by
 obtain ⟨A, ca, B, cb, D, cd, e, q1, q2, q3⟩ := h
 obtain ⟨e0, e1, e2, e3, e4, e5, e6, e7, e8, e9, Zz⟩ := r
 simp only [U1, List.cons.injEq, Value.int.injEq, Value.slice.injEq, Value.bool.injEq, and_true, true_and] at e
 obtain ⟨rfl, ⟨rfl, rfl, rfl⟩, ⟨rfl, rfl, rfl⟩, ⟨rfl, rfl, rfl⟩, rfl⟩ := e
 exact ⟨_, _, _, _, _, _, rfl, q1, q2, q3⟩
def Gz (R : Mem) (xs : List RC) (cs : List aX) : Prop := xs.length = cs.length ∧ ∀ (i : Nat) (r : RC) (c : aX), xs[i]? = some r → cs[i]? = some c → P3 R r c
theorem Gz.le {R R' : Mem} {xs : List RC} {cs : List aX} (h : Gz R xs cs) (hle : R.le R') : Gz R' xs cs := ⟨h.1, fun i r c h1 h2 => (h.2 i r c h1 h2).le hle⟩
theorem Gz.nil (R : Mem) : Gz R [] [] := ⟨rfl, fun i r c h => by simp at h⟩
theorem Gz.snoc {R : Mem} {xs : List RC} {cs : List aX} {r : RC} {c : aX} (h : Gz R xs cs) (hr : P3 R r c) : Gz R (xs ++ [r]) (cs ++ [c]) := by
 refine ⟨by simp [h.1], fun i r' c' h1 h2 => ?_⟩
 rcases Nat.lt_or_ge i xs.length with hl | hl
 ·rw [List.getElem?_append_left hl] at h1; rw [List.getElem?_append_left (by rw [← h.1]; exact hl)] at h2; exact h.2 i _ _ h1 h2
 ·rw [List.getElem?_append_right hl] at h1; rw [List.getElem?_append_right (by rw [← h.1]; exact hl)] at h2
  have : i - xs.length = 0 := by
   obtain ⟨hh, _⟩ := List.getElem?_eq_some_iff.1 h1; simp at hh; omega
  rw [this] at h1; rw [← h.1, this] at h2
  cases h1; cases h2; exact hr
theorem Gz.set {R : Mem} {xs : List RC} {cs : List aX} {r : RC} {c : aX} (h : Gz R xs cs) (i : Nat) (hr : P3 R r c) : Gz R (xs.set i r) (cs.set i c) := by
 refine ⟨by simp [h.1], fun j r' c' h1 h2 => ?_⟩
 rw [List.getElem?_set] at h1 h2
 split at h1
 ·rename_i e; rw [if_pos e] at h2
  split at h1
  ·split at h2
   ·cases h1; cases h2; exact hr
   ·cases h2
  ·cases h1
 ·rename_i e; rw [if_neg e] at h2; exact h.2 j _ _ h1 h2
end Go.Proofs
namespace Go.Proofs
open Go.AF
set_option maxRecDepth 100000
theorem oH {x0 : Int} {x1 : Int} {M : Mem} {K : Value → Mem → Prop} {Kp : List PanicEntry → Mem → Prop} (h :
bj M (.cells #[(iV 0), (iV 0), (iV 0), (iV 0), (iV 0), (iV 0), (iV 0), (iV 0), (iV 0), (iV 0), (iV 0)] 114 (0, 0)) fun k1 M2 =>
sT M2 k1 0 (iV x0) fun M3 =>
sT M3 k1 1 (iV 0) fun M4 =>
sT M4 k1 2 (iV 0) fun M5 =>
sT M5 k1 3 (iV 0) fun M6 =>
sT M6 k1 4 (iV 0) fun M7 =>
sT M7 k1 5 (iV 0) fun M8 =>
sT M8 k1 6 (iV 0) fun M9 =>
sT M9 k1 7 (iV 0) fun gS =>
sT gS k1 8 (iV 0) fun iq =>
sT iq k1 9 (iV 0) fun jH =>
sT jH k1 10 (iV 0) fun jN =>
((0 : Int) ≤ 0) ∧
((0 : Int) < 8) ∧
sT jN k1 (2 + 0) (iV x1) fun ik =>
rI ik k1 0 fun jY =>
rI ik k1 1 fun mz =>
rI ik k1 2 fun hU =>
rI ik k1 3 fun kq =>
rI ik k1 4 fun wq =>
rI ik k1 5 fun fq =>
rI ik k1 6 fun nw =>
rI ik k1 7 fun rU =>
rI ik k1 8 fun nB =>
rI ik k1 9 fun wY =>
rI ik k1 10 fun lZ =>
bj ik (.cells #[(iV jY), (iV mz), (iV hU), (iV kq), (iV wq), (iV fq), (iV nw), (iV rU), (iV nB), (iV wY), (iV lZ)] 114 (0, 0)) fun lC rV =>
K (.slice (some ⟨lC, 0, none⟩) 1 1) rV) :
 ae Tryz.prog 74 ([.int .i64 x0, .int .i64 x1] : List Value).toArray M K Kp :=
 aA (C := Cx) good [] Tryz.func74 (by kernel_rfl) (by kernel_rfl) h
end Go.Proofs
namespace Go.Proofs
open Go.AF
set_option maxRecDepth 100000
theorem rL {jl : Option Addr} {jm jn : Nat} {jo : Option Addr} {jq jr : Nat} {gn : Int} {js : Option Addr} {jt ju : Nat} {M : Mem} {K : Value → Mem → Prop} {Kp : List PanicEntry → Mem → Prop} (h :
bj M (.cells #[(.slice jl jm jn), (.slice jo jq jr), (iV gn), (.slice js jt ju)] 73 (0, 0)) fun k1 M2 =>
bj M2 (.cells #[(.slice none 0 0), (.slice none 0 0), (iV 0), (.slice none 0 0), (.slice none 0 0), (.int .u64 0), (.slice none 0 0), (.slice none 0 0), (.slice none 0 0), (.int .u64 0), (.slice none 0 0), (iV 0), (iV 0), (.slice none 0 0)] 81 (0, 0)) fun k3 M4 =>
rS M4 k1 0 fun A5 k6 k7 =>
rS M4 k1 1 fun A8 k9 eA =>
rI M4 k1 2 fun fu =>
rS M4 k1 3 fun sB c7 fX =>
(True) ∧
ae Tryz.prog 74 #[(iV 0), (iV 0)] M4 (fun Co eT =>
aD (some Co) fun KT dS iO =>
((Mem.fy eT ⟨k1, 0, none⟩ 0 4) = some [(.slice A5 k6 k7), (.slice A8 k9 eA), (iV fu), (.slice sB c7 fX)]) ∧
bj eT (.cells #[(iV 1), (.slice KT dS iO), (iV 0), (iV 0), (iV 0), (iV 0)] 111 (0, 0)) fun ig iP =>
bj iP (.cells #[(.slice none 0 0), (.slice none 0 0), (iV 0), (.slice none 0 0), (.slice none 0 0), (.int .u64 0), (.slice none 0 0), (.slice none 0 0), (.slice none 0 0), (.int .u64 0), (.slice none 0 0), (iV 0), (iV 0), (.slice none 0 0)] 81 (0, 0)) fun gz kL =>
KN kL gz 0 [(.slice A5 k6 k7), (.slice A8 k9 eA), (iV fu), (.slice sB c7 fX), (.slice (some ⟨ig, 0, none⟩) 1 1), (.int .u64 0), (.slice none 0 0), (.slice none 0 0), (.slice none 0 0), (.int .u64 0), (.slice none 0 0), (iV 0), (iV 0), (.slice none 0 0)] 14 fun ie =>
((Mem.fy ie ⟨k1, 0, none⟩ 0 4) = some [(.slice A5 k6 k7), (.slice A8 k9 eA), (iV fu), (.slice sB c7 fX)]) ∧
rS ie k1 1 fun Jx lC oh =>
∃ I28 : Nat → List Value → Mem → Prop, (∃ jZ : Nat, I28 jZ [(iV 0)] ie) ∧
∀ kZ : Nat, ∀ junk31 : Nat → Value, ∀ n32 : Int, ∀ tT : Mem, (I28 kZ [(iV n32)] tT) → aV (decide ((n32 : Int) < ((lC : Nat) : Int)))
 (((0 : Int) ≤ n32) ∧
 ((n32 : Int) < ((lC : Nat) : Int)) ∧
 aI Jx fun tR sA =>
 rI tT tR (sA + (Int.toNat n32)) fun xB =>
 ∃ J37 : List Value → Mem → Prop, ((rS tT gz 6 fun Td vn zR =>
 ae Tryz.prog 75 #[(iV xB)] tT (fun Wa JG =>
 ∃ Dc : Int, ∃ Zf : Option Addr, ∃ KR : Nat, ∃ HW : Nat, ∃ S3 : Option Addr, ∃ Bb : Nat, ∃ Ga : Nat, ∃ Tf : Option Addr, ∃ Bf : Nat, ∃ kj : Nat, ∃ t53 : Bool, (Wa = (.agg #[(iV Dc), (.slice Zf KR HW), (.slice S3 Bb Ga), (.slice Tf Bf kj), (.bool t53)])) ∧
 bj JG (.cells #[(iV Dc), (.slice Zf KR HW), (.slice S3 Bb Ga), (.slice Tf Bf kj), (.bool t53)] 190 (0, 0)) fun Ck mV =>
 aS Tryz.prog (Go.Builtin.append_ #[75, 75] 75 #[(.slice Td vn zR), (.slice (some ⟨Ck, 0, none⟩) 1 1)]) mV (fun v56 wW =>
 aD (some v56) fun A58 SO U2 =>
 sT wW gz 6 (.slice A58 SO U2) fun vf =>
 J37 [] vf) Kp) Kp) ∧
 (ae Tryz.prog 75 #[(iV xB)] tT (fun SY wk =>
 ∃ n64 : Int, ∃ PF : Option Addr, ∃ Fk : Nat, ∃ w7 : Nat, ∃ XT : Option Addr, ∃ Ii : Nat, ∃ Bg : Nat, ∃ JK : Option Addr, ∃ Ic : Nat, ∃ Mx : Nat, ∃ t74 : Bool, (SY = (.agg #[(iV n64), (.slice PF Fk w7), (.slice XT Ii Bg), (.slice JK Ic Mx), (.bool t74)])) ∧
 rS wk gz 6 fun We RE PB =>
 bj wk (.cells #[(iV n64), (.slice PF Fk w7), (.slice XT Ii Bg), (.slice JK Ic Mx), (.bool t74)] 190 (0, 0)) fun JJ RH =>
 aS Tryz.prog (Go.Builtin.append_ #[75, 75] 75 #[(.slice We RE PB), (.slice (some ⟨JJ, 0, none⟩) 1 1)]) RH (fun v80 My =>
 aD (some v80) fun A82 vr Zs =>
 sT My gz 6 (.slice A82 vr Zs) fun Xp =>
 J37 [] Xp) Kp) Kp) ∧
 True) ∧
 ∀ junk86 : Nat → Value, ∀ zG : Mem, (J37 [] zG) → ∃ D6 : Nat, (D6 < kZ) ∧
 I28 D6 [(iV (IntKind.wrap .i64 (n32 + 1)))] zG)
 (rI tT k1 2 fun OP =>
 aS Tryz.prog (Go.Instr.makeSlice 76 (iV OP) (iV OP)) tT (fun Mv jK =>
 aD (some Mv) fun S5 Mz PC =>
 sT jK gz 7 (.slice S5 Mz PC) fun Ee =>
 IW (Mem.fy Ee ⟨gz, 0, none⟩ 0 14) fun l96 =>
 KN Ee k3 0 l96 14 fun K0 =>
 IW (Mem.fy K0 ⟨k3, 0, none⟩ 0 14) fun l98 =>
 K (.agg (l98.toArray)) K0) Kp)) Kp) :
 ae Tryz.prog 37 ([.agg #[.slice jl jm jn, .slice jo jq jr, .int .i64 gn, .slice js jt ju]] : List Value).toArray M K Kp :=
 aA (C := Cx) good [(1, .bS [0, 0, 2, 6, 15, 0, 63] (.dx 0 (.late 1 (.step 2 (.step 3 (.step 4 (.step 5 (.step 6 .done)))))))), (2000000, .loop [(14, .c (.int .i64))]), (5, .DK [0, 1, 0, 4, 12, 31, 63, 127] (.step 0 (.step 2 (.fork 1 (.step 3 (.step 4 (.step 5 (.step 6 (.step 7 .done))))) (.fork 3 (.step 1 (.step 4 (.step 5 (.step 6 (.step 7 .done))))) .dead)))) [])] Tryz.func37 (by kernel_rfl) (by kernel_rfl) h
end Go.Proofs
namespace Go.Proofs
open Go.AF
set_option maxRecDepth 100000
theorem rM {jl : Option Addr} {jm jn : Nat} {jo : Option Addr} {jq jr : Nat} {gn : Int} {js : Option Addr} {jt ju : Nat} {cV : Int} {cW : Int} {cX : Int} {eK : Int} {XU : Option Addr} {XV XW : Nat} {XX : Option Addr} {XY XZ : Nat} {X0 : Bool} {X1 : Bool} {X3 : Option Addr} {X4 X5 : Nat} {M : Mem} {K : Value → Mem → Prop} {Kp : List PanicEntry → Mem → Prop} (h :
bj M (.cells #[(.slice jl jm jn), (.slice jo jq jr), (iV gn), (.slice js jt ju)] 73 (0, 0)) fun k1 M2 =>
bj M2 (.cells #[(iV cV), (iV cW), (iV cX), (iV eK)] 23 (0, 0)) fun k3 M4 =>
bj M4 (.cells #[(.slice XU XV XW), (.slice XX XY XZ), (.bool X0), (.bool X1), (.slice X3 X4 X5)] 86 (0, 0)) fun k5 M6 =>
bj M6 (.cells #[(iV 0), (iV 0), (iV 0), (iV 0), (.slice none 0 0), (.slice none 0 0), (iV 0), (.slice none 0 0), (.slice none 0 0), (.int .u64 0), (.slice none 0 0), (.slice none 0 0), (.slice none 0 0), (.int .u64 0), (.slice none 0 0), (iV 0), (iV 0), (.slice none 0 0), (.slice none 0 0), (.slice none 0 0), (.slice none 0 0), (.slice none 0 0), (.slice none 0 0), (.bool false), (.bool false), (.slice none 0 0), (iV 0)] 88 (0, 0)) fun k7 M8 =>
rS M8 k1 0 fun A9 eA eB =>
rS M8 k1 1 fun sB c7 fX =>
rI M8 k1 2 fun jY =>
rS M8 k1 3 fun Rv eE dS =>
rI M8 k3 0 fun wq =>
rI M8 k3 1 fun fq =>
rI M8 k3 2 fun nw =>
rI M8 k3 3 fun rU =>
rS M8 k5 0 fun OL qF sw =>
rS M8 k5 1 fun Fl oh lg =>
cD (Mem.ld M8 ⟨k5, 2, none⟩) fun t29 =>
cD (Mem.ld M8 ⟨k5, 3, none⟩) fun t30 =>
rS M8 k5 4 fun Pq tw nE =>
(True) ∧
(True) ∧
ae Tryz.prog 37 #[(.agg #[(.slice A9 eA eB), (.slice sB c7 fX), (iV jY), (.slice Rv eE dS)])] M8 (fun v34 qu =>
∃ Zn : Value, ∃ Rt : Value, ∃ v38 : Value, ∃ Zi : Value, ∃ H8 : Value, ∃ Wa : Value, ∃ V7 : Value, ∃ Zk : Value, ∃ RI : Value, ∃ V6 : Value, ∃ Zt : Value, ∃ Zo : Value, ∃ ZA : Value, ∃ HX : Value, (v34 = (.agg #[Zn, Rt, v38, Zi, H8, Wa, V7, Zk, RI, V6, Zt, Zo, ZA, HX])) ∧
((Mem.fy qu ⟨k5, 0, none⟩ 0 5) = some [(.slice OL qF sw), (.slice Fl oh lg), (.bool t29), (.bool t30), (.slice Pq tw nE)]) ∧
((Mem.fy qu ⟨k3, 0, none⟩ 0 4) = some [(iV wq), (iV fq), (iV nw), (iV rU)]) ∧
bj qu (.cells #[(iV 0)] 3 (0, 0)) fun yh Zg =>
bj Zg (.cells #[(iV 0), (iV 0), (iV 0), (iV 0), (.slice none 0 0), (.slice none 0 0), (iV 0), (.slice none 0 0), (.slice none 0 0), (.int .u64 0), (.slice none 0 0), (.slice none 0 0), (.slice none 0 0), (.int .u64 0), (.slice none 0 0), (iV 0), (iV 0), (.slice none 0 0), (.slice none 0 0), (.slice none 0 0), (.slice none 0 0), (.slice none 0 0), (.slice none 0 0), (.bool false), (.bool false), (.slice none 0 0), (iV 0)] 88 (0, 0)) fun kj Ct =>
KN Ct kj 0 [(iV wq), (iV fq), (iV nw), (iV rU), Zn, Rt, v38, Zi, H8, Wa, V7, Zk, RI, V6, Zt, Zo, ZA, HX, (.slice none 0 0), (.slice none 0 0), (.slice (some ⟨yh, 0, none⟩) 1 1), (.slice OL qF sw), (.slice Fl oh lg), (.bool t29), (.bool t30), (.slice Pq tw nE), (iV 0)] 27 fun Ci =>
((Mem.fy Ci ⟨k5, 0, none⟩ 0 5) = some [(.slice OL qF sw), (.slice Fl oh lg), (.bool t29), (.bool t30), (.slice Pq tw nE)]) ∧
((Mem.fy Ci ⟨k3, 0, none⟩ 0 4) = some [(iV wq), (iV fq), (iV nw), (iV rU)]) ∧
∃ I55 : Nat → List Value → Mem → Prop, (∃ KZ : Nat, I55 KZ [(iV 0)] Ci) ∧
∀ rZ : Nat, ∀ junk58 : Nat → Value, ∀ Cj : Int, ∀ rW : Mem, (I55 rZ [(iV Cj)] rW) → rI rW k3 0 fun JA =>
aV (decide ((Cj : Int) < JA))
 (∃ J62 : List Value → Mem → Prop, (rI rW k3 2 fun yj =>
 (rS rW kj 18 fun A64 V8 Fk =>
 ae Tryz.prog 107 #[(iV yj)] rW (fun v67 Mg =>
 ∃ Rz : Int, ∃ Zm : Option Addr, ∃ JI : Nat, ∃ Ic : Nat, ∃ OM : Int, (v67 = (.agg #[(iV Rz), (.slice Zm JI Ic), (iV OM)])) ∧
 bj Mg (.cells #[(iV Rz), (.slice Zm JI Ic), (iV OM), (iV 0), (iV (-1))] 211 (0, 0)) fun Ry yz =>
 aS Tryz.prog (Go.Builtin.append_ #[82, 82] 82 #[(.slice A64 V8 Fk), (.slice (some ⟨Ry, 0, none⟩) 1 1)]) yz (fun Tg Mw =>
 aD (some Tg) fun Th Fm Ie =>
 sT Mw kj 18 (.slice Th Fm Ie) fun My =>
 J62 [] My) Kp) Kp) ∧
 (ae Tryz.prog 107 #[(iV yj)] rW (fun v82 Fj =>
 ∃ JB : Int, ∃ A85 : Option Addr, ∃ Ij : Nat, ∃ OO : Nat, ∃ Wf : Int, (v82 = (.agg #[(iV JB), (.slice A85 Ij OO), (iV Wf)])) ∧
 rS Fj kj 18 fun A89 k90 PG =>
 bj Fj (.cells #[(iV JB), (.slice A85 Ij OO), (iV Wf), (iV 0), (iV (-1))] 211 (0, 0)) fun wF yE =>
 aS Tryz.prog (Go.Builtin.append_ #[82, 82] 82 #[(.slice A89 k90 PG), (.slice (some ⟨wF, 0, none⟩) 1 1)]) yE (fun v94 Ee =>
 aD (some v94) fun A96 RD Tr =>
 sT Ee kj 18 (.slice A96 RD Tr) fun S6 =>
 J62 [] S6) Kp) Kp) ∧
 True) ∧
 ∀ ZB : Nat → Value, ∀ gF : Mem, (J62 [] gF) → ∃ Ge : Nat, (Ge < rZ) ∧
 I55 Ge [(iV (IntKind.wrap .i64 (Cj + 1)))] gF)
 (∃ U3 : Nat → List Value → Mem → Prop, (∃ z9 : Nat, U3 z9 [(iV 0)] rW) ∧
 ∀ X6 : Nat, ∀ ZC : Nat → Value, ∀ CG : Int, ∀ wX : Mem, (U3 X6 [(iV CG)] wX) → rI wX k3 1 fun UQ =>
 aV (decide ((CG : Int) < UQ))
 (rS wX kj 19 fun A110 k111 Gh =>
 bj wX (.cells #[(iV (-1)), (iV (-1)), (iV 0)] 212 (0, 0)) fun Cz sS =>
 aS Tryz.prog (Go.Builtin.append_ #[83, 83] 83 #[(.slice A110 k111 Gh), (.slice (some ⟨Cz, 0, none⟩) 1 1)]) sS (fun v115 oF =>
 aD (some v115) fun Nb Nc CF =>
 sT oF kj 19 (.slice Nb Nc CF) fun M120 =>
 ∃ PS : Nat, (PS < X6) ∧
 U3 PS [(iV (IntKind.wrap .i64 (CG + 1)))] M120) Kp)
 (IW (Mem.fy wX ⟨kj, 0, none⟩ 0 27) fun l122 =>
 KN wX k7 0 l122 27 fun JV =>
 IW (Mem.fy JV ⟨k7, 0, none⟩ 0 27) fun l124 =>
 K (.agg (l124.toArray)) JV))) Kp) :
 ae Tryz.prog 63 ([.agg #[.slice jl jm jn, .slice jo jq jr, .int .i64 gn, .slice js jt ju], .agg #[.int .i64 cV, .int .i64 cW, .int .i64 cX, .int .i64 eK], .agg #[.slice XU XV XW, .slice XX XY XZ, .bool X0, .bool X1, .slice X3 X4 X5]] : List Value).toArray M K Kp :=
 aA (C := Cx) good [(1, .bS [0, 0, 2, 0, 0, 31, 0, 127] (.step 1 (.dx 0 (.dx 4 (.late 2 (.step 3 (.step 5 (.step 6 (.step 7 .done))))))))), (2000000, .loop [(8, .c (.int .i64))]), (5, .DK [0, 1, 0, 4, 12, 28, 60, 127, 255, 511] (.step 0 (.step 2 (.step 3 (.fork 1 (.step 4 (.step 5 (.step 6 (.step 7 (.step 8 (.step 9 .done)))))) (.fork 4 (.step 5 (.step 1 (.step 6 (.step 7 (.step 8 (.step 9 .done)))))) .dead))))) []), (2000002, .loop [(9, .c (.int .i64))])] Tryz.func63 (by kernel_rfl) (by kernel_rfl) h
end Go.Proofs
namespace Go.Proofs
open Go.AF
set_option maxRecDepth 100000
variable {M : Mem} {K : Value → Mem → Prop} {Kp : List PanicEntry → Mem → Prop}
theorem oI  (h :
bj M (.cells #[(iV 20), (iV 0), (iV 0), (iV 0), (iV 10), (iV 0), (iV 0), (iV 0)] 34 (0, 0)) fun k1 M2 =>
bj M2 (.cells #[(.slice (some ⟨k1, 0, none⟩) 2 2)] 31 (0, 0)) fun k3 M4 =>
bj M4 (.cells #[(.slice none 0 0), (.slice none 0 0), (iV 0), (.slice none 0 0)] 41 (0, 0)) fun k5 M6 =>
sT M6 k5 0 (.slice (some ⟨k3, 0, none⟩) 1 1) fun M7 =>
sT M7 k5 1 (.slice none 0 0) fun M8 =>
sT M8 k5 2 (iV 0) fun M9 =>
sT M9 k5 3 (.slice none 0 0) fun gS =>
rS gS k5 0 fun JH fK c7 =>
rS gS k5 1 fun nY fT dF =>
rI gS k5 2 fun hU =>
rS gS k5 3 fun Ib iO ig =>
bj gS (.cells #[(.int .u64 0), (.int .u64 0), (.int .u64 0), (.int .u64 0)] 36 (0, 0)) fun fa cR =>
ae Tryz.prog 17 #[(.slice (some ⟨fa, 0, none⟩) 4 4)] cR (fun SR ie =>
bL (some SR) fun Jx =>
((Mem.fy ie ⟨k5, 0, none⟩ 0 4) = some [(.slice JH fK c7), (.slice nY fT dF), (iV hU), (.slice Ib iO ig)]) ∧
ae Tryz.prog 16 #[(.agg #[(.slice JH fK c7), (.slice nY fT dF), (iV hU), (.slice Ib iO ig)]), (.agg #[(iV 1), (iV 1), (iV 2), (iV 9)]), (.pointer Jx)] ie (fun Xd rV =>
bL (some Xd) fun JE =>
((Mem.fy rV ⟨k5, 0, none⟩ 0 4) = some [(.slice JH fK c7), (.slice nY fT dF), (iV hU), (.slice Ib iO ig)]) ∧
aV (Option.isNone JE)
 (K (.bool false) rV)
 (ae Tryz.prog 50 #[(.pointer JE)] rV (fun v29 oe =>
 ∃ tv : Int, ∃ n32 : Int, ∃ kY : Int, ∃ A34 : Option Addr, ∃ sA : Nat, ∃ De : Nat, (v29 = (.agg #[(iV tv), (iV n32), (iV kY), (.slice A34 sA De)])) ∧
 ae Tryz.prog 50 #[(.pointer JE)] oe (fun Rt jJ =>
 ∃ HV : Int, ∃ Ia : Int, ∃ RA : Int, ∃ KU : Option Addr, ∃ nW : Nat, ∃ Jz : Nat, (Rt = (.agg #[(iV HV), (iV Ia), (iV RA), (.slice KU nW Jz)])) ∧
 ae Tryz.prog 50 #[(.pointer JE)] jJ (fun V6 wE =>
 ∃ AV : Int, ∃ zI : Int, ∃ Fo : Int, ∃ Tf : Option Addr, ∃ Bf : Nat, ∃ kj : Nat, (V6 = (.agg #[(iV AV), (iV zI), (iV Fo), (.slice Tf Bf kj)])) ∧
 bj wE (.cells #[(iV 0), (iV 0), (iV 0), (.slice none 0 0)] 47 (0, 0)) fun jI Ci =>
 bj Ci (.cells #[(iV 0), (iV 0), (iV 0), (.slice none 0 0)] 47 (0, 0)) fun Mu Fg =>
 bj Fg (.cells #[(iV 0), (iV 0), (iV 0), (.slice none 0 0)] 47 (0, 0)) fun rZ Gc =>
 sT Gc jI 0 (iV tv) fun xD =>
 sT xD jI 1 (iV n32) fun rW =>
 sT rW jI 2 (iV kY) fun vf =>
 sT vf jI 3 (.slice A34 sA De) fun qv =>
 sT qv Mu 0 (iV HV) fun wk =>
 sT wk Mu 1 (iV Ia) fun zZ =>
 sT zZ Mu 2 (iV RA) fun M65 =>
 sT M65 Mu 3 (.slice KU nW Jz) fun Ru =>
 sT Ru rZ 0 (iV AV) fun KV =>
 sT KV rZ 1 (iV zI) fun Mg =>
 sT Mg rZ 2 (iV Fo) fun Xb =>
 sT Xb rZ 3 (.slice Tf Bf kj) fun zF =>
 ae Tryz.prog 50 #[(.pointer JE)] zF (fun v71 vj =>
 ∃ OM : Int, ∃ Ig : Int, ∃ Mh : Int, ∃ A76 : Option Addr, ∃ PB : Nat, ∃ JJ : Nat, (v71 = (.agg #[(iV OM), (iV Ig), (iV Mh), (.slice A76 PB JJ)])) ∧
 rI vj jI 0 fun n79 =>
 aV (n79 == 2)
 (rI vj Mu 0 fun Xc =>
 aV (Xc == 4)
 (rI vj Mu 2 fun RF =>
 aV (RF == 0)
 (rI vj rZ 0 fun HZ =>
 aV (HZ == 7)
 (ae Tryz.prog 23 #[(.pointer JE)] vj (fun v83 Dg =>
 aK (some v83) .i64 fun z8 =>
 aV (z8 == 1)
 (ae Tryz.prog 33 #[(.pointer JE)] Dg (fun v86 zG =>
 aK (some v86) .i64 fun Wf =>
 K (.bool (Wf == 4)) zG) Kp)
 (K (.bool false) Dg)) Kp)
 (K (.bool false) vj))
 (K (.bool false) vj))
 (K (.bool false) vj))
 (K (.bool false) vj)) Kp) Kp) Kp) Kp)) Kp) Kp) :
 ae Tryz.prog 12 ([] : List Value).toArray M K Kp :=
 aA (C := Cx) good [(2, .bS [0, 0, 0, 4, 15, 31] (.step 1 (.dx 0 (.step 2 (.step 3 (.step 4 (.step 5 .done)))))))] Tryz.func12 (by kernel_rfl) (by kernel_rfl) h
theorem pQ {D1 : Int} {D2 : Int} {gn : Int} {X7 : Int} (h :
bj M (.cells #[(iV D1), (iV D2), (iV gn), (iV X7)] 23 (0, 0)) fun k1 M2 =>
bj M2 (.cells #[(iV 0), (iV 0), (iV 0), (iV 0)] 23 (0, 0)) fun k3 M4 =>
rI M4 k1 0 fun n5 =>
rI M4 k1 1 fun n6 =>
rI M4 k1 2 fun n7 =>
rI M4 k1 3 fun n8 =>
ae Tryz.prog 51 #[(iV n5), (iV 5)] M4 (fun v9 gS =>
aK (some v9) .i64 fun fu =>
((Mem.ld gS ⟨k1, 3, none⟩) = (some (iV n8))) ∧
((Mem.ld gS ⟨k1, 2, none⟩) = (some (iV n7))) ∧
((Mem.ld gS ⟨k1, 1, none⟩) = (some (iV n6))) ∧
ae Tryz.prog 51 #[(iV n6), (iV 5)] gS (fun Pn jN =>
aK (some Pn) .i64 fun je =>
((Mem.ld jN ⟨k1, 3, none⟩) = (some (iV n8))) ∧
((Mem.ld jN ⟨k1, 2, none⟩) = (some (iV n7))) ∧
((Mem.ld jN ⟨k1, 1, none⟩) = (some (iV n6))) ∧
ae Tryz.prog 51 #[(iV n7), (iV 5)] jN (fun Co eT =>
aK (some Co) .i64 fun hU =>
((Mem.ld eT ⟨k1, 3, none⟩) = (some (iV n8))) ∧
((Mem.ld eT ⟨k1, 2, none⟩) = (some (iV n7))) ∧
((Mem.ld eT ⟨k1, 1, none⟩) = (some (iV n6))) ∧
ae Tryz.prog 51 #[(iV n8), (iV 12)] eT (fun DV hH =>
aK (some DV) .i64 fun fq =>
((Mem.ld hH ⟨k1, 3, none⟩) = (some (iV n8))) ∧
((Mem.ld hH ⟨k1, 2, none⟩) = (some (iV n7))) ∧
((Mem.ld hH ⟨k1, 1, none⟩) = (some (iV n6))) ∧
sT hH k3 0 (iV (IntKind.wrap .i64 (1 + fu))) fun iP =>
sT iP k3 1 (iV (IntKind.wrap .i64 (1 + je))) fun cR =>
sT cR k3 2 (iV (IntKind.wrap .i64 (2 + hU))) fun kL =>
sT kL k3 3 (iV (IntKind.wrap .i64 (1 + fq))) fun ie =>
((Mem.ld ie ⟨k1, 3, none⟩) = (some (iV n8))) ∧
((Mem.ld ie ⟨k1, 2, none⟩) = (some (iV n7))) ∧
((Mem.ld ie ⟨k1, 1, none⟩) = (some (iV n6))) ∧
rI ie k3 0 fun lZ =>
rI ie k3 1 fun ov =>
rI ie k3 2 fun xA =>
rI ie k3 3 fun wm =>
K (.agg #[(iV lZ), (iV ov), (iV xA), (iV wm)]) ie) Kp) Kp) Kp) Kp) :
 ae Tryz.prog 15 ([.agg #[.int .i64 D1, .int .i64 D2, .int .i64 gn, .int .i64 X7]] : List Value).toArray M K Kp :=
 aA (C := Cx) good [(2, .bS [0, 0, 2, 7, 15, 0, 0, 64, 239, 495, 0, 0, 2048, 7663, 15855, 0, 0, 65536, 245231, 507375, 1048575, 2097151] (.step 0 (.step 1 (.step 5 (.step 6 (.step 10 (.step 11 (.step 15 (.step 16 (.step 2 (.dx 7 (.dx 12 (.dx 17 (.step 3 (.step 4 (.step 8 (.step 9 (.step 13 (.step 14 (.step 18 (.step 19 (.step 20 (.step 21 .done)))))))))))))))))))))))] Tryz.func15 (by kernel_rfl) (by kernel_rfl) h
theorem nH {x0 : Int} {x1 : Int} (h :
((x1 : Int) ≠ 0) ∧
K (iV (Int.tmod (IntKind.wrap .i64 (((Nat.bitwise and (BitVec.ofInt IntKind.i64.bits x0).toNat (BitVec.ofInt IntKind.i64.bits 255).toNat) : Nat) : Int)) x1)) M) :
 ae Tryz.prog 51 ([.int .i64 x0, .int .i64 x1] : List Value).toArray M K Kp :=
 aA (C := Cx) good [] Tryz.func51 (by kernel_rfl) (by kernel_rfl) h
end Go.Proofs
namespace Go.Proofs
open Go.AF
set_option maxRecDepth 100000
theorem pR {jl : Option Addr} {jm jn : Nat} {jo : Option Addr} {jq jr : Nat} {gn : Int} {js : Option Addr} {jt ju : Nat} {cV : Int} {cW : Int} {cX : Int} {eK : Int} {B2 : Option Addr} {m2 c2 : Nat} {M : Mem} {K : Value → Mem → Prop} {Kp : List PanicEntry → Mem → Prop} (h :
bj M (.cells #[(.slice jl jm jn), (.slice jo jq jr), (iV gn), (.slice js jt ju)] 73 (0, 0)) fun k1 M2 =>
bj M2 (.cells #[(iV cV), (iV cW), (iV cX), (iV eK)] 23 (0, 0)) fun k3 M4 =>
bj M4 (.cells #[(iV 0), (iV 0), (iV 0), (iV 0), (.slice none 0 0), (.slice none 0 0), (iV 0), (.slice none 0 0), (.slice none 0 0), (.int .u64 0), (.slice none 0 0), (.slice none 0 0), (.slice none 0 0), (.int .u64 0), (.slice none 0 0), (iV 0), (iV 0), (.slice none 0 0), (.slice none 0 0), (.slice none 0 0), (.slice none 0 0), (.slice none 0 0), (.slice none 0 0), (.bool false), (.bool false), (.slice none 0 0), (iV 0)] 88 (0, 0)) fun k5 M6 =>
rS M6 k1 0 fun A7 k8 k9 =>
rS M6 k1 1 fun Db eB fK =>
rI M6 k1 2 fun jg =>
rS M6 k1 3 fun nY fT dF =>
ae Tryz.prog 35 #[(.agg #[(.slice A7 k8 k9), (.slice Db eB fK), (iV jg), (.slice nY fT dF)])] M6 (fun S1 mC =>
∃ zH : Option Addr, ∃ ig : Nat, ∃ fa : Nat, ∃ Pv : Option Addr, ∃ iL : Nat, ∃ qF : Nat, ∃ lZ : Int, ∃ Fl : Option Addr, ∃ oh : Nat, ∃ lg : Nat, (S1 = (.agg #[(.slice zH ig fa), (.slice Pv iL qF), (iV lZ), (.slice Fl oh lg)])) ∧
bj mC (.cells #[(.slice none 0 0), (.slice none 0 0), (iV 0), (.slice none 0 0)] 73 (0, 0)) fun jZ oe =>
sT oe jZ 0 (.slice zH ig fa) fun Be =>
sT Be jZ 1 (.slice Pv iL qF) fun mA =>
sT mA jZ 2 (iV lZ) fun tT =>
sT tT jZ 3 (.slice Fl oh lg) fun lY =>
ae Tryz.prog 17 #[(.slice B2 m2 c2)] lY (fun v35 oQ =>
bL (some v35) fun KY =>
rS oQ jZ 0 fun Td vn zR =>
rS oQ jZ 1 fun S0 KQ nW =>
rI oQ jZ 2 fun Df =>
rS oQ jZ 3 fun A45 HW KS =>
rI oQ k3 0 fun zI =>
rI oQ k3 1 fun Fo =>
rI oQ k3 2 fun Bc =>
rI oQ k3 3 fun zY =>
rS oQ jZ 0 fun SN jI Ck =>
rS oQ jZ 1 fun S7 KZ rZ =>
rI oQ jZ 2 fun DW =>
rS oQ jZ 3 fun X8 U2 X9 =>
rI oQ k3 0 fun KX =>
rI oQ k3 1 fun yj =>
rI oQ k3 2 fun n64 =>
rI oQ k3 3 fun vg =>
ae Tryz.prog 29 #[(.agg #[(.slice Td vn zR), (.slice S0 KQ nW), (iV Df), (.slice A45 HW KS)])] oQ (fun v66 KV =>
∃ XT : Option Addr, ∃ Ii : Nat, ∃ Bg : Nat, ∃ JK : Option Addr, ∃ Ic : Nat, ∃ Mx : Nat, ∃ Ig : Int, ∃ We : Option Addr, ∃ RE : Nat, ∃ PB : Nat, (v66 = (.agg #[(.slice XT Ii Bg), (.slice JK Ic Mx), (iV Ig), (.slice We RE PB)])) ∧
((Mem.fy KV ⟨k3, 0, none⟩ 0 4) = some [(iV KX), (iV yj), (iV n64), (iV vg)]) ∧
((Mem.fy KV ⟨jZ, 0, none⟩ 0 4) = some [(.slice SN jI Ck), (.slice S7 KZ rZ), (iV DW), (.slice X8 U2 X9)]) ∧
((Mem.fy KV ⟨k3, 0, none⟩ 0 4) = some [(iV zI), (iV Fo), (iV Bc), (iV zY)]) ∧
ae Tryz.prog 16 #[(.agg #[(.slice XT Ii Bg), (.slice JK Ic Mx), (iV Ig), (.slice We RE PB)]), (.agg #[(iV zI), (iV Fo), (iV Bc), (iV zY)]), (.pointer KY)] KV (fun v78 RH =>
bL (some v78) fun A80 =>
((Mem.fy RH ⟨k3, 0, none⟩ 0 4) = some [(iV KX), (iV yj), (iV n64), (iV vg)]) ∧
((Mem.fy RH ⟨jZ, 0, none⟩ 0 4) = some [(.slice SN jI Ck), (.slice S7 KZ rZ), (iV DW), (.slice X8 U2 X9)]) ∧
((Mem.fy RH ⟨k3, 0, none⟩ 0 4) = some [(iV zI), (iV Fo), (iV Bc), (iV zY)]) ∧
ae Tryz.prog 63 #[(.agg #[(.slice SN jI Ck), (.slice S7 KZ rZ), (iV DW), (.slice X8 U2 X9)]), (.agg #[(iV KX), (iV yj), (iV n64), (iV vg)]), (.agg #[(.slice B2 m2 c2), (.slice none 0 0), (.bool false), (.bool false), (.slice none 0 0)])] RH (fun v81 K2 =>
∃ l83 : List Value, ((l83.length) = 27) ∧
(v81 = (.agg (l83.toArray))) ∧
((Mem.fy K2 ⟨k3, 0, none⟩ 0 4) = some [(iV KX), (iV yj), (iV n64), (iV vg)]) ∧
((Mem.fy K2 ⟨jZ, 0, none⟩ 0 4) = some [(.slice SN jI Ck), (.slice S7 KZ rZ), (iV DW), (.slice X8 U2 X9)]) ∧
((Mem.fy K2 ⟨k3, 0, none⟩ 0 4) = some [(iV zI), (iV Fo), (iV Bc), (iV zY)]) ∧
KN K2 k5 0 l83 27 fun Dg =>
((Mem.fy Dg ⟨k3, 0, none⟩ 0 4) = some [(iV KX), (iV yj), (iV n64), (iV vg)]) ∧
((Mem.fy Dg ⟨jZ, 0, none⟩ 0 4) = some [(.slice SN jI Ck), (.slice S7 KZ rZ), (iV DW), (.slice X8 U2 X9)]) ∧
((Mem.fy Dg ⟨k3, 0, none⟩ 0 4) = some [(iV zI), (iV Fo), (iV Bc), (iV zY)]) ∧
IW (Mem.fy Dg ⟨k5, 0, none⟩ 0 27) fun l85 =>
K (.tuple #[(.pointer A80), (.agg (l85.toArray)), (.pointer KY)]) Dg) Kp) Kp) Kp) Kp) Kp) :
 ae Tryz.prog 27 ([.agg #[.slice jl jm jn, .slice jo jq jr, .int .i64 gn, .slice js jt ju], .agg #[.int .i64 cV, .int .i64 cW, .int .i64 cX, .int .i64 eK], .slice B2 m2 c2] : List Value).toArray M K Kp :=
 aA (C := Cx) good [(3, .bS [0, 1, 0, 0, 15, 0, 0, 0, 128, 511, 0, 1023, 3071, 8191] (.step 3 (.step 7 (.step 8 (.step 10 (.step 0 (.dx 2 (.dx 5 (.dx 6 (.step 1 (.step 4 (.step 9 (.step 11 (.step 12 (.step 13 .done)))))))))))))))] Tryz.func27 (by kernel_rfl) (by kernel_rfl) h
theorem oJ {b0 o0 : Nat} {M : Mem} {K : Value → Mem → Prop} {Kp : List PanicEntry → Mem → Prop} (h :
bj M (.map #[] 0) fun k1 M2 =>
bj M2 (.map #[] 0) fun k3 M4 =>
ae Tryz.prog 25 #[(.pointer (some ⟨b0, o0, none⟩))] M4 (fun v5 M6 =>
aD (some v5) fun A7 k8 k9 =>
∃ I10 : Nat → List Value → Mem → Prop, (∃ eB : Nat, I10 eB [(iV 0)] M6) ∧
∀ fK : Nat, ∀ junk13 : Nat → Value, ∀ je : Int, ∀ nX : Mem, (I10 fK [(iV je)] nX) → aV (decide ((je : Int) < ((k8 : Nat) : Int)))
 (((0 : Int) ≤ je) ∧
 ((je : Int) < ((k8 : Nat) : Int)) ∧
 aI A7 fun dF eE =>
 rI nX dF (eE + (Int.toNat je)) fun kq =>
 aS Tryz.prog (Go.Instr.lookup 168 (.map (some k1)) (iV kq) false) nX (fun Pu nx =>
 aK (some Pu) .i64 fun nw =>
 bI Tryz.prog (Go.Instr.mapUpdate 168 (.map (some k1)) (iV kq) (iV (IntKind.wrap .i64 (nw + 1)))) nx (fun cR =>
 ∃ iL : Nat, (iL < fK) ∧
 I10 iL [(iV (IntKind.wrap .i64 (je + 1)))] cR) Kp) Kp)
 (ae Tryz.prog 19 #[(.pointer (some ⟨b0, o0, none⟩))] nX (fun SZ AX =>
 aD (some SZ) fun Fl oh lg =>
 ∃ I29 : Nat → List Value → Mem → Prop, (∃ kZ : Nat, I29 kZ [(iV 0)] AX) ∧
 ∀ nA : Nat, ∀ junk32 : Nat → Value, ∀ kY : Int, ∀ lY : Mem, (I29 nA [(iV kY)] lY) → aV (decide ((kY : Int) < ((oh : Nat) : Int)))
 (((0 : Int) ≤ kY) ∧
 ((kY : Int) < ((oh : Nat) : Int)) ∧
 aI Fl fun sA De =>
 rI lY sA (De + ((Int.toNat kY) * 4)) fun Md =>
 rS lY sA ((De + ((Int.toNat kY) * 4)) + 1) fun Td vn zR =>
 rI lY sA ((De + ((Int.toNat kY) * 4)) + 2) fun RA =>
 rI lY sA ((De + ((Int.toNat kY) * 4)) + 3) fun Pt =>
 bj lY (.cells #[(iV 0), (.slice none 0 0), (iV 0), (iV 0)] 53 (0, 0)) fun nW wD =>
 sT wD nW 0 (iV Md) fun mW =>
 sT mW nW 1 (.slice Td vn zR) fun wE =>
 sT wE nW 2 (iV RA) fun rY =>
 sT rY nW 3 (iV Pt) fun Mf =>
 rS Mf nW 1 fun Te yh Bf =>
 ∃ I52 : Nat → List Value → Mem → Prop, (∃ jI : Nat, I52 jI [(iV 0)] Mf) ∧
 ∀ Ck : Nat, ∀ junk55 : Nat → Value, ∀ Dh : Int, ∀ wW : Mem, (I52 Ck [(iV Dh)] wW) → aV (decide ((Dh : Int) < ((yh : Nat) : Int)))
 (((0 : Int) ≤ Dh) ∧
 ((Dh : Int) < ((yh : Nat) : Int)) ∧
 aI Te fun DX SO =>
 rI wW DX (SO + (Int.toNat Dh)) fun HY =>
 aS Tryz.prog (Go.Instr.lookup 168 (.map (some k1)) (iV HY) false) wW (fun v61 qv =>
 aK (some v61) .i64 fun yj =>
 bI Tryz.prog (Go.Instr.mapUpdate 168 (.map (some k1)) (iV HY) (iV (IntKind.wrap .i64 (yj + 1)))) qv (fun zZ =>
 ∃ V8 : Nat, (V8 < Ck) ∧
 I52 V8 [(iV (IntKind.wrap .i64 (Dh + 1)))] zZ) Kp) Kp)
 (rI wW nW 0 fun SL =>
 ∃ J67 : List Value → Mem → Prop, (aV (SL != (-1))
 (rI wW nW 0 fun H9 =>
 aS Tryz.prog (Go.Instr.lookup 168 (.map (some k1)) (iV H9) false) wW (fun Xj zF =>
 aK (some Xj) .i64 fun V4 =>
 bI Tryz.prog (Go.Instr.mapUpdate 168 (.map (some k1)) (iV H9) (iV (IntKind.wrap .i64 (V4 + 1)))) zF (fun vj =>
 J67 [] vj) Kp) Kp)
 (J67 [] wW)) ∧
 ∀ junk73 : Nat → Value, ∀ Bd : Mem, (J67 [] Bd) → ∃ V9 : Nat, (V9 < nA) ∧
 I29 V9 [(iV (IntKind.wrap .i64 (kY + 1)))] Bd))
 (ae Tryz.prog 20 #[(.pointer (some ⟨b0, o0, none⟩))] lY (fun Tg Mw =>
 aD (some Tg) fun Th Fm Ie =>
 ∃ ZD : Nat → List Value → Mem → Prop, (∃ Gd : Nat, ZD Gd [(iV 0)] Mw) ∧
 ∀ vr : Nat, ∀ junk84 : Nat → Value, ∀ z8 : Int, ∀ AW : Mem, (ZD vr [(iV z8)] AW) → aV (decide ((z8 : Int) < ((Fm : Nat) : Int)))
 (((0 : Int) ≤ z8) ∧
 ((z8 : Int) < ((Fm : Nat) : Int)) ∧
 aI Th fun OO D6 =>
 rI AW OO (D6 + ((Int.toNat z8) * 3)) fun OP =>
 rI AW OO ((D6 + ((Int.toNat z8) * 3)) + 1) fun K5 =>
 rI AW OO ((D6 + ((Int.toNat z8) * 3)) + 2) fun n91 =>
 bj AW (.cells #[(iV 0), (iV 0), (iV 0)] 55 (0, 0)) fun wF yE =>
 sT yE wF 0 (iV OP) fun UP =>
 sT UP wF 1 (iV K5) fun Ee =>
 sT Ee wF 2 (iV n91) fun RB =>
 rI RB wF 1 fun n97 =>
 ∃ J98 : List Value → Mem → Prop, (aV (n97 != (-1))
 (rI RB wF 1 fun JL =>
 aS Tryz.prog (Go.Instr.lookup 168 (.map (some k1)) (iV JL) false) RB (fun Nd gF =>
 aK (some Nd) .i64 fun FY =>
 bI Tryz.prog (Go.Instr.mapUpdate 168 (.map (some k1)) (iV JL) (iV (IntKind.wrap .i64 (FY + 1)))) gF (fun Gf =>
 J98 [] Gf) Kp) Kp)
 (J98 [] RB)) ∧
 ∀ PD : Nat → Value, ∀ mB : Mem, (J98 [] mB) → rI mB wF 0 fun Up =>
 aV (Up == (-1))
 (rI mB wF 1 fun CG =>
 aV (CG != (-1))
 (K (.bool false) mB)
 (rI mB wF 2 fun yA =>
 aV (yA != 0)
 (K (.bool false) mB)
 (∃ Aa : Nat, (Aa < vr) ∧
 ZD Aa [(iV (IntKind.wrap .i64 (z8 + 1)))] mB)))
 (rI mB wF 0 fun DZ =>
 aS Tryz.prog (Go.Instr.lookup 168 (.map (some k3)) (iV DZ) false) mB (fun v111 Ux =>
 aK (some v111) .i64 fun F0 =>
 bI Tryz.prog (Go.Instr.mapUpdate 168 (.map (some k3)) (iV DZ) (iV (IntKind.wrap .i64 (F0 + 1)))) Ux (fun sS =>
 rI sS wF 0 fun UR =>
 aS Tryz.prog (Go.Instr.lookup 168 (.map (some k3)) (iV UR) false) sS (fun v116 vt =>
 aK (some v116) .i64 fun n118 =>
 aV (decide ((n118 : Int) > 1))
 (K (.bool false) vt)
 (rI vt wF 0 fun Ad =>
 ae Tryz.prog 19 #[(.pointer (some ⟨b0, o0, none⟩))] vt (fun v120 Ef =>
 aD (some v120) fun Gj CA D8 =>
 ((Mem.ld Ef ⟨wF, 0, none⟩) = (some (iV Ad))) ∧
 ((0 : Int) ≤ Ad) ∧
 ((Ad : Int) < ((CA : Nat) : Int)) ∧
 aI Gj fun MB Ur =>
 rI Ef MB ((Ur + ((Int.toNat Ad) * 4)) + 3) fun yG =>
 aV (yG != z8)
 (K (.bool false) Ef)
 (∃ PU : Nat, (PU < vr) ∧
 ZD PU [(iV (IntKind.wrap .i64 (z8 + 1)))] Ef)) Kp)) Kp) Kp) Kp))
 (ae Tryz.prog 21 #[(.pointer (some ⟨b0, o0, none⟩))] AW (fun v129 kP =>
 bL (some v129) fun xg =>
 ae Tryz.prog 64 #[(.pointer xg)] kP (fun v132 Gu =>
 aK (some v132) .i64 fun US =>
 ∃ P4 : Nat → List Value → Mem → Prop, (∃ oG : Nat, P4 oG [(iV 0)] Gu) ∧
 ∀ U4 : Nat, ∀ ZE : Nat → Value, ∀ J0 : Int, ∀ CB : Mem, (P4 U4 [(iV J0)] CB) → aV (decide ((J0 : Int) < US))
 (ae Tryz.prog 65 #[(.pointer xg), (iV J0)] CB (fun v141 Eb =>
 aK (some v141) .i64 fun UT =>
 ∃ U5 : List Value → Mem → Prop, (aV (UT == 1)
 (U5 [(iV 1)] Eb)
 (U5 [(iV 0)] Eb)) ∧
 ∀ PV : Nat → Value, ∀ Ec : Int, ∀ JP : Mem, (U5 [(iV Ec)] JP) → ae Tryz.prog 60 #[(.pointer xg)] JP (fun v148 vu =>
 ∃ Ea : Int, ∃ MD : Int, (v148 = (.tuple #[(iV Ea), (iV MD)])) ∧
 aV (Ea == 0)
 (aS Tryz.prog (Go.Instr.lookup 168 (.map (some k1)) (iV J0) false) vu (fun v152 Ya =>
 aK (some v152) .i64 fun UU =>
 aV (UU != Ec)
 (K (.bool false) Ya)
 (∃ PI : Nat, (PI < U4) ∧
 P4 PI [(iV (IntKind.wrap .i64 (J0 + 1)))] Ya)) Kp)
 (∃ JS : Nat, (JS < U4) ∧
 P4 JS [(iV (IntKind.wrap .i64 (J0 + 1)))] vu)) Kp) Kp)
 (K (.bool true) CB)) Kp) Kp)) Kp)) Kp)) Kp) :
 ae Tryz.prog 28 ([.pointer (some ⟨b0, o0, none⟩)] : List Value).toArray M K Kp :=
 aA (C := Cx) good [(2000000, .loop [(23, .c (.int .i64))]), (2000002, .loop [(35, .c (.int .i64))]), (2000004, .loop [(42, .c (.int .i64))]), (3000053, .cut []), (2000006, .loop [(63, .c (.int .i64))]), (3000070, .cut []), (28, .bS [0, 0, 2, 7, 15, 31, 63, 127, 63, 319, 1023, 2047, 4095, 63, 16383, 32767] (.step 0 (.step 1 (.step 2 (.step 3 (.step 4 (.step 5 (.step 6 (.step 8 (.step 13 (.dx 9 (.step 7 (.step 10 (.step 11 (.step 12 (.step 14 (.step 15 .done))))))))))))))))), (2000008, .loop [(113, .c (.int .i64))]), (3000119, .cut [(15, .c (.int .i64))])] Tryz.func28 (by kernel_rfl) (by kernel_rfl) h
end Go.Proofs
namespace Go.Proofs
open Go.AF
set_option maxRecDepth 100000
theorem pS {b0 o0 : Nat} {M : Mem} {K : Value → Mem → Prop} {Kp : List PanicEntry → Mem → Prop} (h :
bj M (.cells #[(.pointer (some ⟨b0, o0, none⟩))] 42 (0, 0)) fun k1 M2 =>
bj M2 (.cells #[(iV 0), (iV 0), (iV 0), (.slice none 0 0)] 47 (0, 0)) fun k3 M4 =>
bj M4 (.cells #[(iV 0), (iV 0), (iV 0), (.slice none 0 0)] 47 (0, 0)) fun k5 M6 =>
ae Tryz.prog 56 #[(.func (.func 57) #[] #[(.pointer (some ⟨k1, 0, none⟩)), (.pointer (some ⟨k5, 0, none⟩))])] M6 (fun v7 M8 =>
∃ n9 : Int, ∃ jP : Int, ∃ fu : Int, ∃ jf : Int, ∃ jg : Int, ∃ je : Int, (v7 = (.tuple #[(iV n9), (.agg #[(iV jP), (iV fu), (iV jf), (iV jg), (.int .u64 je)])])) ∧
bj M8 (.cells #[(iV 0), (iV 0), (iV 0), (iV 0), (.int .u64 0)] 155 (0, 0)) fun fT eT =>
sT eT fT 0 (iV jP) fun jO =>
sT jO fT 1 (iV fu) fun mC =>
sT mC fT 2 (iV jf) fun hH =>
sT hH fT 3 (iV jg) fun nx =>
sT nx fT 4 (.int .u64 je) fun iP =>
rI iP k5 0 fun rU =>
rI iP k5 1 fun nB =>
rI iP k5 2 fun wY =>
rS iP k5 3 fun Jx lC oh =>
sT iP k3 0 (iV rU) fun yg =>
sT yg k3 1 (iV nB) fun lT =>
sT lT k3 2 (iV wY) fun oe =>
sT oe k3 3 (.slice Jx lC oh) fun Be =>
rI Be k3 0 fun n32 =>
rI Be k3 1 fun kY =>
rI Be k3 2 fun Ps =>
rS Be k3 3 fun A35 De wC =>
K (.tuple #[(.agg #[(iV n32), (iV kY), (iV Ps), (.slice A35 De wC)]), (iV n9)]) Be) Kp) :
 ae Tryz.prog 18 ([.pointer (some ⟨b0, o0, none⟩)] : List Value).toArray M K Kp :=
 aA (C := Cx) good [] Tryz.func18 (by kernel_rfl) (by kernel_rfl) h
theorem iE {b0 o0 : Nat} {b1 o1 : Nat} {M : Mem} {K : Value → Mem → Prop} {Kp : List PanicEntry → Mem → Prop} (h :
bL (Mem.ld M ⟨b0, o0, none⟩) fun A1 =>
ae Tryz.prog 50 #[(.pointer A1)] M (fun v2 M3 =>
∃ n4 : Int, ∃ n5 : Int, ∃ n6 : Int, ∃ A7 : Option Addr, ∃ k8 : Nat, ∃ k9 : Nat, (v2 = (.agg #[(iV n4), (iV n5), (iV n6), (.slice A7 k8 k9)])) ∧
sT M3 b1 o1 (iV n4) fun gS =>
sT gS b1 (o1 + 1) (iV n5) fun iq =>
sT iq b1 (o1 + 2) (iV n6) fun jH =>
sT jH b1 (o1 + 3) (.slice A7 k8 k9) fun jN =>
K (.tuple #[]) jN) Kp) :
 ae Tryz.prog 57 ([.pointer (some ⟨b0, o0, none⟩), .pointer (some ⟨b1, o1, none⟩)] : List Value).toArray M K Kp :=
 aA (C := Cx) good [] Tryz.func57 (by kernel_rfl) (by kernel_rfl) h
end Go.Proofs
namespace Go.Proofs
open Go.AF
set_option maxRecDepth 100000
theorem lq {jl : Option Addr} {jm jn : Nat} {jo : Option Addr} {jq jr : Nat} {gn : Int} {js : Option Addr} {jt ju : Nat} {cV : Int} {cW : Int} {cX : Int} {eK : Int} {B2 : Option Addr} {m2 c2 : Nat} {M : Mem} {K : Value → Mem → Prop} {Kp : List PanicEntry → Mem → Prop} (h :
bj M (.cells #[(.slice jl jm jn), (.slice jo jq jr), (iV gn), (.slice js jt ju)] 73 (0, 0)) fun k1 M2 =>
bj M2 (.cells #[(iV cV), (iV cW), (iV cX), (iV eK)] 23 (0, 0)) fun k3 M4 =>
ae Tryz.prog 12 #[] M4 (fun v5 M6 =>
cD (some v5) fun t7 =>
aV (!t7)
 (K (.bool false) M6)
 (((0 : Int) ≤ ((c2 : Nat) : Int)) ∧
 ((((c2 : Nat) : Int) : Int) ≤ ((c2 : Nat) : Int)) ∧
 ((0 : Int) ≤ (if (200 : Int) < ((m2 : Nat) : Int) then 200 else ((m2 : Nat) : Int))) ∧
 (((if (200 : Int) < ((m2 : Nat) : Int) then 200 else ((m2 : Nat) : Int)) : Int) ≤ ((c2 : Nat) : Int)) ∧
 ((0 : Int) ≤ 0) ∧
 ((0 : Int) ≤ (if (200 : Int) < ((m2 : Nat) : Int) then 200 else ((m2 : Nat) : Int))) ∧
 rI M6 k3 0 fun n8 =>
 rI M6 k3 1 fun n9 =>
 rI M6 k3 2 fun jP =>
 rI M6 k3 3 fun fu =>
 rS M6 k1 0 fun sB c7 fX =>
 rS M6 k1 1 fun qt dF eE =>
 rI M6 k1 2 fun kq =>
 rS M6 k1 3 fun zH ig fa =>
 (True) ∧
 ae Tryz.prog 15 #[(.agg #[(iV n8), (iV n9), (iV jP), (iV fu)])] M6 (fun F1 kL =>
 ∃ wY : Int, ∃ lZ : Int, ∃ ov : Int, ∃ xA : Int, (F1 = (.agg #[(iV wY), (iV lZ), (iV ov), (iV xA)])) ∧
 ((Mem.fy kL ⟨k1, 0, none⟩ 0 4) = some [(.slice sB c7 fX), (.slice qt dF eE), (iV kq), (.slice zH ig fa)]) ∧
 (True) ∧
 ae Tryz.prog 27 #[(.agg #[(.slice sB c7 fX), (.slice qt dF eE), (iV kq), (.slice zH ig fa)]), (.agg #[(iV wY), (iV lZ), (iV ov), (iV xA)]), (.slice (lj B2 0 (Int.toNat ((c2 : Nat) : Int)) 1) ((Int.toNat (if (200 : Int) < ((m2 : Nat) : Int) then 200 else ((m2 : Nat) : Int))) - 0) ((Int.toNat ((c2 : Nat) : Int)) - 0))] kL (fun Mm lT =>
 ∃ Fh : Option Addr, ∃ l31 : List Value, ((l31.length) = 27) ∧
 ∃ Xr : Option Addr, (Mm = (.tuple #[(.pointer Fh), (.agg (l31.toArray)), (.pointer Xr)])) ∧
 ((Mem.fy lT ⟨k1, 0, none⟩ 0 4) = some [(.slice sB c7 fX), (.slice qt dF eE), (iV kq), (.slice zH ig fa)]) ∧
 bj lT (.cells #[(iV 0), (iV 0), (iV 0), (iV 0), (.slice none 0 0), (.slice none 0 0), (iV 0), (.slice none 0 0), (.slice none 0 0), (.int .u64 0), (.slice none 0 0), (.slice none 0 0), (.slice none 0 0), (.int .u64 0), (.slice none 0 0), (iV 0), (iV 0), (.slice none 0 0), (.slice none 0 0), (.slice none 0 0), (.slice none 0 0), (.slice none 0 0), (.slice none 0 0), (.bool false), (.bool false), (.slice none 0 0), (iV 0)] 88 (0, 0)) fun nE lY =>
 KN lY nE 0 l31 27 fun qu =>
 ((Mem.fy qu ⟨k1, 0, none⟩ 0 4) = some [(.slice sB c7 fX), (.slice qt dF eE), (iV kq), (.slice zH ig fa)]) ∧
 ∃ I36 : Nat → List Value → Mem → Prop, (∃ wC : Nat, I36 wC [(iV 0)] qu) ∧
 ∀ gL : Nat, ∀ junk39 : Nat → Value, ∀ Ia : Int, ∀ wZ : Mem, (I36 gL [(iV Ia)] wZ) → aV (decide ((Ia : Int) < 200))
 (ae Tryz.prog 18 #[(.pointer Fh)] wZ (fun V7 tZ =>
 ∃ Df : Int, ∃ uN : Int, ∃ Ba : Int, ∃ S3 : Option Addr, ∃ Bb : Nat, ∃ Ga : Nat, ∃ Bc : Int, (V7 = (.tuple #[(.agg #[(iV Df), (iV uN), (iV Ba), (.slice S3 Bb Ga)]), (iV Bc)])) ∧
 bj tZ (.cells #[(iV 0), (iV 0), (iV 0), (.slice none 0 0)] 47 (0, 0)) fun Bf Px =>
 sT Px Bf 0 (iV Df) fun Ct =>
 sT Ct Bf 1 (iV uN) fun Ci =>
 sT Ci Bf 2 (iV Ba) fun mV =>
 sT mV Bf 3 (.slice S3 Bb Ga) fun Fg =>
 aV (Bc != 0)
 (ae Tryz.prog 28 #[(.pointer Fh)] Fg (fun v57 Gc =>
 cD (some v57) fun t59 =>
 K (.bool t59) Gc) Kp)
 (ae Tryz.prog 28 #[(.pointer Fh)] Fg (fun v60 vf =>
 cD (some v60) fun t62 =>
 aV (!t62)
 (K (.bool false) vf)
 (ae Tryz.prog 23 #[(.pointer Fh)] vf (fun v63 zZ =>
 aK (some v63) .i64 fun vg =>
 aV (vg != 0)
 (ae Tryz.prog 28 #[(.pointer Fh)] zZ (fun v66 KV =>
 cD (some v66) fun t68 =>
 K (.bool t68) KV) Kp)
 (∃ Ii : Nat, (Ii < gL) ∧
 I36 Ii [(iV (IntKind.wrap .i64 (Ia + 1)))] zZ)) Kp)) Kp)) Kp)
 (ae Tryz.prog 28 #[(.pointer Fh)] wZ (fun v70 Dd =>
 cD (some v70) fun t72 =>
 K (.bool t72) Dd) Kp)) Kp) Kp)) Kp) :
 ae Tryz.prog 7 ([.agg #[.slice jl jm jn, .slice jo jq jr, .int .i64 gn, .slice js jt ju], .agg #[.int .i64 cV, .int .i64 cW, .int .i64 cX, .int .i64 eK], .slice B2 m2 c2] : List Value).toArray M K Kp :=
 aA (C := Cx) good [(3, .bS [0, 0, 2, 0, 0, 16, 48, 120, 255, 511, 1023, 1023, 1023, 0, 10239, 28671, 65535] (.step 3 (.step 4 (.step 5 (.step 6 (.step 7 (.step 1 (.dx 0 (.late 2 (.late 8 (.step 9 (.step 10 (.step 11 (.step 12 (.step 13 (.step 14 (.step 15 (.step 16 .done)))))))))))))))))), (2000000, .loop [(27, .c (.int .i64))])] Tryz.func7 (by kernel_rfl) (by kernel_rfl) h
end Go.Proofs
