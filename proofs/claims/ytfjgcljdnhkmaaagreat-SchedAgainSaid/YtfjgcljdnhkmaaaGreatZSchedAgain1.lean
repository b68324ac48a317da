/- A part of proofs about one program. -/
import Derived.Scope
import Derived.Test.YtfjgcljdnhkmaaaGreatProg
import Derived.WalkKit
import Derived.Test.YtfjgcljdnhkmaaaGreatZSchedAgainBase
import Derived.Test.YtfjgcljdnhkmaaaGreatZSchedAgainOps
import Derived.Test.YtfjgcljdnhkmaaaGreatZSchedAgainOpsB
import Derived.Test.YtfjgcljdnhkmaaaGreatZSchedAgainOpC
import Derived.Test.YtfjgcljdnhkmaaaGreatZSchedAgainFrame
import Derived.Test.YtfjgcljdnhkmaaaGreatZSchedAgainReg
import Derived.Test.YtfjgcljdnhkmaaaGreatZSchedAgainRegB
import Derived.Test.YtfjgcljdnhkmaaaGreatZSchedAgainRegL
import Derived.Test.YtfjgcljdnhkmaaaGreatZSchedAgainRegC
import Derived.Test.YtfjgcljdnhkmaaaGreatZSchedAgainExec
import Derived.Test.YtfjgcljdnhkmaaaGreatZSchedAgainSound
import Derived.Test.YtfjgcljdnhkmaaaGreatZSchedAgainSoundB
import Derived.Test.YtfjgcljdnhkmaaaGreatZSchedAgainLib
import Derived.Test.YtfjgcljdnhkmaaaGreatZSchedAgainHp
import Derived.Test.YtfjgcljdnhkmaaaGreatZSchedAgainRow
import Derived.Test.YtfjgcljdnhkmaaaGreatZSchedAgainBig
import Derived.Test.YtfjgcljdnhkmaaaGreatZSchedAgainStC
import Derived.Test.YtfjgcljdnhkmaaaGreatZSchedAgainMod
import Derived.Test.YtfjgcljdnhkmaaaGreatZSchedAgain0
set_option linter.unusedVariables false
namespace Go.Proofs
open Go.AF
set_option maxRecDepth 100000
variable {M : Mem} {K : Value → Mem → Prop} {Kp : List PanicEntry → Mem → Prop}
theorem Dr {jE : Option Addr} {jF jG : Nat} {jH : Option Addr} {jI jJ : Nat} {fV : Int} {jK : Option Addr} {jL jM : Nat} {dh : Int} {di : Int} {dk : Int} {eX : Int} {b2 o2 : Nat} (h :
be M (.cells #[(.slice jE jF jG), (.slice jH jI jJ), (iV fV), (.slice jK jL jM)] 41 (0, 0)) fun k1 M2 =>
be M2 (.cells #[(iV dh), (iV di), (iV dk), (iV eX)] 26 (0, 0)) fun k3 M4 =>
rS M4 k1 0 fun A5 k6 k7 =>
rS M4 k1 1 fun A8 k9 dP =>
rI M4 k1 2 fun fA =>
rS M4 k1 3 fun sE dm gq =>
rI M4 k3 0 fun jY =>
rI M4 k3 1 fun mB =>
rI M4 k3 2 fun iw =>
rI M4 k3 3 fun kL =>
aa Tryz.prog 36 #[(.agg #[(.slice A5 k6 k7), (.slice A8 k9 dP), (iV fA), (.slice sE dm gq)])] M4 (fun QO nU =>
bO (some QO) fun Dg =>
((Mem.fm nU ⟨k3, 0, none⟩ 0 4) = some [(iV jY), (iV mB), (iV iw), (iV kL)]) ∧
be nU (.cells #[(.pointer Dg), (iV jY), (iV mB), (iV iw), (iV kL), (.slice none 0 0), (.slice none 0 0), (.slice none 0 0), (.pointer (some ⟨b2, o2, none⟩)), (iV 0)] 137 (0, 0)) fun gJ lg =>
rI lg k3 0 fun xT =>
∃ Up : Nat → List Value → Mem → Prop, (∃ lT : Nat, Up lT [(iV 0)] lg) ∧
∀ oN : Nat, ∀ Uq : Nat → Value, ∀ xu : Int, ∀ oM : Mem, (Up oN [(iV xu)] oM) → aV (decide ((xu : Int) < xT))
 (∃ J31 : List Value → Mem → Prop, (rI oM k3 2 fun n32 =>
 (rS oM gJ 5 fun KL uw sW =>
 aa Tryz.prog 52 #[(iV n32)] oM (fun v36 Dl =>
 bO (some v36) fun Ur =>
 be Dl (.cells #[(.pointer Ur), (iV 0), (iV (-1))] 141 (0, 0)) fun tX QT =>
 aS Tryz.prog (Go.Builtin.append_ #[132, 132] 132 #[(.slice KL uw sW), (.slice (some ⟨tX, 0, none⟩) 1 1)]) QT (fun XL KR =>
 aD (some XL) fun A43 KM Mi =>
 sT KR gJ 5 (.slice A43 KM Mi) fun xz =>
 J31 [] xz) Kp) Kp) ∧
 (aa Tryz.prog 52 #[(iV n32)] oM (fun v47 ND =>
 bO (some v47) fun Us =>
 rS ND gJ 5 fun Ut Hh jX =>
 be ND (.cells #[(.pointer Us), (iV 0), (iV (-1))] 141 (0, 0)) fun jy EX =>
 aS Tryz.prog (Go.Builtin.append_ #[132, 132] 132 #[(.slice Ut Hh jX), (.slice (some ⟨jy, 0, none⟩) 1 1)]) EX (fun YI G0 =>
 aD (some YI) fun A57 EZ T8 =>
 sT G0 gJ 5 (.slice A57 EZ T8) fun pQ =>
 J31 [] pQ) Kp) Kp) ∧
 True) ∧
 ∀ junk61 : Nat → Value, ∀ mW : Mem, (J31 [] mW) → ∃ P9 : Nat, (P9 < oN) ∧
 Up P9 [(iV (IntKind.wrap .i64 (xu + 1)))] mW)
 (rI oM k3 1 fun n64 =>
 ∃ I65 : Nat → List Value → Mem → Prop, (∃ Gj : Nat, I65 Gj [(iV 0)] oM) ∧
 ∀ xX : Nat, ∀ junk68 : Nat → Value, ∀ S6 : Int, ∀ AI : Mem, (I65 xX [(iV S6)] AI) → aV (decide ((S6 : Int) < n64))
 (rS AI gJ 6 fun KV Jt NU =>
 be AI (.cells #[(iV (-1)), (iV (-1)), (iV 0)] 143 (0, 0)) fun S4 zm =>
 aS Tryz.prog (Go.Builtin.append_ #[133, 133] 133 #[(.slice KV Jt NU), (.slice (some ⟨S4, 0, none⟩) 1 1)]) zm (fun Uu NT =>
 aD (some Uu) fun Uv Gl Ee =>
 sT NT gJ 6 (.slice Uv Gl Ee) fun NV =>
 ∃ Hj : Nat, (Hj < xX) ∧
 I65 Hj [(iV (IntKind.wrap .i64 (S6 + 1)))] NV) Kp)
 (be AI (.cells #[(iV 0)] 3 (0, 0)) fun x5 Ef =>
 aa Tryz.prog 53 #[(.pointer (some ⟨gJ, 7, none⟩)), (.slice (some ⟨x5, 0, none⟩) 1 1)] Ef (fun YY B4 =>
 (YY = (.tuple #[])) ∧
 K (.pointer (some ⟨gJ, 0, none⟩)) B4) Kp))) Kp) :
 aa Tryz.prog 16 ([.agg #[.slice jE jF jG, .slice jH jI jJ, .int .i64 fV, .slice jK jL jM], .agg #[.int .i64 dh, .int .i64 di, .int .i64 dk, .int .i64 eX], .pointer (some ⟨b2, o2, none⟩)] : List Value).toArray M K Kp :=
 az (C := Cx) good [(1, .bT [0, 1, 0, 0, 15, 31, 63] (.step 3 (.step 0 (.dJ 2 (.step 1 (.step 4 (.step 5 (.step 6 .done)))))))), (2000000, .loop [(16, .c (.int .i64))]), (4, .EK [0, 0, 2, 6, 14, 0, 32, 96, 224, 480, 1022, 2047, 4095, 8191] (.step 0 (.step 1 (.step 2 (.step 3 (.step 5 (.step 6 (.fork 4 (.step 7 (.step 8 (.step 9 (.step 10 (.step 11 (.step 12 (.step 13 .done))))))) (.fork 7 (.step 8 (.step 4 (.step 9 (.step 10 (.step 11 (.step 12 (.step 13 .done))))))) .dead)))))))) []), (2000002, .loop [(34, .c (.int .i64))])] Tryz.func16 (by kernel_rfl) (by kernel_rfl) h
theorem lN {b0 o0 : Nat} (h :
aD (Mem.ld M ⟨b0, (o0 + 5), none⟩) fun A1 k2 k3 =>
∃ I4 : Nat → List Value → Mem → Prop, (∃ k5 : Nat, I4 k5 [(.slice none 0 0), (.int .i64 0)] M) ∧
∀ k6 : Nat, ∀ S1 : Nat → Value, ∀ A8 : Option Addr, ∀ k9 : Nat, ∀ dP : Nat, ∀ fA : Int, ∀ ja : Mem, (I4 k6 [(.slice A8 k9 dP), (.int .i64 fA)] ja) → aV (decide ((fA : Int) < ((k2 : Nat) : Int)))
 (((0 : Int) ≤ fA) ∧
 ((fA : Int) < ((k2 : Nat) : Int)) ∧
 aG A1 fun dm gq =>
 bO (Mem.ld ja ⟨dm, (gq + ((Int.toNat fA) * 3)), none⟩) fun qO =>
 aK (Mem.ld ja ⟨dm, ((gq + ((Int.toNat fA) * 3)) + 1), none⟩) .i64 fun mB =>
 aK (Mem.ld ja ⟨dm, ((gq + ((Int.toNat fA) * 3)) + 2), none⟩) .i64 fun iw =>
 be ja (.cells #[(.pointer none), (.int .i64 0), (.int .i64 0)] 141 (0, 0)) fun en iq =>
 aO iq ⟨en, 0, none⟩ (.pointer qO) fun nU =>
 aO nU ⟨en, (0 + 1), none⟩ (.int .i64 mB) fun je =>
 aO je ⟨en, (0 + 2), none⟩ (.int .i64 iw) fun cZ =>
 bO (Mem.ld cZ ⟨en, 0, none⟩) fun P4 =>
 bO (Mem.ld cZ ⟨en, 0, none⟩) fun G4 =>
 aK (Mem.ld cZ ⟨en, (0 + 1), none⟩) .i64 fun mJ =>
 aK (Mem.ld cZ ⟨en, (0 + 2), none⟩) .i64 fun oS =>
 aa Tryz.prog 58 #[(.pointer P4)] cZ (fun NJ y7 =>
 aK (some NJ) .i64 fun xu =>
 ((Mem.ld y7 ⟨en, (0 + 2), none⟩) = (some (.int .i64 oS))) ∧
 ((Mem.ld y7 ⟨en, (0 + 1), none⟩) = (some (.int .i64 mJ))) ∧
 ((Mem.ld y7 ⟨en, 0, none⟩) = (some (.pointer G4))) ∧
 aa Tryz.prog 59 #[(.pointer G4)] y7 (fun v30 Cc =>
 aD (some v30) fun XM jA uw =>
 ((Mem.ld Cc ⟨en, (0 + 2), none⟩) = (some (.int .i64 oS))) ∧
 ((Mem.ld Cc ⟨en, (0 + 1), none⟩) = (some (.int .i64 mJ))) ∧
 ((Mem.ld Cc ⟨en, 0, none⟩) = (some (.pointer G4))) ∧
 be Cc (.cells #[(.int .i64 xu), (.slice XM jA uw), (.int .i64 mJ), (.int .i64 oS)] 53 (0, 0)) fun sW pA =>
 aS Tryz.prog (Go.Builtin.append_ #[50, 50] 50 #[(.slice A8 k9 dP), (.slice (some ⟨sW, 0, none⟩) 1 1)]) pA (fun SX jZ =>
 aD (some SX) fun XF AX NC =>
 ((Mem.ld jZ ⟨en, (0 + 2), none⟩) = (some (.int .i64 oS))) ∧
 ((Mem.ld jZ ⟨en, (0 + 1), none⟩) = (some (.int .i64 mJ))) ∧
 ((Mem.ld jZ ⟨en, 0, none⟩) = (some (.pointer G4))) ∧
 ∃ D9 : Nat, (D9 < k6) ∧
 I4 D9 [(.slice XF AX NC), (.int .i64 (IntKind.wrap .i64 (fA + 1)))] jZ) Kp) Kp) Kp)
 (K (.slice A8 k9 dP) ja)) :
 aa Tryz.prog 19 ([.pointer (some ⟨b0, o0, none⟩)] : List Value).toArray M K Kp :=
 az (C := Cx) good [(2000000, .loop [(3, .c .sl), (11, .c (.int .i64))]), (5, .bT [0, 0, 2, 6, 0, 16, 62, 0, 128, 0, 512, 2046, 4094, 8191, 16383] (.step 0 (.step 1 (.step 4 (.step 7 (.step 9 (.step 2 (.dJ 5 (.dJ 8 (.dJ 10 (.step 3 (.step 6 (.step 11 (.step 12 (.step 13 (.step 14 .done))))))))))))))))] Tryz.func19 (by kernel_rfl) (by kernel_rfl) h
theorem m7 {b0 o0 : Nat} (h :
aD (Mem.ld M ⟨b0, (o0 + 6), none⟩) fun A1 k2 k3 =>
∃ I4 : Nat → List Value → Mem → Prop, (∃ k5 : Nat, I4 k5 [(.slice none 0 0), (.int .i64 0)] M) ∧
∀ k6 : Nat, ∀ S1 : Nat → Value, ∀ A8 : Option Addr, ∀ k9 : Nat, ∀ dP : Nat, ∀ fA : Int, ∀ ja : Mem, (I4 k6 [(.slice A8 k9 dP), (.int .i64 fA)] ja) → aV (decide ((fA : Int) < ((k2 : Nat) : Int)))
 (((0 : Int) ≤ fA) ∧
 ((fA : Int) < ((k2 : Nat) : Int)) ∧
 aG A1 fun dm gq =>
 aK (Mem.ld ja ⟨dm, (gq + ((Int.toNat fA) * 3)), none⟩) .i64 fun jY =>
 aK (Mem.ld ja ⟨dm, ((gq + ((Int.toNat fA) * 3)) + 1), none⟩) .i64 fun mB =>
 aK (Mem.ld ja ⟨dm, ((gq + ((Int.toNat fA) * 3)) + 2), none⟩) .i64 fun iw =>
 be ja (.cells #[(.int .i64 0), (.int .i64 0), (.int .i64 0)] 143 (0, 0)) fun en iq =>
 aO iq ⟨en, 0, none⟩ (.int .i64 jY) fun nU =>
 aO nU ⟨en, (0 + 1), none⟩ (.int .i64 mB) fun je =>
 aO je ⟨en, (0 + 2), none⟩ (.int .i64 iw) fun cZ =>
 aK (Mem.ld cZ ⟨en, 0, none⟩) .i64 fun nX =>
 aK (Mem.ld cZ ⟨en, (0 + 1), none⟩) .i64 fun xT =>
 aK (Mem.ld cZ ⟨en, (0 + 2), none⟩) .i64 fun mJ =>
 be cZ (.cells #[(.int .i64 nX), (.int .i64 xT), (.int .i64 mJ)] 55 (0, 0)) fun lT sD =>
 aS Tryz.prog (Go.Builtin.append_ #[56, 56] 56 #[(.slice A8 k9 dP), (.slice (some ⟨lT, 0, none⟩) 1 1)]) sD (fun NK mA =>
 aD (some NK) fun Gg nW tW =>
 ∃ jA : Nat, (jA < k6) ∧
 I4 jA [(.slice Gg nW tW), (.int .i64 (IntKind.wrap .i64 (fA + 1)))] mA) Kp)
 (K (.slice A8 k9 dP) ja)) :
 aa Tryz.prog 20 ([.pointer (some ⟨b0, o0, none⟩)] : List Value).toArray M K Kp :=
 az (C := Cx) good [(2000000, .loop [(3, .c .sl), (11, .c (.int .i64))])] Tryz.func20 (by kernel_rfl) (by kernel_rfl) h
theorem qg {b0 o0 : Nat} (h :
bO (Mem.ld M ⟨b0, o0, none⟩) fun A1 =>
K (.pointer A1) M) :
 aa Tryz.prog 21 ([.pointer (some ⟨b0, o0, none⟩)] : List Value).toArray M K Kp :=
 az (C := Cx) good [] Tryz.func21 (by kernel_rfl) (by kernel_rfl) h
theorem oZ {b0 o0 : Nat} (h :
bO (Mem.ld M ⟨b0, o0, none⟩) fun A1 =>
aa Tryz.prog 60 #[(.pointer A1)] M (fun v2 M3 =>
∃ n4 : Int, ∃ n5 : Int, (v2 = (.tuple #[(iV n4), (iV n5)])) ∧
aV (n4 == 1)
 (K (iV 1) M3)
 (aV (n4 == 2)
 (K (iV 2) M3)
 (bO (Mem.ld M3 ⟨b0, o0, none⟩) fun A6 =>
 aa Tryz.prog 44 #[(.pointer A6)] M3 (fun v7 M8 =>
 cJ (some v7) fun t9 =>
 aV t9
 (K (iV 3) M8)
 (K (iV 0) M8)) Kp))) Kp) :
 aa Tryz.prog 23 ([.pointer (some ⟨b0, o0, none⟩)] : List Value).toArray M K Kp :=
 az (C := Cx) good [] Tryz.func23 (by kernel_rfl) (by kernel_rfl) h
theorem o5 {b0 o0 : Nat} (h :
aa Tryz.prog 62 #[(.pointer (some ⟨b0, (o0 + 7), none⟩))] M (fun v1 M2 =>
aD (some v1) fun A3 k4 k5 =>
K (.slice A3 k4 k5) M2) Kp) :
 aa Tryz.prog 25 ([.pointer (some ⟨b0, o0, none⟩)] : List Value).toArray M K Kp :=
 az (C := Cx) good [] Tryz.func25 (by kernel_rfl) (by kernel_rfl) h
theorem qh {b0 o0 : Nat} (h :
rI M b0 (o0 + 9) fun n1 =>
K (iV n1) M) :
 aa Tryz.prog 33 ([.pointer (some ⟨b0, o0, none⟩)] : List Value).toArray M K Kp :=
 az (C := Cx) good [] Tryz.func33 (by kernel_rfl) (by kernel_rfl) h
theorem r7 {b0 o0 : Nat} (h :
be M (.cells #[(.int .i64 0), (.int .i64 0), (.int .i64 0), (.slice none 0 0)] 47 (0, 0)) fun k1 M2 =>
aa Tryz.prog 23 #[(.pointer (some ⟨b0, o0, none⟩))] M2 (fun v3 M4 =>
aK (some v3) .i64 fun n5 =>
aV (n5 != 0)
 (aO M4 ⟨k1, 0, none⟩ (.int .i64 0) fun M6 =>
 aO M6 ⟨k1, (0 + 1), none⟩ (.int .i64 0) fun M7 =>
 aO M7 ⟨k1, (0 + 2), none⟩ (.int .i64 0) fun M8 =>
 aO M8 ⟨k1, (0 + 3), none⟩ (.slice none 0 0) fun M9 =>
 aK (Mem.ld M9 ⟨k1, 0, none⟩) .i64 fun j9 =>
 aK (Mem.ld M9 ⟨k1, (0 + 1), none⟩) .i64 fun fA =>
 aK (Mem.ld M9 ⟨k1, (0 + 2), none⟩) .i64 fun jf =>
 aD (Mem.ld M9 ⟨k1, (0 + 3), none⟩) fun Mh gq gj =>
 K (.agg #[(.int .i64 j9), (.int .i64 fA), (.int .i64 jf), (.slice Mh gq gj)]) M9)
 (bO (Mem.ld M4 ⟨b0, (o0 + 8), none⟩) fun SZ =>
 aK (Mem.ld M4 ⟨b0, ((o0 + 1) + 1), none⟩) .i64 fun iw =>
 aa Tryz.prog 98 #[(.pointer SZ), (.int .i64 1), (.int .i64 (IntKind.wrap .i64 (iw + 1)))] M4 (fun EW iq =>
 aK (some EW) .i64 fun fI =>
 be iq (.cells #[(.int .i64 0), (.int .i64 0), (.int .i64 0), (.slice none 0 0)] 47 (0, 0)) fun fC cZ =>
 aK (Mem.ld cZ ⟨b0, ((o0 + 1) + 1), none⟩) .i64 fun nX =>
 aV (fI == nX)
  (aa Tryz.prog 99 #[(.pointer (some ⟨b0, o0, none⟩))] cZ (fun Ui B7 =>
  ∃ oS : Int, ∃ yp : Int, ∃ xn : Int, ∃ SR : Option Addr, ∃ lJ : Nat, ∃ nW : Nat, (Ui = (.agg #[(.int .i64 oS), (.int .i64 yp), (.int .i64 xn), (.slice SR lJ nW)])) ∧
  aO B7 ⟨fC, 0, none⟩ (.int .i64 oS) fun mX =>
  aO mX ⟨fC, (0 + 1), none⟩ (.int .i64 yp) fun uz =>
  aO uz ⟨fC, (0 + 2), none⟩ (.int .i64 xn) fun mI =>
  aO mI ⟨fC, (0 + 3), none⟩ (.slice SR lJ nW) fun qP =>
  aK (Mem.ld qP ⟨b0, (o0 + 9), none⟩) .i64 fun yq =>
  aO qP ⟨b0, (o0 + 9), none⟩ (.int .i64 (IntKind.wrap .i64 (yq + 1))) fun Dl =>
  aK (Mem.ld Dl ⟨fC, 0, none⟩) .i64 fun KJ =>
  aK (Mem.ld Dl ⟨fC, (0 + 1), none⟩) .i64 fun Ji =>
  aK (Mem.ld Dl ⟨fC, (0 + 2), none⟩) .i64 fun P8 =>
  aD (Mem.ld Dl ⟨fC, (0 + 3), none⟩) fun KS D9 lU =>
  aO Dl ⟨k1, 0, none⟩ (.int .i64 KJ) fun xy =>
  aO xy ⟨k1, (0 + 1), none⟩ (.int .i64 Ji) fun lW =>
  aO lW ⟨k1, (0 + 2), none⟩ (.int .i64 P8) fun xz =>
  aO xz ⟨k1, (0 + 3), none⟩ (.slice KS D9 lU) fun qR =>
  aK (Mem.ld qR ⟨k1, 0, none⟩) .i64 fun xV =>
  aK (Mem.ld qR ⟨k1, (0 + 1), none⟩) .i64 fun Ds =>
  aK (Mem.ld qR ⟨k1, (0 + 2), none⟩) .i64 fun Ca =>
  aD (Mem.ld qR ⟨k1, (0 + 3), none⟩) fun P5 jX jy =>
  K (.agg #[(.int .i64 xV), (.int .i64 Ds), (.int .i64 Ca), (.slice P5 jX jy)]) qR) Kp)
  (aD (Mem.ld cZ ⟨b0, (o0 + 6), none⟩) fun A54 AM Mq =>
  ((0 : Int) ≤ fI) ∧
  ((fI : Int) < ((AM : Nat) : Int)) ∧
  aG A54 fun sG EZ =>
  aK (Mem.ld cZ ⟨sG, (EZ + ((Int.toNat fI) * 3)), none⟩) .i64 fun Dd =>
  aV (Dd == (-1))
   (aa Tryz.prog 100 #[(.pointer (some ⟨b0, o0, none⟩)), (.int .i64 fI)] cZ (fun v60 ym =>
   ∃ Mo : Int, ∃ xQ : Int, ∃ n64 : Int, ∃ Q2 : Option Addr, ∃ Gj : Nat, ∃ xX : Nat, (v60 = (.agg #[(.int .i64 Mo), (.int .i64 xQ), (.int .i64 n64), (.slice Q2 Gj xX)])) ∧
   aO ym ⟨fC, 0, none⟩ (.int .i64 Mo) fun NF =>
   aO NF ⟨fC, (0 + 1), none⟩ (.int .i64 xQ) fun YJ =>
   aO YJ ⟨fC, (0 + 2), none⟩ (.int .i64 n64) fun AI =>
   aO AI ⟨fC, (0 + 3), none⟩ (.slice Q2 Gj xX) fun Eb =>
   aK (Mem.ld Eb ⟨b0, (o0 + 9), none⟩) .i64 fun YT =>
   aO Eb ⟨b0, (o0 + 9), none⟩ (.int .i64 (IntKind.wrap .i64 (YT + 1))) fun zn =>
   aK (Mem.ld zn ⟨fC, 0, none⟩) .i64 fun Ju =>
   aK (Mem.ld zn ⟨fC, (0 + 1), none⟩) .i64 fun NG =>
   aK (Mem.ld zn ⟨fC, (0 + 2), none⟩) .i64 fun NH =>
   aD (Mem.ld zn ⟨fC, (0 + 3), none⟩) fun A77 KU Gl =>
   aO zn ⟨k1, 0, none⟩ (.int .i64 Ju) fun yw =>
   aO yw ⟨k1, (0 + 1), none⟩ (.int .i64 NG) fun NV =>
   aO NV ⟨k1, (0 + 2), none⟩ (.int .i64 NH) fun zo =>
   aO zo ⟨k1, (0 + 3), none⟩ (.slice A77 KU Gl) fun Gi =>
   aK (Mem.ld Gi ⟨k1, 0, none⟩) .i64 fun KO =>
   aK (Mem.ld Gi ⟨k1, (0 + 1), none⟩) .i64 fun Bh =>
   aK (Mem.ld Gi ⟨k1, (0 + 2), none⟩) .i64 fun n86 =>
   aD (Mem.ld Gi ⟨k1, (0 + 3), none⟩) fun A87 Dp k89 =>
   K (.agg #[(.int .i64 KO), (.int .i64 Bh), (.int .i64 n86), (.slice A87 Dp k89)]) Gi) Kp)
   (aD (Mem.ld cZ ⟨b0, (o0 + 6), none⟩) fun S7 NW vw =>
   ((0 : Int) ≤ fI) ∧
   ((fI : Int) < ((NW : Nat) : Int)) ∧
   aG S7 fun NX QW =>
   aK (Mem.ld cZ ⟨NX, ((QW + ((Int.toNat fI) * 3)) + 1), none⟩) .i64 fun B5 =>
   aV (B5 == (-1))
    (aa Tryz.prog 101 #[(.pointer (some ⟨b0, o0, none⟩)), (.int .i64 fI)] cZ (fun v96 Mt =>
    ∃ XG : Int, ∃ KW : Int, ∃ ux : Int, ∃ YZ : Option Addr, ∃ Hl : Nat, ∃ jo : Nat, (v96 = (.agg #[(.int .i64 XG), (.int .i64 KW), (.int .i64 ux), (.slice YZ Hl jo)])) ∧
    aO Mt ⟨fC, 0, none⟩ (.int .i64 XG) fun G2 =>
    aO G2 ⟨fC, (0 + 1), none⟩ (.int .i64 KW) fun mY =>
    aO mY ⟨fC, (0 + 2), none⟩ (.int .i64 ux) fun y9 =>
    aO y9 ⟨fC, (0 + 3), none⟩ (.slice YZ Hl jo) fun za =>
    aK (Mem.ld za ⟨b0, (o0 + 9), none⟩) .i64 fun zp =>
    aO za ⟨b0, (o0 + 9), none⟩ (.int .i64 (IntKind.wrap .i64 (zp + 1))) fun nV =>
    aK (Mem.ld nV ⟨fC, 0, none⟩) .i64 fun E1 =>
    aK (Mem.ld nV ⟨fC, (0 + 1), none⟩) .i64 fun KX =>
    aK (Mem.ld nV ⟨fC, (0 + 2), none⟩) .i64 fun uy =>
    aD (Mem.ld nV ⟨fC, (0 + 3), none⟩) fun A113 Uw k115 =>
    aO nV ⟨k1, 0, none⟩ (.int .i64 E1) fun mC =>
    aO mC ⟨k1, (0 + 1), none⟩ (.int .i64 KX) fun wj =>
    aO wj ⟨k1, (0 + 2), none⟩ (.int .i64 uy) fun mD =>
    aO mD ⟨k1, (0 + 3), none⟩ (.slice A113 Uw k115) fun x6 =>
    aK (Mem.ld x6 ⟨k1, 0, none⟩) .i64 fun zq =>
    aK (Mem.ld x6 ⟨k1, (0 + 1), none⟩) .i64 fun zu =>
    aK (Mem.ld x6 ⟨k1, (0 + 2), none⟩) .i64 fun NY =>
    aD (Mem.ld x6 ⟨k1, (0 + 3), none⟩) fun A123 Fb NZ =>
    K (.agg #[(.int .i64 zq), (.int .i64 zu), (.int .i64 NY), (.slice A123 Fb NZ)]) x6) Kp)
    (aa Tryz.prog 102 #[(.pointer (some ⟨b0, o0, none⟩)), (.int .i64 fI)] cZ (fun Ux KY =>
    ∃ x7 : Int, ∃ Y0 : Int, ∃ x8 : Int, ∃ x9 : Option Addr, ∃ wk : Nat, ∃ zw : Nat, (Ux = (.agg #[(.int .i64 x7), (.int .i64 Y0), (.int .i64 x8), (.slice x9 wk zw)])) ∧
    aO KY ⟨fC, 0, none⟩ (.int .i64 x7) fun N0 =>
    aO N0 ⟨fC, (0 + 1), none⟩ (.int .i64 Y0) fun M135 =>
    aO M135 ⟨fC, (0 + 2), none⟩ (.int .i64 x8) fun M136 =>
    aO M136 ⟨fC, (0 + 3), none⟩ (.slice x9 wk zw) fun KZ =>
    aK (Mem.ld KZ ⟨b0, (o0 + 9), none⟩) .i64 fun n138 =>
    aO KZ ⟨b0, (o0 + 9), none⟩ (.int .i64 (IntKind.wrap .i64 (n138 + 1))) fun zx =>
    aK (Mem.ld zx ⟨fC, 0, none⟩) .i64 fun n140 =>
    aK (Mem.ld zx ⟨fC, (0 + 1), none⟩) .i64 fun n141 =>
    aK (Mem.ld zx ⟨fC, (0 + 2), none⟩) .i64 fun Uy =>
    aD (Mem.ld zx ⟨fC, (0 + 3), none⟩) fun A143 k144 k145 =>
    aO zx ⟨k1, 0, none⟩ (.int .i64 n140) fun M146 =>
    aO M146 ⟨k1, (0 + 1), none⟩ (.int .i64 n141) fun Fc =>
    aO Fc ⟨k1, (0 + 2), none⟩ (.int .i64 Uy) fun Uz =>
    aO Uz ⟨k1, (0 + 3), none⟩ (.slice A143 k144 k145) fun wm =>
    aK (Mem.ld wm ⟨k1, 0, none⟩) .i64 fun zy =>
    aK (Mem.ld wm ⟨k1, (0 + 1), none⟩) .i64 fun N1 =>
    aK (Mem.ld wm ⟨k1, (0 + 2), none⟩) .i64 fun UA =>
    aD (Mem.ld wm ⟨k1, (0 + 3), none⟩) fun A153 N2 uO =>
    K (.agg #[(.int .i64 zy), (.int .i64 N1), (.int .i64 UA), (.slice A153 N2 uO)]) wm) Kp)))) Kp)) Kp) :
 aa Tryz.prog 50 ([.pointer (some ⟨b0, o0, none⟩)] : List Value).toArray M K Kp :=
 az (C := Cx) good [(3, .bT [0, 1, 3, 7, 0, 16, 48, 112, 240, 496, 1023, 2047] (.step 0 (.step 1 (.step 2 (.step 4 (.step 5 (.step 6 (.step 7 (.step 3 (.step 8 (.step 9 (.step 10 (.step 11 .done)))))))))))))] Tryz.func50 (by kernel_rfl) (by kernel_rfl) h
theorem r8 {b0 o0 : Nat} (h :
be M (.cells #[(iV 0), (iV 0), (iV 0), (.slice none 0 0)] 47 (0, 0)) fun k1 M2 =>
bO (Mem.ld M2 ⟨b0, o0, none⟩) fun A3 =>
aa Tryz.prog 43 #[(.pointer A3)] M2 (fun v4 M5 =>
aD (some v4) fun A6 k7 k8 =>
aa Tryz.prog 53 #[(.pointer (some ⟨b0, (o0 + 7), none⟩)), (.slice A6 k7 k8)] M5 (fun v9 gV =>
(v9 = (.tuple #[])) ∧
sT gV k1 0 (iV 1) fun hH =>
sT hH k1 1 (iV (-1)) fun ja =>
sT ja k1 2 (iV (-1)) fun j7 =>
sT j7 k1 3 (.slice A6 k7 k8) fun iC =>
rI iC k1 0 fun jY =>
rI iC k1 1 fun mB =>
rI iC k1 2 fun iw =>
rS iC k1 3 fun Js jd iA =>
K (.agg #[(iV jY), (iV mB), (iV iw), (.slice Js jd iA)]) iC) Kp) Kp) :
 aa Tryz.prog 99 ([.pointer (some ⟨b0, o0, none⟩)] : List Value).toArray M K Kp :=
 az (C := Cx) good [] Tryz.func99 (by kernel_rfl) (by kernel_rfl) h
theorem r9 {b0 o0 : Nat} {x1 : Int} (h :
be M (.cells #[(iV 0), (iV 0), (iV 0), (.slice none 0 0)] 47 (0, 0)) fun k1 M2 =>
rS M2 b0 (o0 + 5) fun A3 k4 k5 =>
∃ I6 : Nat → List Value → Mem → Prop, (∃ k7 : Nat, I6 k7 [(iV 0)] M2) ∧
∀ k8 : Nat, ∀ junk9 : Nat → Value, ∀ j9 : Int, ∀ hH : Mem, (I6 k8 [(iV j9)] hH) → aV (decide ((j9 : Int) < ((k4 : Nat) : Int)))
 (rS hH b0 (o0 + 5) fun sE dm gq =>
 ((0 : Int) ≤ j9) ∧
 ((j9 : Int) < ((dm : Nat) : Int)) ∧
 aG sE fun gj dO =>
 rI hH gj ((dO + ((Int.toNat j9) * 3)) + 2) fun iw =>
 aV (iw == (-1))
 (rS hH b0 (o0 + 5) fun Js jd iA =>
 rS hH b0 (o0 + 6) fun Dg gJ iY =>
 ((0 : Int) ≤ j9) ∧
 ((j9 : Int) < ((jd : Nat) : Int)) ∧
 aG Js fun ri sU =>
 sT hH ri ((sU + ((Int.toNat j9) * 3)) + 2) (iV x1) fun xl =>
 ((0 : Int) ≤ x1) ∧
 ((x1 : Int) < ((gJ : Nat) : Int)) ∧
 aG Dg fun oN lK =>
 sT xl oN (lK + ((Int.toNat x1) * 3)) (iV j9) fun mA =>
 sT mA k1 0 (iV 2) fun oM =>
 sT oM k1 1 (iV x1) fun Cc =>
 sT Cc k1 2 (iV (-1)) fun mX =>
 sT mX k1 3 (.slice none 0 0) fun uz =>
 rI uz k1 0 fun QM =>
 rI uz k1 1 fun Mm =>
 rI uz k1 2 fun yq =>
 rS uz k1 3 fun Mp gZ tX =>
 K (.agg #[(iV QM), (iV Mm), (iV yq), (.slice Mp gZ tX)]) uz)
 (∃ AX : Nat, (AX < k8) ∧
 I6 AX [(iV (IntKind.wrap .i64 (j9 + 1)))] hH))
 (sT hH k1 0 (iV 3) fun Bf =>
 sT Bf k1 1 (iV x1) fun KR =>
 sT KR k1 2 (iV (-1)) fun vZ =>
 sT vZ k1 3 (.slice none 0 0) fun xy =>
 rI xy k1 0 fun xU =>
 rI xy k1 1 fun E7 =>
 rI xy k1 2 fun BZ =>
 rS xy k1 3 fun Q1 Mn y8 =>
 K (.agg #[(iV xU), (iV E7), (iV BZ), (.slice Q1 Mn y8)]) xy)) :
 aa Tryz.prog 100 ([.pointer (some ⟨b0, o0, none⟩), .int .i64 x1] : List Value).toArray M K Kp :=
 az (C := Cx) good [(2000000, .loop [(11, .c (.int .i64))]), (5, .bT [0, 1, 3, 7, 0, 0, 32, 96, 224, 0, 0, 0, 1535, 5631, 13823, 32767, 65535, 131071] (.step 0 (.step 1 (.step 2 (.step 4 (.step 5 (.step 6 (.step 7 (.step 9 (.step 10 (.step 11 (.step 3 (.step 8 (.step 12 (.step 13 (.step 14 (.step 15 (.step 16 (.step 17 .done)))))))))))))))))))] Tryz.func100 (by kernel_rfl) (by kernel_rfl) h
theorem sg {b0 o0 : Nat} {x1 : Int} (h :
be M (.cells #[(.int .i64 0), (.int .i64 0), (.int .i64 0), (.slice none 0 0)] 47 (0, 0)) fun k1 M2 =>
aD (Mem.ld M2 ⟨b0, (o0 + 5), none⟩) fun A3 k4 k5 =>
aD (Mem.ld M2 ⟨b0, (o0 + 6), none⟩) fun A6 k7 k8 =>
((0 : Int) ≤ x1) ∧
((x1 : Int) < ((k7 : Nat) : Int)) ∧
aG A6 fun k9 dP =>
aK (Mem.ld M2 ⟨k9, (dP + ((Int.toNat x1) * 3)), none⟩) .i64 fun fA =>
((0 : Int) ≤ fA) ∧
((fA : Int) < ((k4 : Nat) : Int)) ∧
aG A3 fun fU dm =>
aD (Mem.ld M2 ⟨b0, (o0 + 6), none⟩) fun oF gj dO =>
((0 : Int) ≤ x1) ∧
((x1 : Int) < ((gj : Nat) : Int)) ∧
aG oF fun eT en =>
aK (Mem.ld M2 ⟨eT, ((en + ((Int.toNat x1) * 3)) + 2), none⟩) .i64 fun xo =>
aV (decide ((xo : Int) > 0))
 (bO (Mem.ld M2 ⟨fU, (dm + ((Int.toNat fA) * 3)), none⟩) fun A20 =>
 aa Tryz.prog 58 #[(.pointer A20)] M2 (fun YV cZ =>
 aK (some YV) .i64 fun nX =>
 ∃ J24 : List Value → Mem → Prop, (aV (nX != (-1))
  (bO (Mem.ld cZ ⟨fU, (dm + ((Int.toNat fA) * 3)), none⟩) fun KK =>
   aD (Mem.ld cZ ⟨b0, (o0 + 6), none⟩) fun Gk oN lK =>
   aa Tryz.prog 131 #[(.pointer KK)] cZ (fun v29 oM =>
   ∃ tV : Int, ∃ t32 : Bool, (v29 = (.tuple #[(.int .i64 tV), (.bool t32)])) ∧
   ((Mem.ld oM ⟨b0, (o0 + 6), none⟩) = (some (.slice Gk oN lK))) ∧
   ((0 : Int) ≤ x1) ∧
   ((x1 : Int) < ((oN : Nat) : Int)) ∧
   aG Gk fun jA uw =>
   aO oM ⟨jA, ((uw + ((Int.toNat x1) * 3)) + 1), none⟩ (.int .i64 tV) fun qP =>
   ((Mem.ld qP ⟨b0, (o0 + 6), none⟩) = (some (.slice Gk oN lK))) ∧
   aD (Mem.ld qP ⟨b0, (o0 + 6), none⟩) fun S0 yu gZ =>
   ((0 : Int) ≤ x1) ∧
   ((x1 : Int) < ((yu : Nat) : Int)) ∧
   aG S0 fun tX AX =>
   aK (Mem.ld qP ⟨tX, ((AX + ((Int.toNat x1) * 3)) + 1), none⟩) .i64 fun S9 =>
   aO qP ⟨k1, 0, none⟩ (.int .i64 4) fun KR =>
   aO KR ⟨k1, (0 + 1), none⟩ (.int .i64 x1) fun vZ =>
   aO vZ ⟨k1, (0 + 2), none⟩ (.int .i64 S9) fun xy =>
   aO xy ⟨k1, (0 + 3), none⟩ (.slice none 0 0) fun lW =>
   aK (Mem.ld lW ⟨k1, 0, none⟩) .i64 fun E7 =>
   aK (Mem.ld lW ⟨k1, (0 + 1), none⟩) .i64 fun BZ =>
   aK (Mem.ld lW ⟨k1, (0 + 2), none⟩) .i64 fun xV =>
   aD (Mem.ld lW ⟨k1, (0 + 3), none⟩) fun Us y8 Hh =>
   K (.agg #[(.int .i64 E7), (.int .i64 BZ), (.int .i64 xV), (.slice Us y8 Hh)]) lW) Kp)
  (J24 [] cZ)) ∧
 ∀ junk52 : Nat → Value, ∀ E9 : Mem, (J24 [] E9) → aa Tryz.prog 132 #[(.pointer (some ⟨b0, o0, none⟩)), (.pointer (some ⟨fU, (dm + ((Int.toNat fA) * 3)), none⟩))] E9 (fun N3 oD =>
 ∃ Eg : Int, ∃ t57 : Bool, (N3 = (.tuple #[(.int .i64 Eg), (.bool t57)])) ∧
 aV (!t57)
  (aK (Mem.ld oD ⟨b0, (o0 + 1), none⟩) .i64 fun EY =>
  ∃ UB : List Value → Mem → Prop, (aV (decide ((EY : Int) > 1))
   (bO (Mem.ld oD ⟨b0, (o0 + 8), none⟩) fun A60 =>
    aK (Mem.ld oD ⟨b0, (o0 + 1), none⟩) .i64 fun KN =>
    aa Tryz.prog 98 #[(.pointer A60), (.int .i64 2), (.int .i64 KN)] oD (fun Ug xm =>
    aK (some Ug) .i64 fun n64 =>
    bO (Mem.ld xm ⟨fU, (dm + ((Int.toNat fA) * 3)), none⟩) fun Q2 =>
    aD (Mem.ld xm ⟨b0, (o0 + 5), none⟩) fun N4 xX Gm =>
    ((0 : Int) ≤ n64) ∧
    ((n64 : Int) < ((xX : Nat) : Int)) ∧
    aG N4 fun K0 zk =>
    bO (Mem.ld xm ⟨K0, (zk + ((Int.toNat n64) * 3)), none⟩) fun KV =>
    aa Tryz.prog 133 #[(.pointer Q2), (.pointer KV)] xm (fun Y1 zn =>
    ∃ Ju : Int, ∃ t75 : Bool, (Y1 = (.tuple #[(.int .i64 Ju), (.bool t75)])) ∧
    UB [(.int .i64 5), (.int .i64 Ju), (.bool t75)] zn) Kp) Kp)
   (UB [(.int .i64 4), (.int .i64 Eg), (.bool t57)] oD)) ∧
  ∀ UC : Nat → Value, ∀ E0 : Int, ∀ Hq : Int, ∀ t79 : Bool, ∀ yw : Mem, (UB [(.int .i64 E0), (.int .i64 Hq), (.bool t79)] yw) → aV (!t79)
   (aD (Mem.ld yw ⟨b0, (o0 + 6), none⟩) fun Ul Hj x5 =>
   aO yw ⟨fU, ((dm + ((Int.toNat fA) * 3)) + 2), none⟩ (.int .i64 (-1)) fun Ef =>
   ((0 : Int) ≤ x1) ∧
   ((x1 : Int) < ((Hj : Nat) : Int)) ∧
   aG Ul fun Jv Jw =>
   aO Ef ⟨Jv, (Jw + ((Int.toNat x1) * 3)), none⟩ (.int .i64 (-1)) fun AJ =>
   aO AJ ⟨Jv, ((Jw + ((Int.toNat x1) * 3)) + 1), none⟩ (.int .i64 (-1)) fun T9 =>
   aO T9 ⟨Jv, ((Jw + ((Int.toNat x1) * 3)) + 2), none⟩ (.int .i64 0) fun Df =>
   aO Df ⟨k1, 0, none⟩ (.int .i64 6) fun Ua =>
   aO Ua ⟨k1, (0 + 1), none⟩ (.int .i64 x1) fun j0 =>
   aO j0 ⟨k1, (0 + 2), none⟩ (.int .i64 (-1)) fun UD =>
   aO UD ⟨k1, (0 + 3), none⟩ (.slice none 0 0) fun zz =>
   aK (Mem.ld zz ⟨k1, 0, none⟩) .i64 fun Gf =>
   aK (Mem.ld zz ⟨k1, (0 + 1), none⟩) .i64 fun B5 =>
   aK (Mem.ld zz ⟨k1, (0 + 2), none⟩) .i64 fun B6 =>
   aD (Mem.ld zz ⟨k1, (0 + 3), none⟩) fun Y3 UE XN =>
   K (.agg #[(.int .i64 Gf), (.int .i64 B5), (.int .i64 B6), (.slice Y3 UE XN)]) zz)
   (aK (Mem.ld yw ⟨fU, ((dm + ((Int.toNat fA) * 3)) + 1), none⟩) .i64 fun ux =>
   aO yw ⟨fU, ((dm + ((Int.toNat fA) * 3)) + 1), none⟩ (.int .i64 (IntKind.wrap .i64 (ux + 1))) fun gO =>
   aD (Mem.ld gO ⟨b0, (o0 + 6), none⟩) fun uP jo wq =>
   aD (Mem.ld gO ⟨b0, (o0 + 6), none⟩) fun Dt xY Du =>
   aK (Mem.ld gO ⟨b0, ((o0 + 1) + 3), none⟩) .i64 fun zp =>
   ((0 : Int) ≤ x1) ∧
   ((x1 : Int) < ((jo : Nat) : Int)) ∧
   aG uP fun Bi K2 =>
   aO gO ⟨Bi, ((K2 + ((Int.toNat x1) * 3)) + 1), none⟩ (.int .i64 Hq) fun od =>
   ((0 : Int) ≤ x1) ∧
   ((x1 : Int) < ((xY : Nat) : Int)) ∧
   aG Dt fun Hr Dv =>
   aO od ⟨Hr, ((Dv + ((Int.toNat x1) * 3)) + 2), none⟩ (.int .i64 zp) fun tC =>
   aO tC ⟨k1, 0, none⟩ (.int .i64 E0) fun Hs =>
   aO Hs ⟨k1, (0 + 1), none⟩ (.int .i64 x1) fun mC =>
   aO mC ⟨k1, (0 + 2), none⟩ (.int .i64 Hq) fun wj =>
   aO wj ⟨k1, (0 + 3), none⟩ (.slice none 0 0) fun mD =>
   aK (Mem.ld mD ⟨k1, 0, none⟩) .i64 fun Bj =>
   aK (Mem.ld mD ⟨k1, (0 + 1), none⟩) .i64 fun zq =>
   aK (Mem.ld mD ⟨k1, (0 + 2), none⟩) .i64 fun zu =>
   aD (Mem.ld mD ⟨k1, (0 + 3), none⟩) fun Dw Dx Fb =>
   K (.agg #[(.int .i64 Bj), (.int .i64 zq), (.int .i64 zu), (.slice Dw Dx Fb)]) mD))
  (∃ N5 : List Value → Mem → Prop, (N5 [(.int .i64 4), (.int .i64 Eg), (.bool t57)] oD) ∧
  ∀ Q3 : Nat → Value, ∀ zA : Int, ∀ x7 : Int, ∀ t129 : Bool, ∀ lq : Mem, (N5 [(.int .i64 zA), (.int .i64 x7), (.bool t129)] lq) → aV (!t129)
   (aD (Mem.ld lq ⟨b0, (o0 + 6), none⟩) fun x9 wk zw =>
   aO lq ⟨fU, ((dm + ((Int.toNat fA) * 3)) + 2), none⟩ (.int .i64 (-1)) fun N0 =>
   ((0 : Int) ≤ x1) ∧
   ((x1 : Int) < ((wk : Nat) : Int)) ∧
   aG x9 fun Bk o6 =>
   aO N0 ⟨Bk, (o6 + ((Int.toNat x1) * 3)), none⟩ (.int .i64 (-1)) fun KZ =>
   aO KZ ⟨Bk, ((o6 + ((Int.toNat x1) * 3)) + 1), none⟩ (.int .i64 (-1)) fun N6 =>
   aO N6 ⟨Bk, ((o6 + ((Int.toNat x1) * 3)) + 2), none⟩ (.int .i64 0) fun zx =>
   aO zx ⟨k1, 0, none⟩ (.int .i64 6) fun Dy =>
   aO Dy ⟨k1, (0 + 1), none⟩ (.int .i64 x1) fun zB =>
   aO zB ⟨k1, (0 + 2), none⟩ (.int .i64 (-1)) fun Bl =>
   aO Bl ⟨k1, (0 + 3), none⟩ (.slice none 0 0) fun wu =>
   aK (Mem.ld wu ⟨k1, 0, none⟩) .i64 fun N7 =>
   aK (Mem.ld wu ⟨k1, (0 + 1), none⟩) .i64 fun N8 =>
   aK (Mem.ld wu ⟨k1, (0 + 2), none⟩) .i64 fun Fe =>
   aD (Mem.ld wu ⟨k1, (0 + 3), none⟩) fun UF N9 UG =>
   K (.agg #[(.int .i64 N7), (.int .i64 N8), (.int .i64 Fe), (.slice UF N9 UG)]) wu)
   (aK (Mem.ld lq ⟨fU, ((dm + ((Int.toNat fA) * 3)) + 1), none⟩) .i64 fun zy =>
   aO lq ⟨fU, ((dm + ((Int.toNat fA) * 3)) + 1), none⟩ (.int .i64 (IntKind.wrap .i64 (zy + 1))) fun zC =>
   aD (Mem.ld zC ⟨b0, (o0 + 6), none⟩) fun Oa Ff N2 =>
   aD (Mem.ld zC ⟨b0, (o0 + 6), none⟩) fun UH K3 UI =>
   aK (Mem.ld zC ⟨b0, ((o0 + 1) + 3), none⟩) .i64 fun UJ =>
   ((0 : Int) ≤ x1) ∧
   ((x1 : Int) < ((Ff : Nat) : Int)) ∧
   aG Oa fun UK UL =>
   aO zC ⟨UK, ((UL + ((Int.toNat x1) * 3)) + 1), none⟩ (.int .i64 x7) fun wv =>
   ((0 : Int) ≤ x1) ∧
   ((x1 : Int) < ((K3 : Nat) : Int)) ∧
   aG UH fun Ob Oc =>
   aO wv ⟨Ob, ((Oc + ((Int.toNat x1) * 3)) + 2), none⟩ (.int .i64 UJ) fun Od =>
   aO Od ⟨k1, 0, none⟩ (.int .i64 zA) fun Oe =>
   aO Oe ⟨k1, (0 + 1), none⟩ (.int .i64 x1) fun Of =>
   aO Of ⟨k1, (0 + 2), none⟩ (.int .i64 x7) fun Dz =>
   aO Dz ⟨k1, (0 + 3), none⟩ (.slice none 0 0) fun zD =>
   aK (Mem.ld zD ⟨k1, 0, none⟩) .i64 fun Og =>
   aK (Mem.ld zD ⟨k1, (0 + 1), none⟩) .i64 fun Oh =>
   aK (Mem.ld zD ⟨k1, (0 + 2), none⟩) .i64 fun Oi =>
   aD (Mem.ld zD ⟨k1, (0 + 3), none⟩) fun UM K4 UN =>
   K (.agg #[(.int .i64 Og), (.int .i64 Oh), (.int .i64 Oi), (.slice UM K4 UN)]) zD))) Kp) Kp)
 (∃ Y4 : List Value → Mem → Prop, (Y4 [] M2) ∧
 ∀ junk176 : Nat → Value, ∀ Y5 : Mem, (Y4 [] Y5) → aa Tryz.prog 132 #[(.pointer (some ⟨b0, o0, none⟩)), (.pointer (some ⟨fU, (dm + ((Int.toNat fA) * 3)), none⟩))] Y5 (fun v178 Fg =>
 ∃ Oj : Int, ∃ t181 : Bool, (v178 = (.tuple #[(.int .i64 Oj), (.bool t181)])) ∧
 aV (!t181)
  (aK (Mem.ld Fg ⟨b0, (o0 + 1), none⟩) .i64 fun n182 =>
  ∃ UO : List Value → Mem → Prop, (aV (decide ((n182 : Int) > 1))
   (bO (Mem.ld Fg ⟨b0, (o0 + 8), none⟩) fun A184 =>
    aK (Mem.ld Fg ⟨b0, (o0 + 1), none⟩) .i64 fun Ol =>
    aa Tryz.prog 98 #[(.pointer A184), (.int .i64 2), (.int .i64 Ol)] Fg (fun UP K5 =>
    aK (some UP) .i64 fun Ht =>
    bO (Mem.ld K5 ⟨fU, (dm + ((Int.toNat fA) * 3)), none⟩) fun A189 =>
    aD (Mem.ld K5 ⟨b0, (o0 + 5), none⟩) fun A190 k191 DA =>
    ((0 : Int) ≤ Ht) ∧
    ((Ht : Int) < ((k191 : Nat) : Int)) ∧
    aG A190 fun k193 UQ =>
    bO (Mem.ld K5 ⟨k193, (UQ + ((Int.toNat Ht) * 3)), none⟩) fun A195 =>
    aa Tryz.prog 133 #[(.pointer A189), (.pointer A195)] K5 (fun UR uQ =>
    ∃ K6 : Int, ∃ t199 : Bool, (UR = (.tuple #[(.int .i64 K6), (.bool t199)])) ∧
    UO [(.int .i64 5), (.int .i64 K6), (.bool t199)] uQ) Kp) Kp)
   (UO [(.int .i64 4), (.int .i64 Oj), (.bool t181)] Fg)) ∧
  ∀ junk200 : Nat → Value, ∀ K7 : Int, ∀ Om : Int, ∀ t203 : Bool, ∀ Hu : Mem, (UO [(.int .i64 K7), (.int .i64 Om), (.bool t203)] Hu) → aV (!t203)
   (aD (Mem.ld Hu ⟨b0, (o0 + 6), none⟩) fun US UT Y6 =>
   aO Hu ⟨fU, ((dm + ((Int.toNat fA) * 3)) + 2), none⟩ (.int .i64 (-1)) fun M208 =>
   ((0 : Int) ≤ x1) ∧
   ((x1 : Int) < ((UT : Nat) : Int)) ∧
   aG US fun UU UW =>
   aO M208 ⟨UU, (UW + ((Int.toNat x1) * 3)), none⟩ (.int .i64 (-1)) fun M211 =>
   aO M211 ⟨UU, ((UW + ((Int.toNat x1) * 3)) + 1), none⟩ (.int .i64 (-1)) fun DB =>
   aO DB ⟨UU, ((UW + ((Int.toNat x1) * 3)) + 2), none⟩ (.int .i64 0) fun UX =>
   aO UX ⟨k1, 0, none⟩ (.int .i64 6) fun M214 =>
   aO M214 ⟨k1, (0 + 1), none⟩ (.int .i64 x1) fun UY =>
   aO UY ⟨k1, (0 + 2), none⟩ (.int .i64 (-1)) fun M216 =>
   aO M216 ⟨k1, (0 + 3), none⟩ (.slice none 0 0) fun Hv =>
   aK (Mem.ld Hv ⟨k1, 0, none⟩) .i64 fun n218 =>
   aK (Mem.ld Hv ⟨k1, (0 + 1), none⟩) .i64 fun n219 =>
   aK (Mem.ld Hv ⟨k1, (0 + 2), none⟩) .i64 fun n220 =>
   aD (Mem.ld Hv ⟨k1, (0 + 3), none⟩) fun UZ k222 U0 =>
   K (.agg #[(.int .i64 n218), (.int .i64 n219), (.int .i64 n220), (.slice UZ k222 U0)]) Hv)
   (aK (Mem.ld Hu ⟨fU, ((dm + ((Int.toNat fA) * 3)) + 1), none⟩) .i64 fun U1 =>
   aO Hu ⟨fU, ((dm + ((Int.toNat fA) * 3)) + 1), none⟩ (.int .i64 (IntKind.wrap .i64 (U1 + 1))) fun Q4 =>
   aD (Mem.ld Q4 ⟨b0, (o0 + 6), none⟩) fun U2 U3 k228 =>
   aD (Mem.ld Q4 ⟨b0, (o0 + 6), none⟩) fun A229 U4 k231 =>
   aK (Mem.ld Q4 ⟨b0, ((o0 + 1) + 3), none⟩) .i64 fun n232 =>
   ((0 : Int) ≤ x1) ∧
   ((x1 : Int) < ((U3 : Nat) : Int)) ∧
   aG U2 fun k233 U5 =>
   aO Q4 ⟨k233, ((U5 + ((Int.toNat x1) * 3)) + 1), none⟩ (.int .i64 Om) fun M235 =>
   ((0 : Int) ≤ x1) ∧
   ((x1 : Int) < ((U4 : Nat) : Int)) ∧
   aG A229 fun k236 U6 =>
   aO M235 ⟨k236, ((U6 + ((Int.toNat x1) * 3)) + 2), none⟩ (.int .i64 n232) fun U7 =>
   aO U7 ⟨k1, 0, none⟩ (.int .i64 K7) fun U8 =>
   aO U8 ⟨k1, (0 + 1), none⟩ (.int .i64 x1) fun Hw =>
   aO Hw ⟨k1, (0 + 2), none⟩ (.int .i64 Om) fun M241 =>
   aO M241 ⟨k1, (0 + 3), none⟩ (.slice none 0 0) fun On =>
   aK (Mem.ld On ⟨k1, 0, none⟩) .i64 fun U9 =>
   aK (Mem.ld On ⟨k1, (0 + 1), none⟩) .i64 fun Va =>
   aK (Mem.ld On ⟨k1, (0 + 2), none⟩) .i64 fun Vb =>
   aD (Mem.ld On ⟨k1, (0 + 3), none⟩) fun A246 k247 Vc =>
   K (.agg #[(.int .i64 U9), (.int .i64 Va), (.int .i64 Vb), (.slice A246 k247 Vc)]) On))
  (∃ Y7 : List Value → Mem → Prop, (Y7 [(.int .i64 4), (.int .i64 Oj), (.bool t181)] Fg) ∧
  ∀ junk250 : Nat → Value, ∀ Y8 : Int, ∀ Vd : Int, ∀ t253 : Bool, ∀ Hx : Mem, (Y7 [(.int .i64 Y8), (.int .i64 Vd), (.bool t253)] Hx) → aV (!t253)
   (aD (Mem.ld Hx ⟨b0, (o0 + 6), none⟩) fun A255 Ve k257 =>
   aO Hx ⟨fU, ((dm + ((Int.toNat fA) * 3)) + 2), none⟩ (.int .i64 (-1)) fun M258 =>
   ((0 : Int) ≤ x1) ∧
   ((x1 : Int) < ((Ve : Nat) : Int)) ∧
   aG A255 fun Vf Vg =>
   aO M258 ⟨Vf, (Vg + ((Int.toNat x1) * 3)), none⟩ (.int .i64 (-1)) fun M261 =>
   aO M261 ⟨Vf, ((Vg + ((Int.toNat x1) * 3)) + 1), none⟩ (.int .i64 (-1)) fun M262 =>
   aO M262 ⟨Vf, ((Vg + ((Int.toNat x1) * 3)) + 2), none⟩ (.int .i64 0) fun M263 =>
   aO M263 ⟨k1, 0, none⟩ (.int .i64 6) fun Vh =>
   aO Vh ⟨k1, (0 + 1), none⟩ (.int .i64 x1) fun Vi =>
   aO Vi ⟨k1, (0 + 2), none⟩ (.int .i64 (-1)) fun Vj =>
   aO Vj ⟨k1, (0 + 3), none⟩ (.slice none 0 0) fun zE =>
   aK (Mem.ld zE ⟨k1, 0, none⟩) .i64 fun Vk =>
   aK (Mem.ld zE ⟨k1, (0 + 1), none⟩) .i64 fun Vl =>
   aK (Mem.ld zE ⟨k1, (0 + 2), none⟩) .i64 fun Vm =>
   aD (Mem.ld zE ⟨k1, (0 + 3), none⟩) fun A271 k272 k273 =>
   K (.agg #[(.int .i64 Vk), (.int .i64 Vl), (.int .i64 Vm), (.slice A271 k272 k273)]) zE)
   (aK (Mem.ld Hx ⟨fU, ((dm + ((Int.toNat fA) * 3)) + 1), none⟩) .i64 fun Vn =>
   aO Hx ⟨fU, ((dm + ((Int.toNat fA) * 3)) + 1), none⟩ (.int .i64 (IntKind.wrap .i64 (Vn + 1))) fun Q5 =>
   aD (Mem.ld Q5 ⟨b0, (o0 + 6), none⟩) fun A276 k277 k278 =>
   aD (Mem.ld Q5 ⟨b0, (o0 + 6), none⟩) fun A279 k280 k281 =>
   aK (Mem.ld Q5 ⟨b0, ((o0 + 1) + 3), none⟩) .i64 fun Vo =>
   ((0 : Int) ≤ x1) ∧
   ((x1 : Int) < ((k277 : Nat) : Int)) ∧
   aG A276 fun k283 k284 =>
   aO Q5 ⟨k283, ((k284 + ((Int.toNat x1) * 3)) + 1), none⟩ (.int .i64 Vd) fun Hy =>
   ((0 : Int) ≤ x1) ∧
   ((x1 : Int) < ((k280 : Nat) : Int)) ∧
   aG A279 fun k286 k287 =>
   aO Hy ⟨k286, ((k287 + ((Int.toNat x1) * 3)) + 2), none⟩ (.int .i64 Vo) fun M288 =>
   aO M288 ⟨k1, 0, none⟩ (.int .i64 Y8) fun M289 =>
   aO M289 ⟨k1, (0 + 1), none⟩ (.int .i64 x1) fun Vp =>
   aO Vp ⟨k1, (0 + 2), none⟩ (.int .i64 Vd) fun Vq =>
   aO Vq ⟨k1, (0 + 3), none⟩ (.slice none 0 0) fun Hz =>
   aK (Mem.ld Hz ⟨k1, 0, none⟩) .i64 fun n293 =>
   aK (Mem.ld Hz ⟨k1, (0 + 1), none⟩) .i64 fun Vr =>
   aK (Mem.ld Hz ⟨k1, (0 + 2), none⟩) .i64 fun Vs =>
   aD (Mem.ld Hz ⟨k1, (0 + 3), none⟩) fun A296 k297 k298 =>
   K (.agg #[(.int .i64 n293), (.int .i64 Vr), (.int .i64 Vs), (.slice A296 k297 k298)]) Hz))) Kp)) :
 aa Tryz.prog 101 ([.pointer (some ⟨b0, o0, none⟩), .int .i64 x1] : List Value).toArray M K Kp :=
 az (C := Cx) good [(1, .bT [0, 1, 3, 7, 0, 16, 48, 112, 0, 496, 1008, 2032, 4095, 8191] (.step 0 (.step 1 (.step 2 (.step 4 (.step 5 (.step 6 (.step 8 (.step 3 (.step 7 (.step 9 (.step 10 (.step 11 (.step 12 (.step 13 .done))))))))))))))), (3000039, .cut []), (3, .bT [0, 1, 3, 7, 0, 0, 32, 96, 224, 480, 992, 2016, 2016, 4095, 12287, 28671] (.step 0 (.step 1 (.step 2 (.step 4 (.step 5 (.step 6 (.step 7 (.step 8 (.dJ 3 (.step 9 (.step 10 (.step 11 (.step 12 (.step 13 (.step 14 (.step 15 .done))))))))))))))))), (3000080, .cut [(6, .c (.int .i64)), (7, .c (.int .i64)), (8, .c .bool)]), (8, .bT [0, 1, 3, 7, 0, 16, 48, 112, 240, 511, 1023] (.step 0 (.step 1 (.step 2 (.step 4 (.step 5 (.step 6 (.step 7 (.step 3 (.step 8 (.step 9 (.step 10 .done)))))))))))), (10, .bT [0, 1, 3, 7, 0, 16, 48, 112, 0, 496, 1008, 2032, 4095, 8191, 16383, 16383, 32767, 131071] (.step 0 (.step 1 (.step 2 (.step 4 (.step 5 (.step 6 (.step 8 (.step 3 (.step 7 (.step 9 (.step 10 (.step 11 (.step 12 (.step 13 (.step 14 (.step 15 (.step 16 (.step 17 .done))))))))))))))))))), (15, .bT [0, 1, 3, 7, 0, 0, 32, 96, 224, 0, 0, 0, 2048, 6144, 14336, 30720, 65023, 130559, 261631, 524287, 1048575, 2097151] (.step 0 (.step 1 (.step 2 (.step 4 (.step 5 (.step 6 (.step 7 (.step 9 (.step 10 (.step 11 (.step 12 (.step 13 (.step 14 (.step 3 (.step 8 (.step 15 (.step 16 (.step 17 (.step 18 (.step 19 (.step 20 (.step 21 .done)))))))))))))))))))))))] Tryz.func101 (by kernel_rfl) (by kernel_rfl) h
theorem tD {b0 o0 : Nat} {x1 : Int} (h :
be M (.cells #[(.int .i64 0), (.int .i64 0), (.int .i64 0), (.slice none 0 0)] 47 (0, 0)) fun k1 M2 =>
aD (Mem.ld M2 ⟨b0, (o0 + 6), none⟩) fun A3 k4 k5 =>
((0 : Int) ≤ x1) ∧
((x1 : Int) < ((k4 : Nat) : Int)) ∧
aG A3 fun k6 k7 =>
aK (Mem.ld M2 ⟨k6, ((k7 + ((Int.toNat x1) * 3)) + 1), none⟩) .i64 fun n8 =>
bO (Mem.ld M2 ⟨b0, o0, none⟩) fun A9 =>
bO (Mem.ld M2 ⟨b0, (o0 + 8), none⟩) fun BY =>
(True) ∧
aa Tryz.prog 41 #[(.pointer A9), (.int .i64 n8), (.func (.func 98) #[(.pointer BY)] #[])] M2 (fun v11 ja =>
∃ t13 : Bool, ∃ oF : Option Addr, ∃ gj : Nat, ∃ dO : Nat, (v11 = (.agg #[(.bool t13), (.slice oF gj dO)])) ∧
be ja (.cells #[(.bool false), (.slice none 0 0)] 120 (0, 0)) fun eT mZ =>
aO mZ ⟨eT, 0, none⟩ (.bool t13) fun iq =>
aO iq ⟨eT, (0 + 1), none⟩ (.slice oF gj dO) fun nU =>
aD (Mem.ld nU ⟨eT, (0 + 1), none⟩) fun Dg gJ iY =>
∃ Vt : Nat → List Value → Mem → Prop, (∃ sU : Nat, Vt sU [(.int .i64 0)] nU) ∧
∀ lT : Nat, ∀ Vu : Nat → Value, ∀ xn : Int, ∀ mA : Mem, (Vt lT [(.int .i64 xn)] mA) → aV (decide ((xn : Int) < ((gJ : Nat) : Int)))
 (((0 : Int) ≤ xn) ∧
 ((xn : Int) < ((gJ : Nat) : Int)) ∧
 aG Dg fun lJ nW =>
 aK (Mem.ld mA ⟨lJ, (nW + (Int.toNat xn)), none⟩) .i64 fun n32 =>
 aD (Mem.ld mA ⟨b0, (o0 + 5), none⟩) fun KL uw sW =>
 aK (Mem.ld mA ⟨k6, (k7 + ((Int.toNat x1) * 3)), none⟩) .i64 fun yq =>
 ((0 : Int) ≤ yq) ∧
 ((yq : Int) < ((uw : Nat) : Int)) ∧
 aG KL fun yu gZ =>
 bO (Mem.ld mA ⟨yu, (gZ + ((Int.toNat yq) * 3)), none⟩) fun XF =>
 aa Tryz.prog 134 #[(.pointer XF), (.int .i64 n32), (.pointer (some ⟨b0, (o0 + 7), none⟩))] mA (fun Jp Bf =>
 aK (some Jp) .i64 fun QN =>
 ∃ lU : Nat, (lU < lT) ∧
 Vt lU [(.int .i64 (IntKind.wrap .i64 (xn + 1)))] Bf) Kp)
 (aK (Mem.ld mA ⟨k6, ((k7 + ((Int.toNat x1) * 3)) + 2), none⟩) .i64 fun Dk =>
 aO mA ⟨k6, ((k7 + ((Int.toNat x1) * 3)) + 2), none⟩ (.int .i64 (IntKind.wrap .i64 (Dk - 1))) fun lW =>
 cJ (Mem.ld lW ⟨eT, 0, none⟩) fun t46 =>
 aV (!t46)
  (aO lW ⟨k6, ((k7 + ((Int.toNat x1) * 3)) + 1), none⟩ (.int .i64 (-1)) fun qR =>
  bO (Mem.ld qR ⟨b0, o0, none⟩) fun Q1 =>
  aa Tryz.prog 65 #[(.pointer Q1), (.int .i64 n8)] qR (fun Jk AH =>
  aK (some Jk) .i64 fun Bg =>
  aV (Bg == 1)
   (be AH (.cells #[(.int .i64 n8)] 3 (0, 0)) fun jX E9 =>
   aa Tryz.prog 53 #[(.pointer (some ⟨b0, (o0 + 7), none⟩)), (.slice (some ⟨jX, 0, none⟩) 1 1)] E9 (fun N3 oD =>
   (N3 = (.tuple #[])) ∧
   aD (Mem.ld oD ⟨eT, (0 + 1), none⟩) fun Q6 sG EZ =>
   aO oD ⟨k1, 0, none⟩ (.int .i64 7) fun xA =>
   aO xA ⟨k1, (0 + 1), none⟩ (.int .i64 x1) fun pQ =>
   aO pQ ⟨k1, (0 + 2), none⟩ (.int .i64 n8) fun ym =>
   aO ym ⟨k1, (0 + 3), none⟩ (.slice Q6 sG EZ) fun mW =>
   aK (Mem.ld mW ⟨k1, 0, none⟩) .i64 fun xQ =>
   aK (Mem.ld mW ⟨k1, (0 + 1), none⟩) .i64 fun n64 =>
   aK (Mem.ld mW ⟨k1, (0 + 2), none⟩) .i64 fun vV =>
   aD (Mem.ld mW ⟨k1, (0 + 3), none⟩) fun N4 xX Gm =>
   K (.agg #[(.int .i64 xQ), (.int .i64 n64), (.int .i64 vV), (.slice N4 xX Gm)]) mW) Kp)
   (aD (Mem.ld AH ⟨eT, (0 + 1), none⟩) fun Y9 zk KT =>
   aO AH ⟨k1, 0, none⟩ (.int .i64 7) fun vW =>
   aO vW ⟨k1, (0 + 1), none⟩ (.int .i64 x1) fun zn =>
   aO zn ⟨k1, (0 + 2), none⟩ (.int .i64 n8) fun Cb =>
   aO Cb ⟨k1, (0 + 3), none⟩ (.slice Y9 zk KT) fun zm =>
   aK (Mem.ld zm ⟨k1, 0, none⟩) .i64 fun NH =>
   aK (Mem.ld zm ⟨k1, (0 + 1), none⟩) .i64 fun E0 =>
   aK (Mem.ld zm ⟨k1, (0 + 2), none⟩) .i64 fun Hq =>
   aD (Mem.ld zm ⟨k1, (0 + 3), none⟩) fun Qa Ee QZ =>
   K (.agg #[(.int .i64 NH), (.int .i64 E0), (.int .i64 Hq), (.slice Qa Ee QZ)]) zm)) Kp)
  (aK (Mem.ld lW ⟨k6, ((k7 + ((Int.toNat x1) * 3)) + 2), none⟩) .i64 fun Jm =>
  aV (Jm == 0)
   (aO lW ⟨k6, ((k7 + ((Int.toNat x1) * 3)) + 1), none⟩ (.int .i64 (-1)) fun Gi =>
   bO (Mem.ld Gi ⟨b0, o0, none⟩) fun A84 =>
   aa Tryz.prog 65 #[(.pointer A84), (.int .i64 n8)] Gi (fun YY B4 =>
   aK (some YY) .i64 fun Za =>
   aV (Za == 1)
    (be B4 (.cells #[(.int .i64 n8)] 3 (0, 0)) fun Dp Df =>
    aa Tryz.prog 53 #[(.pointer (some ⟨b0, (o0 + 7), none⟩)), (.slice (some ⟨Dp, 0, none⟩) 1 1)] Df (fun NS j0 =>
    (NS = (.tuple #[])) ∧
    aD (Mem.ld j0 ⟨eT, (0 + 1), none⟩) fun Um NX QW =>
    aO j0 ⟨k1, 0, none⟩ (.int .i64 7) fun Fh =>
    aO Fh ⟨k1, (0 + 1), none⟩ (.int .i64 x1) fun Ta =>
    aO Ta ⟨k1, (0 + 2), none⟩ (.int .i64 n8) fun Mt =>
    aO Mt ⟨k1, (0 + 3), none⟩ (.slice Um NX QW) fun Bm =>
    aK (Mem.ld Bm ⟨k1, 0, none⟩) .i64 fun KW =>
    aK (Mem.ld Bm ⟨k1, (0 + 1), none⟩) .i64 fun ux =>
    aK (Mem.ld Bm ⟨k1, (0 + 2), none⟩) .i64 fun NI =>
    aD (Mem.ld Bm ⟨k1, (0 + 3), none⟩) fun uP jo wq =>
    K (.agg #[(.int .i64 KW), (.int .i64 ux), (.int .i64 NI), (.slice uP jo wq)]) Bm) Kp)
    (aD (Mem.ld B4 ⟨eT, (0 + 1), none⟩) fun Dt xY Du =>
    aO B4 ⟨k1, 0, none⟩ (.int .i64 7) fun xR =>
    aO xR ⟨k1, (0 + 1), none⟩ (.int .i64 x1) fun nV =>
    aO nV ⟨k1, (0 + 2), none⟩ (.int .i64 n8) fun K8 =>
    aO K8 ⟨k1, (0 + 3), none⟩ (.slice Dt xY Du) fun od =>
    aK (Mem.ld od ⟨k1, 0, none⟩) .i64 fun uy =>
    aK (Mem.ld od ⟨k1, (0 + 1), none⟩) .i64 fun AY =>
    aK (Mem.ld od ⟨k1, (0 + 2), none⟩) .i64 fun E2 =>
    aD (Mem.ld od ⟨k1, (0 + 3), none⟩) fun Vv K9 Vw =>
    K (.agg #[(.int .i64 uy), (.int .i64 AY), (.int .i64 E2), (.slice Vv K9 Vw)]) od)) Kp)
   (aD (Mem.ld lW ⟨eT, (0 + 1), none⟩) fun Vx zF Vy =>
   aO lW ⟨k1, 0, none⟩ (.int .i64 7) fun zG =>
   aO zG ⟨k1, (0 + 1), none⟩ (.int .i64 x1) fun Vz =>
   aO Vz ⟨k1, (0 + 2), none⟩ (.int .i64 n8) fun La =>
   aO La ⟨k1, (0 + 3), none⟩ (.slice Vx zF Vy) fun si =>
   aK (Mem.ld si ⟨k1, 0, none⟩) .i64 fun HA =>
   aK (Mem.ld si ⟨k1, (0 + 1), none⟩) .i64 fun VA =>
   aK (Mem.ld si ⟨k1, (0 + 2), none⟩) .i64 fun zA =>
   aD (Mem.ld si ⟨k1, (0 + 3), none⟩) fun VB Oo VC =>
   K (.agg #[(.int .i64 HA), (.int .i64 VA), (.int .i64 zA), (.slice VB Oo VC)]) si)))) Kp) :
 aa Tryz.prog 102 ([.pointer (some ⟨b0, o0, none⟩), .int .i64 x1] : List Value).toArray M K Kp :=
 az (C := Cx) good [(3, .bT [0, 1, 3, 7, 0, 0, 32, 96, 224, 480, 1023, 0, 4095] (.step 0 (.step 1 (.step 2 (.step 4 (.step 5 (.step 6 (.step 7 (.step 3 (.step 8 (.step 9 (.late 10 (.step 11 (.step 12 .done)))))))))))))), (2000000, .loop [(34, .c (.int .i64))]), (7, .bT [0, 1, 3, 7, 0, 16, 48, 112, 255, 511, 1023, 0, 0, 4096, 12288, 32767] (.step 0 (.step 1 (.step 2 (.step 4 (.step 5 (.step 6 (.step 11 (.step 12 (.step 13 (.step 14 (.step 3 (.step 7 (.step 8 (.step 9 (.step 10 (.step 15 .done)))))))))))))))))] Tryz.func102 (by kernel_rfl) (by kernel_rfl) h
theorem tE {b0 o0 : Nat} {b1 o1 : Nat} (h :
bO (Mem.ld M ⟨b1, o1, none⟩) fun A1 =>
aa Tryz.prog 177 #[(.pointer A1), (.pointer (some ⟨b0, (o0 + 7), none⟩))] M (fun v2 M3 =>
aK (some v2) .i64 fun n4 =>
rI M3 b1 (o1 + 1) fun n5 =>
((7 : Int) ≠ 0) ∧
aV ((Int.tmod n5 7) == 6)
 (aa Tryz.prog 178 #[(.pointer (some ⟨b0, (o0 + 7), none⟩)), (iV 1)] M3 (fun v6 M7 =>
 aD (some v6) fun A8 k9 dP =>
 aV (((k9 : Nat) : Int) == 1)
 (((0 : Int) ≤ 0) ∧
 ((0 : Int) < ((k9 : Nat) : Int)) ∧
 aG A8 fun eL fU =>
 rI M7 eL (fU + 0) fun jg =>
 K (.tuple #[(iV jg), (.bool true)]) M7)
 (bO (Mem.ld M7 ⟨b1, o1, none⟩) fun oF =>
 aa Tryz.prog 131 #[(.pointer oF)] M7 (fun Dh fh =>
 ∃ iw : Int, ∃ t18 : Bool, (Dh = (.tuple #[(iV iw), (.bool t18)])) ∧
 aV t18
 (K (.tuple #[(iV iw), (.bool true)]) fh)
 (bO (Mem.ld fh ⟨b1, o1, none⟩) fun AK =>
 aa Tryz.prog 179 #[(.pointer AK), (.pointer (some ⟨b0, (o0 + 7), none⟩)), (iV 0)] fh (fun v20 je =>
 ∃ sC : Int, ∃ t23 : Bool, (v20 = (.tuple #[(iV sC), (.bool t23)])) ∧
 K (.tuple #[(iV sC), (.bool t23)]) je) Kp)) Kp)) Kp)
 (bO (Mem.ld M3 ⟨b1, o1, none⟩) fun G4 =>
 aa Tryz.prog 131 #[(.pointer G4)] M3 (fun Uf xl =>
 ∃ yp : Int, ∃ t28 : Bool, (Uf = (.tuple #[(iV yp), (.bool t28)])) ∧
 aV t28
 (K (.tuple #[(iV yp), (.bool true)]) xl)
 (bO (Mem.ld xl ⟨b1, o1, none⟩) fun SR =>
 aa Tryz.prog 179 #[(.pointer SR), (.pointer (some ⟨b0, (o0 + 7), none⟩)), (iV 0)] xl (fun v30 Cc =>
 ∃ n32 : Int, ∃ t33 : Bool, (v30 = (.tuple #[(iV n32), (.bool t33)])) ∧
 K (.tuple #[(iV n32), (.bool t33)]) Cc) Kp)) Kp)) Kp) :
 aa Tryz.prog 132 ([.pointer (some ⟨b0, o0, none⟩), .pointer (some ⟨b1, o1, none⟩)] : List Value).toArray M K Kp :=
 az (C := Cx) good [(1, .bT [0, 1, 3, 7, 0, 16, 48, 127] (.step 0 (.step 1 (.step 2 (.step 4 (.step 5 (.step 6 (.step 3 (.step 7 .done))))))))), (9, .bT [0, 1, 3, 7, 0, 16, 48, 127, 255, 255, 1023, 2047] (.step 0 (.step 1 (.step 2 (.step 4 (.step 5 (.step 6 (.step 3 (.step 7 (.step 8 (.step 9 (.step 10 (.step 11 .done)))))))))))))] Tryz.func132 (by kernel_rfl) (by kernel_rfl) h
end Go.Proofs
namespace Go.AF
theorem de.two : ∀ (zs : List HP) (i j : Nat), i ≠ j → i < zs.length → j < zs.length → ∃ rest, ∀ P Q, ∃ l1, de ((zs.set i P).set j Q) P l1 ∧ de l1 Q rest
 | [], _, _, _, h, _ => by simp at h
 | z :: zs, 0, 0, h, _, _ => absurd rfl h
 | z :: zs, 0, j + 1, _, _, hj => ⟨zs.eraseIdx j, fun P Q => ⟨zs.set j Q, by simp only [List.set_cons_zero, List.set_cons_succ]; exact .here, de.idx (by simpa using hj)⟩⟩
 | z :: zs, i + 1, 0, _, hi, _ => ⟨zs.eraseIdx i, fun P Q => ⟨Q :: zs.eraseIdx i, by simp only [List.set_cons_zero, List.set_cons_succ]; exact .there (de.idx (by simpa using hi)), .here⟩⟩
 | z :: zs, i + 1, j + 1, h, hi, hj => by
  obtain ⟨rest, hr⟩ := de.two zs i j (by omega) (by simpa using hi) (by simpa using hj)
  refine ⟨z :: rest, fun P Q => ?_⟩
  obtain ⟨l1, h1, h2⟩ := hr P Q
  exact ⟨z :: l1, by simp only [List.set_cons_succ]; exact .there h1, .there h2⟩
section
variable {α : Type} {r : tU α} {R : Mem} {L L' nN : List HP} {M : Mem} {bs : List Nat} {cs : List α} {b b' i j : Nat} {c c' : α}
theorem Hp.Oq (h : Hp R L M) (r : tU α) {bs : List Nat} {cs : List α} [o : fP r L bs cs L'] (hij : i ≠ j) (hb : bs[i]? = some b) (hc : cs[i]? = some c) (hb' : bs[j]? = some b') (Gh : cs[j]? = some c') :
  ∃ X : HP, Hp R (aB r b c :: aB r b' c' :: X :: L') M ∧ ∀ {R' : Mem} {L2 : List HP} {M' : Mem} {d d' : α}, Hp R' (aB r b d :: aB r b' d' :: X :: L2) M' → Hp R' (bn r bs ((cs.set i d).set j d') :: L2) M' := by
 have hi := (List.getElem?_eq_some_iff.1 hb).1
 have hj := (List.getElem?_eq_some_iff.1 hb').1
 have Mu := (List.getElem?_eq_some_iff.1 hc).1
 have Mg := (List.getElem?_eq_some_iff.1 Gh).1
 have hl : (List.zipWith (aB r) bs cs).length = min bs.length cs.length := List.length_zipWith
 obtain ⟨rest, hr⟩ := de.two (List.zipWith (aB r) bs cs) i j hij (by omega) (by omega)
 refine ⟨sep rest, ?_, ?_⟩
 ·have h0 : Hp R (sep (List.zipWith (aB r) bs cs) :: L') M := h.pick o.pick
  obtain ⟨l1, p1, p2⟩ := hr (aB r b c) (aB r b' c')
  have e : ((List.zipWith (aB r) bs cs).set i (aB r b c)).set j (aB r b' c') = List.zipWith (aB r) bs cs := by
   rw [nY hb, nY hb']
   congr 1
   obtain ⟨_, e1⟩ := List.getElem?_eq_some_iff.1 hc
   obtain ⟨_, e2⟩ := List.getElem?_eq_some_iff.1 Gh
   subst e1; subst e2
   rw [List.set_getElem_self, List.set_getElem_self]
  rw [e] at p1
  refine h0.map fun A hs => ?_
  have h1 := bZ.pick p1.app (bZ.bk.1 hs)
  exact h1.tail fun B P0 => (bZ.pick p2.app P0).tail fun C xS => bZ.bk.2 xS
 ·intro R' L2 M' d d' h1
  obtain ⟨l1, p1, p2⟩ := hr (aB r b d) (aB r b' d')
  rw [nY hb, nY hb'] at p1
  show Hp R' (sep (List.zipWith (aB r) bs ((cs.set i d).set j d')) :: L2) M'
  refine h1.map fun A hs => bZ.bk.2 (bZ.nK p1.app ?_)
  exact hs.tail fun B P0 => bZ.nK p2.app (P0.tail fun C xS => bZ.bk.1 xS)
end
end Go.AF
namespace Go.Proofs
open Go.AF
set_option maxRecDepth 100000
variable {M : Mem} {K : Value → Mem → Prop} {Kp : List PanicEntry → Mem → Prop}
theorem sj {jE : Option Addr} {jF jG : Nat} {jH : Option Addr} {jI jJ : Nat} {fV : Int} {jK : Option Addr} {jL jM : Nat} (h :
be M (.cells #[(.slice jE jF jG), (.slice jH jI jJ), (iV fV), (.slice jK jL jM)] 73 (0, 0)) fun k1 M2 =>
be M2 (.cells #[(.slice none 0 0), (.slice none 0 0), (iV 0), (.slice none 0 0)] 41 (0, 0)) fun k3 M4 =>
rS M4 k1 1 fun A5 k6 k7 =>
rI M4 k1 2 fun n8 =>
be M4 (.cells #[] 3 (0, 0)) fun k9 gV =>
(True) ∧
aS Tryz.prog (Go.Builtin.append_ #[38, 38] 38 #[(.slice (some ⟨k9, 0, none⟩) 0 0), (.slice A5 k6 k7)]) gV (fun v11 ja =>
aD (some v11) fun Mh gq gj =>
((Mem.ld ja ⟨k1, 2, none⟩) = (some (iV n8))) ∧
be ja (.cells #[(.slice none 0 0), (.slice none 0 0), (iV 0), (.slice none 0 0)] 41 (0, 0)) fun dO j8 =>
sT j8 dO 0 (.slice none 0 0) fun mZ =>
sT mZ dO 1 (.slice Mh gq gj) fun iq =>
sT iq dO 2 (iV n8) fun nU =>
sT nU dO 3 (.slice none 0 0) fun je =>
((Mem.ld je ⟨k1, 2, none⟩) = (some (iV n8))) ∧
rS je k1 0 fun QS iY ri =>
∃ Up : Nat → List Value → Mem → Prop, (∃ lT : Nat, Up lT [(iV 0)] je) ∧
∀ oN : Nat, ∀ Uq : Nat → Value, ∀ xu : Int, ∀ oM : Mem, (Up oN [(iV xu)] oM) → aV (decide ((xu : Int) < ((iY : Nat) : Int)))
 (((0 : Int) ≤ xu) ∧
 ((xu : Int) < ((iY : Nat) : Int)) ∧
 aG QS fun nW tW =>
 rS oM nW (tW + (Int.toNat xu)) fun KL uw sW =>
 be oM (.cells #[] 34 (0, 0)) fun Ec Dl =>
 ∃ I38 : Nat → List Value → Mem → Prop, (∃ tX : Nat, I38 tX [(.slice (some ⟨Ec, 0, none⟩) 0 0), (iV 0)] Dl) ∧
 ∀ AX : Nat, ∀ junk41 : Nat → Value, ∀ Ml : Option Addr, ∀ lU : Nat, ∀ KM : Nat, ∀ xU : Int, ∀ xz : Mem, (I38 AX [(.slice Ml lU KM), (iV xU)] xz) → aV (decide ((xU : Int) < ((uw : Nat) : Int)))
 (((0 : Int) ≤ xU) ∧
 ((xU : Int) < ((uw : Nat) : Int)) ∧
 aG KL fun Mj E8 =>
 rI xz Mj (E8 + ((Int.toNat xU) * 4)) fun Ds =>
 rI xz Mj ((E8 + ((Int.toNat xU) * 4)) + 1) fun Ca =>
 rI xz Mj ((E8 + ((Int.toNat xU) * 4)) + 2) fun Bg =>
 rI xz Mj ((E8 + ((Int.toNat xU) * 4)) + 3) fun YQ =>
 be xz (.cells #[(iV 0), (iV 0), (iV 0), (iV 0)] 109 (0, 0)) fun jy EX =>
 sT EX jy 0 (iV Ds) fun oD =>
 sT oD jy 1 (iV Ca) fun G0 =>
 sT G0 jy 2 (iV Bg) fun vU =>
 sT vU jy 3 (iV YQ) fun Hi =>
 rI Hi jy 0 fun Dd =>
 rI Hi jy 1 fun Jl =>
 rI Hi jy 2 fun KN =>
 rI Hi jy 3 fun Mo =>
 be Hi (.cells #[(iV Dd), (iV Jl), (iV KN), (iV Mo)] 34 (0, 0)) fun P9 Ed =>
 aS Tryz.prog (Go.Builtin.append_ #[31, 31] 31 #[(.slice Ml lU KM), (.slice (some ⟨P9, 0, none⟩) 1 1)]) Ed (fun v65 SY =>
 aD (some v65) fun A67 Gm K0 =>
 ∃ zk : Nat, (zk < AX) ∧
 I38 zk [(.slice A67 Gm K0), (iV (IntKind.wrap .i64 (xU + 1)))] SY) Kp)
 (rS xz dO 0 fun KV Jt NU =>
 be xz (.cells #[(.slice Ml lU KM)] 31 (0, 0)) fun S4 zm =>
 aS Tryz.prog (Go.Builtin.append_ #[37, 37] 37 #[(.slice KV Jt NU), (.slice (some ⟨S4, 0, none⟩) 1 1)]) zm (fun Uu NT =>
 aD (some Uu) fun Uv Gl Ee =>
 sT NT dO 0 (.slice Uv Gl Ee) fun NV =>
 ∃ Hj : Nat, (Hj < oN) ∧
 Up Hj [(iV (IntKind.wrap .i64 (xu + 1)))] NV) Kp))
 (rS oM k1 3 fun A83 XO Jv =>
 ∃ I86 : Nat → List Value → Mem → Prop, (∃ Ms : Nat, I86 Ms [(iV 0)] oM) ∧
 ∀ Dp : Nat, ∀ junk89 : Nat → Value, ∀ Mv : Int, ∀ j0 : Mem, (I86 Dp [(iV Mv)] j0) → aV (decide ((Mv : Int) < ((XO : Nat) : Int)))
 (((0 : Int) ≤ Mv) ∧
 ((Mv : Int) < ((XO : Nat) : Int)) ∧
 aG A83 fun vw NX =>
 rI j0 vw (NX + ((Int.toNat Mv) * 3)) fun Gf =>
 rI j0 vw ((NX + ((Int.toNat Mv) * 3)) + 1) fun B5 =>
 rI j0 vw ((NX + ((Int.toNat Mv) * 3)) + 2) fun B6 =>
 be j0 (.cells #[(iV 0), (iV 0), (iV 0)] 171 (0, 0)) fun Tb Bm =>
 sT Bm Tb 0 (iV Gf) fun Un =>
 sT Un Tb 1 (iV B5) fun M100 =>
 sT M100 Tb 2 (iV B6) fun gO =>
 rS gO dO 3 fun uP jo wq =>
 rI gO Tb 0 fun Q7 =>
 rI gO Tb 1 fun VD =>
 rI gO Tb 2 fun DC =>
 be gO (.cells #[(iV Q7), (iV VD), (iV DC)] 172 (0, 0)) fun Q8 nV =>
 aS Tryz.prog (Go.Builtin.append_ #[39, 39] 39 #[(.slice uP jo wq), (.slice (some ⟨Q8, 0, none⟩) 1 1)]) nV (fun v110 od =>
 aD (some v110) fun A112 Dv Uw =>
 sT od dO 3 (.slice A112 Dv Uw) fun Hs =>
 ∃ K9 : Nat, (K9 < Dp) ∧
 I86 K9 [(iV (IntKind.wrap .i64 (Mv + 1)))] Hs) Kp)
 (rS j0 dO 0 fun HB HC zF =>
 rS j0 dO 1 fun A120 Q9 k122 =>
 rI j0 dO 2 fun VE =>
 rS j0 dO 3 fun A124 NZ VF =>
 sT j0 k3 0 (.slice HB HC zF) fun KY =>
 sT KY k3 1 (.slice A120 Q9 k122) fun M128 =>
 sT M128 k3 2 (iV VE) fun VG =>
 sT VG k3 3 (.slice A124 NZ VF) fun lq =>
 rS lq k3 0 fun x9 wk zw =>
 rS lq k3 1 fun VH Bk o6 =>
 rI lq k3 2 fun VI =>
 rS lq k3 3 fun A138 Ra zH =>
 K (.agg #[(.slice x9 wk zw), (.slice VH Bk o6), (iV VI), (.slice A138 Ra zH)]) lq))) Kp) :
 aa Tryz.prog 29 ([.agg #[.slice jE jF jG, .slice jH jI jJ, .int .i64 fV, .slice jK jL jM]] : List Value).toArray M K Kp :=
 az (C := Cx) good [(1, .bT [0, 0, 2, 7, 0, 16, 63, 0, 255] (.step 1 (.step 4 (.step 2 (.dJ 5 (.step 0 (.late 3 (.step 6 (.step 7 (.step 8 .done)))))))))), (2000000, .loop [(21, .c (.int .i64))]), (2000002, .loop [(6, .c .sl), (28, .c (.int .i64))]), (2000004, .loop [(55, .c (.int .i64))])] Tryz.func29 (by kernel_rfl) (by kernel_rfl) h
theorem qi {jE : Option Addr} {jF jG : Nat} {jH : Option Addr} {jI jJ : Nat} {fV : Int} {jK : Option Addr} {jL jM : Nat} (h :
be M (.cells #[(.slice jE jF jG), (.slice jH jI jJ), (iV fV), (.slice jK jL jM)] 73 (0, 0)) fun k1 M2 =>
be M2 (.cells #[(.slice none 0 0), (.slice none 0 0), (iV 0), (.slice none 0 0)] 73 (0, 0)) fun k3 M4 =>
rI M4 k1 2 fun n5 =>
aa Tryz.prog 69 #[(iV n5), (iV 4)] M4 (fun v6 M7 =>
aK (some v6) .i64 fun n8 =>
be M7 (.cells #[(.slice none 0 0), (.slice none 0 0), (iV 0), (.slice none 0 0)] 73 (0, 0)) fun k9 gV =>
sT gV k9 0 (.slice none 0 0) fun hH =>
sT hH k9 1 (.slice none 0 0) fun ja =>
sT ja k9 2 (iV n8) fun j7 =>
sT j7 k9 3 (.slice none 0 0) fun iC =>
∃ J15 : List Value → Mem → Prop, (∃ I16 : Nat → List Value → Mem → Prop, (∃ eT : Nat, I16 eT [(iV 0)] iC) ∧
 ∀ en : Nat, ∀ junk19 : Nat → Value, ∀ fI : Int, ∀ je : Mem, (I16 en [(iV fI)] je) → rS je k1 1 fun QS iY ri =>
 aV (decide ((fI : Int) < ((iY : Nat) : Int)))
 (aV (decide ((fI : Int) < 4))
 (∃ J25 : List Value → Mem → Prop, (rS je k1 1 fun Gk oN lK =>
 ((0 : Int) ≤ fI) ∧
 ((fI : Int) < ((oN : Nat) : Int)) ∧
 aG Gk fun kB lJ =>
 rI je kB (lJ + (Int.toNat fI)) fun tV =>
 (rS je k9 1 fun XM jA uw =>
 aa Tryz.prog 69 #[(iV tV), (iV 4)] je (fun v35 pA =>
 aK (some v35) .i64 fun NB =>
 be pA (.cells #[(iV NB)] 3 (0, 0)) fun gZ XI =>
 aS Tryz.prog (Go.Builtin.append_ #[38, 38] 38 #[(.slice XM jA uw), (.slice (some ⟨gZ, 0, none⟩) 1 1)]) XI (fun Jp Bf =>
 aD (some Jp) fun Ml lU KM =>
 sT Bf k9 1 (.slice Ml lU KM) fun lW =>
 J25 [] lW) Kp) Kp) ∧
 (aa Tryz.prog 69 #[(iV tV), (iV 4)] je (fun XP qR =>
 aK (some XP) .i64 fun xV =>
 rS qR k9 1 fun Us y8 Hh =>
 be qR (.cells #[(iV xV)] 3 (0, 0)) fun jX E9 =>
 aS Tryz.prog (Go.Builtin.append_ #[38, 38] 38 #[(.slice Us y8 Hh), (.slice (some ⟨jX, 0, none⟩) 1 1)]) E9 (fun N3 oD =>
 aD (some N3) fun Q6 sG EZ =>
 sT oD k9 1 (.slice Q6 sG EZ) fun xA =>
 J25 [] xA) Kp) Kp) ∧
 True) ∧
 ∀ junk60 : Nat → Value, ∀ ym : Mem, (J25 [] ym) → ∃ QV : Nat, (QV < en) ∧
 I16 QV [(iV (IntKind.wrap .i64 (fI + 1)))] ym)
 (J15 [] je))
 (J15 [] je)) ∧
∀ junk63 : Nat → Value, ∀ Ed : Mem, (J15 [] Ed) → ∃ J65 : List Value → Mem → Prop, (∃ I66 : Nat → List Value → Mem → Prop, (∃ xX : Nat, I66 xX [(iV 0)] Ed) ∧
 ∀ Gm : Nat, ∀ junk69 : Nat → Value, ∀ Rb : Int, ∀ Eb : Mem, (I66 Gm [(iV Rb)] Eb) → rS Eb k1 3 fun A72 NU S4 =>
 aV (decide ((Rb : Int) < ((NU : Nat) : Int)))
 (aV (decide ((Rb : Int) < 8))
 (rS Eb k1 3 fun XQ Qb Mr =>
 ((0 : Int) ≤ Rb) ∧
 ((Rb : Int) < ((Qb : Nat) : Int)) ∧
 aG XQ fun KU Gl =>
 rI Eb KU (Gl + ((Int.toNat Rb) * 3)) fun YK =>
 rI Eb KU ((Gl + ((Int.toNat Rb) * 3)) + 1) fun Tc =>
 rI Eb KU ((Gl + ((Int.toNat Rb) * 3)) + 2) fun Jm =>
 be Eb (.cells #[(iV 0), (iV 0), (iV 0)] 171 (0, 0)) fun x5 Ef =>
 sT Ef x5 0 (iV YK) fun YX =>
 sT YX x5 1 (iV Tc) fun B4 =>
 sT B4 x5 2 (iV Jm) fun AJ =>
 rI AJ x5 0 fun XR =>
 rI AJ x5 1 fun Mw =>
 rS AJ k9 1 fun S7 NW vw =>
 rI AJ x5 2 fun Jx =>
 (True) ∧
 aa Tryz.prog 69 #[(iV XR), (iV 3)] AJ (fun v94 Fh =>
 aK (some v94) .i64 fun B6 =>
 ((Mem.ld Fh ⟨x5, 2, none⟩) = (some (iV Jx))) ∧
 ((Mem.ld Fh ⟨k9, 1, none⟩) = (some (.slice S7 NW vw))) ∧
 ((Mem.ld Fh ⟨x5, 1, none⟩) = (some (iV Mw))) ∧
 (True) ∧
 aa Tryz.prog 69 #[(iV Mw), (iV ((NW : Nat) : Int))] Fh (fun v97 Bm =>
 aK (some v97) .i64 fun KW =>
 ((Mem.ld Bm ⟨x5, 2, none⟩) = (some (iV Jx))) ∧
 ((Mem.ld Bm ⟨k9, 1, none⟩) = (some (.slice S7 NW vw))) ∧
 ((Mem.ld Bm ⟨x5, 1, none⟩) = (some (iV Mw))) ∧
 (True) ∧
 aa Tryz.prog 69 #[(iV Jx), (iV 8)] Bm (fun Ot gO =>
 aK (some Ot) .i64 fun G1 =>
 ((Mem.ld gO ⟨x5, 2, none⟩) = (some (iV Jx))) ∧
 ((Mem.ld gO ⟨k9, 1, none⟩) = (some (.slice S7 NW vw))) ∧
 ((Mem.ld gO ⟨x5, 1, none⟩) = (some (iV Mw))) ∧
 be gO (.cells #[(iV 0), (iV 0), (iV 0)] 171 (0, 0)) fun jo G2 =>
 sT G2 jo 0 (iV B6) fun mY =>
 sT mY jo 1 (iV KW) fun y9 =>
 sT y9 jo 2 (iV G1) fun za =>
 ((Mem.ld za ⟨x5, 2, none⟩) = (some (iV Jx))) ∧
 ((Mem.ld za ⟨k9, 1, none⟩) = (some (.slice S7 NW vw))) ∧
 ((Mem.ld za ⟨x5, 1, none⟩) = (some (iV Mw))) ∧
 rS za k9 1 fun A108 Bi K2 =>
 ∃ VJ : List Value → Mem → Prop, (aV (((Bi : Nat) : Int) == 0)
 (sT za jo 0 (iV 2) fun VK =>
 sT VK jo 1 (iV 0) fun M113 =>
 sT M113 jo 2 (iV 0) fun tC =>
 VJ [] tC)
 (VJ [] za)) ∧
 ∀ junk115 : Nat → Value, ∀ mC : Mem, (VJ [] mC) → rS mC k9 3 fun HB HC zF =>
 rI mC jo 0 fun zq =>
 rI mC jo 1 fun zu =>
 rI mC jo 2 fun NY =>
 be mC (.cells #[(iV zq), (iV zu), (iV NY)] 171 (0, 0)) fun Dx si =>
 aS Tryz.prog (Go.Builtin.append_ #[71, 71] 71 #[(.slice HB HC zF), (.slice (some ⟨Dx, 0, none⟩) 1 1)]) si (fun v125 M126 =>
 aD (some v125) fun A127 HD Oo =>
 sT M126 k9 3 (.slice A127 HD Oo) fun lq =>
 ∃ Zb : Nat, (Zb < Gm) ∧
 I66 Zb [(iV (IntKind.wrap .i64 (Rb + 1)))] lq) Kp) Kp) Kp) Kp)
 (J65 [] Eb))
 (J65 [] Eb)) ∧
∀ junk132 : Nat → Value, ∀ HE : Mem, (J65 [] HE) → rS HE k1 0 fun VH Bk o6 =>
rS HE k1 0 fun Zc ya Ra =>
((0 : Int) ≤ ((o6 : Nat) : Int)) ∧
((((o6 : Nat) : Int) : Int) ≤ ((o6 : Nat) : Int)) ∧
((0 : Int) ≤ (if (5 : Int) < ((ya : Nat) : Int) then 5 else ((ya : Nat) : Int))) ∧
(((if (5 : Int) < ((ya : Nat) : Int) then 5 else ((ya : Nat) : Int)) : Int) ≤ ((o6 : Nat) : Int)) ∧
((0 : Int) ≤ 0) ∧
((0 : Int) ≤ (if (5 : Int) < ((ya : Nat) : Int) then 5 else ((ya : Nat) : Int))) ∧
∃ VL : List Value → Mem → Prop, (aV (((((Int.toNat (if (5 : Int) < ((ya : Nat) : Int) then 5 else ((ya : Nat) : Int))) - 0) : Nat) : Int) == 0)
 (be HE (.cells #[(iV 0), (iV 0), (iV 0), (iV 0)] 109 (0, 0)) fun k141 Bl =>
 be Bl (.cells #[(.slice (some ⟨k141, 0, none⟩) 1 1)] 115 (0, 0)) fun k143 VM =>
 VL [(.slice (some ⟨k143, 0, none⟩) 1 1)] VM)
 (VL [(.slice (lM VH 0 (Int.toNat ((o6 : Nat) : Int)) 1) ((Int.toNat (if (5 : Int) < ((ya : Nat) : Int) then 5 else ((ya : Nat) : Int))) - 0) ((Int.toNat ((o6 : Nat) : Int)) - 0))] HE)) ∧
∀ Rc : Nat → Value, ∀ Zd : Option Addr, ∀ Ou : Nat, ∀ N9 : Nat, ∀ wm : Mem, (VL [(.slice Zd Ou N9)] wm) → aS Tryz.prog (Go.Instr.makeSlice 70 (iV ((Ou : Nat) : Int)) (iV ((Ou : Nat) : Int))) wm (fun v150 zC =>
aD (some v150) fun Oa Ff N2 =>
sT zC k9 0 (.slice Oa Ff N2) fun M155 =>
∃ VN : Nat → List Value → Mem → Prop, (∃ UI : Nat, VN UI [(iV 0)] M155) ∧
∀ Ze : Nat, ∀ junk159 : Nat → Value, ∀ zI : Int, ∀ wv : Mem, (VN Ze [(iV zI)] wv) → aV (decide ((zI : Int) < ((Ou : Nat) : Int)))
 (((0 : Int) ≤ zI) ∧
 ((zI : Int) < ((Ou : Nat) : Int)) ∧
 aG Zd fun Ob Oc =>
 rS wv Ob (Oc + (Int.toNat zI)) fun A164 Bn Lb =>
 ((0 : Int) ≤ ((Lb : Nat) : Int)) ∧
 ((((Lb : Nat) : Int) : Int) ≤ ((Lb : Nat) : Int)) ∧
 ((0 : Int) ≤ (if (20 : Int) < ((Bn : Nat) : Int) then 20 else ((Bn : Nat) : Int))) ∧
 (((if (20 : Int) < ((Bn : Nat) : Int) then 20 else ((Bn : Nat) : Int)) : Int) ≤ ((Lb : Nat) : Int)) ∧
 ((0 : Int) ≤ 0) ∧
 ((0 : Int) ≤ (if (20 : Int) < ((Bn : Nat) : Int) then 20 else ((Bn : Nat) : Int))) ∧
 ∃ VO : List Value → Mem → Prop, (aV (((((Int.toNat (if (20 : Int) < ((Bn : Nat) : Int) then 20 else ((Bn : Nat) : Int))) - 0) : Nat) : Int) == 0)
 (be wv (.cells #[(iV 0), (iV 0), (iV 0), (iV 0)] 109 (0, 0)) fun VP M169 =>
 VO [(.slice (some ⟨VP, 0, none⟩) 1 1)] M169)
 (VO [(.slice (lM A164 0 (Int.toNat ((Lb : Nat) : Int)) 4) ((Int.toNat (if (20 : Int) < ((Bn : Nat) : Int) then 20 else ((Bn : Nat) : Int))) - 0) ((Int.toNat ((Lb : Nat) : Int)) - 0))] wv)) ∧
 ∀ junk170 : Nat → Value, ∀ VQ : Option Addr, ∀ Lc : Nat, ∀ K4 : Nat, ∀ Ov : Mem, (VO [(.slice VQ Lc K4)] Ov) → be Ov (.cells #[] 109 (0, 0)) fun k175 M176 =>
 ∃ VR : Nat → List Value → Mem → Prop, (∃ k178 : Nat, VR k178 [(.slice (some ⟨k175, 0, none⟩) 0 0), (iV 0)] M176) ∧
 ∀ Zf : Nat, ∀ junk180 : Nat → Value, ∀ VS : Option Addr, ∀ VT : Nat, ∀ Ow : Nat, ∀ DD : Int, ∀ Fi : Mem, (VR Zf [(.slice VS VT Ow), (iV DD)] Fi) → aV (decide ((DD : Int) < ((Lc : Nat) : Int)))
 (((0 : Int) ≤ DD) ∧
 ((DD : Int) < ((Lc : Nat) : Int)) ∧
 aG VQ fun Rd Re =>
 rI Fi Rd (Re + ((Int.toNat DD) * 4)) fun Ht =>
 rI Fi Rd ((Re + ((Int.toNat DD) * 4)) + 1) fun VU =>
 rI Fi Rd ((Re + ((Int.toNat DD) * 4)) + 2) fun VV =>
 rI Fi Rd ((Re + ((Int.toNat DD) * 4)) + 3) fun n191 =>
 be Fi (.cells #[(iV 0), (iV 0), (iV 0), (iV 0)] 109 (0, 0)) fun DA VW =>
 sT VW DA 0 (iV Ht) fun HF =>
 sT HF DA 1 (iV VU) fun M195 =>
 sT M195 DA 2 (iV VV) fun M196 =>
 sT M196 DA 3 (iV n191) fun uQ =>
 rS uQ k9 0 fun A198 k199 k200 =>
 rS uQ k9 1 fun A201 k202 k203 =>
 rI uQ k9 2 fun VX =>
 rS uQ k9 3 fun US UT Y6 =>
 rI uQ DA 0 fun VY =>
 rI uQ DA 1 fun VZ =>
 rI uQ DA 2 fun Ox =>
 rI uQ DA 3 fun V0 =>
 aa Tryz.prog 70 #[(.agg #[(.slice A198 k199 k200), (.slice A201 k202 k203), (iV VX), (.slice US UT Y6)]), (.slice VQ Lc K4), (.agg #[(iV VY), (iV VZ), (iV Ox), (iV V0)])] uQ (fun v212 UX =>
 ∃ Rf : Int, ∃ Rh : Int, ∃ Ri : Int, ∃ Zg : Int, (v212 = (.agg #[(iV Rf), (iV Rh), (iV Ri), (iV Zg)])) ∧
 be UX (.cells #[(iV Rf), (iV Rh), (iV Ri), (iV Zg)] 109 (0, 0)) fun Zh V1 =>
 aS Tryz.prog (Go.Builtin.append_ #[115, 115] 115 #[(.slice VS VT Ow), (.slice (some ⟨Zh, 0, none⟩) 1 1)]) V1 (fun v220 M221 =>
 aD (some v220) fun A222 U0 k224 =>
 ∃ Rj : Nat, (Rj < Zf) ∧
 VR Rj [(.slice A222 U0 k224), (iV (IntKind.wrap .i64 (DD + 1)))] M221) Kp) Kp)
 (rS Fi k9 0 fun U2 U3 k228 =>
 ((0 : Int) ≤ zI) ∧
 ((zI : Int) < ((U3 : Nat) : Int)) ∧
 aG U2 fun k229 U4 =>
 sT Fi k229 (U4 + (Int.toNat zI)) (.slice VS VT Ow) fun V2 =>
 ∃ Zi : Nat, (Zi < Ze) ∧
 VN Zi [(iV (IntKind.wrap .i64 (zI + 1)))] V2))
 (rS wv k9 0 fun A233 U5 k235 =>
 rS wv k9 1 fun A236 U6 k238 =>
 rI wv k9 2 fun n239 =>
 rS wv k9 3 fun A240 k241 k242 =>
 sT wv k3 0 (.slice A233 U5 k235) fun M243 =>
 sT M243 k3 1 (.slice A236 U6 k238) fun M244 =>
 sT M244 k3 2 (iV n239) fun M245 =>
 sT M245 k3 3 (.slice A240 k241 k242) fun Oy =>
 rS Oy k3 0 fun A247 Vc k249 =>
 rS Oy k3 1 fun A250 k251 k252 =>
 rI Oy k3 2 fun n253 =>
 rS Oy k3 3 fun A254 k255 Ve =>
 K (.agg #[(.slice A247 Vc k249), (.slice A250 k251 k252), (iV n253), (.slice A254 k255 Ve)]) Oy)) Kp) Kp) :
 aa Tryz.prog 35 ([.agg #[.slice jE jF jG, .slice jH jI jJ, .int .i64 fV, .slice jK jL jM]] : List Value).toArray M K Kp :=
 az (C := Cx) good [(1000000, .cut []), (2000000, .loop [(4, .c (.int .i64))]), (5, .EK [0, 1, 0, 4, 0, 28, 60, 124, 252, 511, 1023, 2047] (.step 0 (.step 2 (.step 4 (.step 3 (.step 5 (.step 6 (.fork 1 (.step 7 (.step 8 (.step 9 (.step 10 (.step 11 .done))))) (.fork 7 (.step 1 (.step 8 (.step 9 (.step 10 (.step 11 .done))))) .dead)))))))) []), (1000002, .cut []), (2000002, .loop [(5, .c (.int .i64))]), (10, .bT [0, 1, 3, 0, 8, 0, 32, 96, 255, 0, 512, 2047, 4095, 0, 16383] (.step 0 (.step 3 (.step 5 (.step 9 (.step 1 (.dJ 4 (.dJ 6 (.step 7 (.dJ 10 (.late 2 (.late 8 (.late 11 (.step 12 (.step 13 (.step 14 .done)))))))))))))))), (3000072, .cut []), (3000089, .cut [(8, .c .sl)]), (2000004, .loop [(99, .c (.int .i64))]), (3000111, .cut [(10, .c .sl)]), (2000006, .loop [(11, .c .sl), (117, .c (.int .i64))])] Tryz.func35 (by kernel_rfl) (by kernel_rfl) h
theorem sk {x0 : Int} {x1 : Int} (h :
aV (decide ((x1 : Int) < 1))
 (K (iV 0) M)
 (((x1 : Int) ≠ 0) ∧
 ((x1 : Int) ≠ 0) ∧
 K (iV (Int.tmod (IntKind.wrap .i64 ((Int.tmod x0 x1) + x1)) x1)) M)) :
 aa Tryz.prog 69 ([.int .i64 x0, .int .i64 x1] : List Value).toArray M K Kp :=
 az (C := Cx) good [] Tryz.func69 (by kernel_rfl) (by kernel_rfl) h
theorem so {jE : Option Addr} {jF jG : Nat} {jH : Option Addr} {jI jJ : Nat} {fV : Int} {jK : Option Addr} {jL jM : Nat} {B1 : Option Addr} {m1 c1 : Nat} {NO : Int} {NP : Int} {NQ : Int} {NR : Int} (h :
be M (.cells #[(.slice jE jF jG), (.slice jH jI jJ), (iV fV), (.slice jK jL jM)] 73 (0, 0)) fun k1 M2 =>
be M2 (.cells #[(iV NO), (iV NP), (iV NQ), (iV NR)] 109 (0, 0)) fun k3 M4 =>
be M4 (.cells #[(iV 0), (iV 0), (iV 0), (iV 0)] 109 (0, 0)) fun k5 M6 =>
rI M6 k3 0 fun n7 =>
aa Tryz.prog 69 #[(iV n7), (iV 23)] M6 (fun v8 M9 =>
aK (some v8) .i64 fun j9 =>
sT M9 k3 0 (iV j9) fun hH =>
rI hH k3 1 fun jf =>
rI hH k3 2 fun jg =>
rI hH k3 3 fun jc =>
aa Tryz.prog 69 #[(iV jf), (iV 8)] hH (fun Dh fh =>
aK (some Dh) .i64 fun iw =>
((Mem.ld fh ⟨k3, 3, none⟩) = (some (iV jc))) ∧
((Mem.ld fh ⟨k3, 2, none⟩) = (some (iV jg))) ∧
aa Tryz.prog 69 #[(iV jg), (iV 8)] fh (fun EW iq =>
aK (some EW) .i64 fun fI =>
((Mem.ld iq ⟨k3, 3, none⟩) = (some (iV jc))) ∧
((Mem.ld iq ⟨k3, 2, none⟩) = (some (iV jg))) ∧
aa Tryz.prog 69 #[(iV jc), (iV 8)] iq (fun YV cZ =>
aK (some YV) .i64 fun nX =>
((Mem.ld cZ ⟨k3, 3, none⟩) = (some (iV jc))) ∧
((Mem.ld cZ ⟨k3, 2, none⟩) = (some (iV jg))) ∧
rS cZ k1 0 fun G4 sU lT =>
rS cZ k1 1 fun SW lK kB =>
rS cZ k1 3 fun Gg nW tW =>
rI cZ k3 0 fun lI =>
aV (lI == 1)
 (rI cZ k3 2 fun QM =>
 sT cZ k5 0 (iV 1) fun qP =>
 sT qP k5 1 (iV iw) fun pA =>
 sT pA k5 2 (iV QM) fun Dl =>
 sT Dl k5 3 (iV 0) fun jZ =>
 rI jZ k5 0 fun Ji =>
 rI jZ k5 1 fun P8 =>
 rI jZ k5 2 fun S9 =>
 rI jZ k5 3 fun QN =>
 K (.agg #[(iV Ji), (iV P8), (iV S9), (iV QN)]) jZ)
 (aV (lI == 2)
 (sT cZ k5 0 (iV 2) fun vZ =>
 sT vZ k5 1 (iV iw) fun xy =>
 sT xy k5 2 (iV fI) fun lW =>
 sT lW k5 3 (iV 0) fun xz =>
 rI xz k5 0 fun BZ =>
 rI xz k5 1 fun xV =>
 rI xz k5 2 fun Ds =>
 rI xz k5 3 fun Ca =>
 K (.agg #[(iV BZ), (iV xV), (iV Ds), (iV Ca)]) xz)
 (aV (lI == 3)
 (rI cZ k3 0 fun Bg =>
 sT cZ k5 0 (iV Bg) fun Uh =>
 sT Uh k5 1 (iV iw) fun E9 =>
 sT E9 k5 2 (iV fI) fun EX =>
 sT EX k5 3 (iV nX) fun oD =>
 rI oD k5 0 fun Eg =>
 rI oD k5 1 fun Uk =>
 rI oD k5 2 fun EY =>
 rI oD k5 3 fun Dd =>
 K (.agg #[(iV Eg), (iV Uk), (iV EY), (iV Dd)]) oD)
 (aV (lI == 4)
 (rI cZ k3 0 fun Jl =>
 sT cZ k5 0 (iV Jl) fun ym =>
 sT ym k5 1 (iV iw) fun mW =>
 sT mW k5 2 (iV fI) fun xm =>
 sT xm k5 3 (iV nX) fun Ed =>
 rI Ed k5 0 fun vV =>
 rI Ed k5 1 fun QH =>
 rI Ed k5 2 fun YR =>
 rI Ed k5 3 fun Jq =>
 K (.agg #[(iV vV), (iV QH), (iV YR), (iV Jq)]) Ed)
 (aV (lI == 5)
 (rI cZ k3 0 fun S6 =>
 sT cZ k5 0 (iV S6) fun AI =>
 sT AI k5 1 (iV iw) fun Eb =>
 sT Eb k5 2 (iV fI) fun vW =>
 sT vW k5 3 (iV nX) fun zn =>
 rI zn k5 0 fun Ju =>
 rI zn k5 1 fun NG =>
 rI zn k5 2 fun NH =>
 rI zn k5 3 fun E0 =>
 K (.agg #[(iV Ju), (iV NG), (iV NH), (iV E0)]) zn)
 (aV (lI == 6)
 (rI cZ k3 0 fun Hq =>
 sT cZ k5 0 (iV Hq) fun Td =>
 sT Td k5 1 (iV iw) fun yw =>
 sT yw k5 2 (iV fI) fun NV =>
 sT NV k5 3 (iV nX) fun zo =>
 rI zo k5 0 fun SQ =>
 rI zo k5 1 fun KO =>
 rI zo k5 2 fun Bh =>
 rI zo k5 3 fun n86 =>
 K (.agg #[(iV SQ), (iV KO), (iV Bh), (iV n86)]) zo)
 (aV (lI == 7)
 (rI cZ k3 1 fun Za =>
 aa Tryz.prog 69 #[(iV Za), (iV ((m1 : Nat) : Int))] cZ (fun v88 Df =>
 aK (some v88) .i64 fun Mv =>
 sT Df k5 0 (iV 7) fun j0 =>
 sT j0 k5 1 (iV Mv) fun UD =>
 sT UD k5 2 (iV 0) fun zz =>
 sT zz k5 3 (iV 0) fun V3 =>
 rI V3 k5 0 fun B5 =>
 rI V3 k5 1 fun B6 =>
 rI V3 k5 2 fun n97 =>
 rI V3 k5 3 fun XG =>
 K (.agg #[(iV B5), (iV B6), (iV n97), (iV XG)]) V3) Kp)
 (aV (lI == 8)
 (rI cZ k3 2 fun KW =>
 aa Tryz.prog 69 #[(iV KW), (iV ((m1 : Nat) : Int))] cZ (fun Ot gO =>
 aK (some Ot) .i64 fun G1 =>
 sT gO k5 0 (iV 8) fun Ho =>
 sT Ho k5 1 (iV iw) fun G2 =>
 sT G2 k5 2 (iV G1) fun mY =>
 sT mY k5 3 (iV 0) fun y9 =>
 rI y9 k5 0 fun DC =>
 rI y9 k5 1 fun zp =>
 rI y9 k5 2 fun V4 =>
 rI y9 k5 3 fun E1 =>
 K (.agg #[(iV DC), (iV zp), (iV V4), (iV E1)]) y9) Kp)
 (aV (lI == 9)
 (rI cZ k3 1 fun KX =>
 rI cZ k3 0 fun uy =>
 aa Tryz.prog 69 #[(iV KX), (iV ((sU : Nat) : Int))] cZ (fun v113 tC =>
 aK (some v113) .i64 fun V5 =>
 ((Mem.ld tC ⟨k3, 0, none⟩) = (some (iV uy))) ∧
 sT tC k5 0 (iV uy) fun mC =>
 sT mC k5 1 (iV V5) fun wj =>
 sT wj k5 2 (iV fI) fun mD =>
 sT mD k5 3 (iV nX) fun x6 =>
 ((Mem.ld x6 ⟨k3, 0, none⟩) = (some (iV uy))) ∧
 rI x6 k5 0 fun zq =>
 rI x6 k5 1 fun zu =>
 rI x6 k5 2 fun NY =>
 rI x6 k5 3 fun VE =>
 K (.agg #[(iV zq), (iV zu), (iV NY), (iV VE)]) x6) Kp)
 (aV (lI == 11)
 (rI cZ k3 1 fun n124 =>
 rI cZ k3 0 fun HA =>
 aa Tryz.prog 69 #[(iV n124), (iV ((sU : Nat) : Int))] cZ (fun Ux KY =>
 aK (some Ux) .i64 fun x7 =>
 ((Mem.ld KY ⟨k3, 0, none⟩) = (some (iV HA))) ∧
 sT KY k5 0 (iV HA) fun VG =>
 sT VG k5 1 (iV x7) fun lq =>
 sT lq k5 2 (iV fI) fun DE =>
 sT DE k5 3 (iV nX) fun Ld =>
 ((Mem.ld Ld ⟨k3, 0, none⟩) = (some (iV HA))) ∧
 rI Ld k5 0 fun n133 =>
 rI Ld k5 1 fun Oz =>
 rI Ld k5 2 fun V6 =>
 rI Ld k5 3 fun V7 =>
 K (.agg #[(iV n133), (iV Oz), (iV V6), (iV V7)]) Ld) Kp)
 (aV (lI == 10)
 (rI cZ k3 0 fun VI =>
 sT cZ k5 0 (iV VI) fun N6 =>
 sT N6 k5 1 (iV iw) fun zx =>
 sT zx k5 2 (iV 0) fun Dy =>
 sT Dy k5 3 (iV 0) fun zB =>
 rI zB k5 0 fun Uy =>
 rI zB k5 1 fun V8 =>
 rI zB k5 2 fun N7 =>
 rI zB k5 3 fun N8 =>
 K (.agg #[(iV Uy), (iV V8), (iV N7), (iV N8)]) zB)
 (aV (lI == 17)
 (rI cZ k3 0 fun Fe =>
 sT cZ k5 0 (iV Fe) fun Fc =>
 sT Fc k5 1 (iV iw) fun Uz =>
 sT Uz k5 2 (iV 0) fun wm =>
 sT wm k5 3 (iV 0) fun OA =>
 rI OA k5 0 fun N1 =>
 rI OA k5 1 fun UA =>
 rI OA k5 2 fun n153 =>
 rI OA k5 3 fun Le =>
 K (.agg #[(iV N1), (iV UA), (iV n153), (iV Le)]) OA)
 (aV (lI == 20)
 (rI cZ k3 0 fun n155 =>
 sT cZ k5 0 (iV n155) fun V9 =>
 sT V9 k5 1 (iV iw) fun Wa =>
 sT Wa k5 2 (iV 0) fun Wb =>
 sT Wb k5 3 (iV 0) fun HG =>
 rI HG k5 0 fun zI =>
 rI HG k5 1 fun Wc =>
 rI HG k5 2 fun We =>
 rI HG k5 3 fun Wf =>
 K (.agg #[(iV zI), (iV Wc), (iV We), (iV Wf)]) HG)
 (aV (lI == 13)
 (aV (((lK : Nat) : Int) == 0)
 (sT cZ k5 0 (iV 0) fun Od =>
 sT Od k5 1 (iV 0) fun Oe =>
 sT Oe k5 2 (iV 0) fun Of =>
 sT Of k5 3 (iV 0) fun Dz =>
 rI Dz k5 0 fun n168 =>
 rI Dz k5 1 fun Og =>
 rI Dz k5 2 fun Oh =>
 rI Dz k5 3 fun Oi =>
 K (.agg #[(iV n168), (iV Og), (iV Oh), (iV Oi)]) Dz)
 (rI cZ k3 1 fun n172 =>
 rI cZ k3 0 fun Wg =>
 (True) ∧
 aa Tryz.prog 69 #[(iV n172), (iV ((lK : Nat) : Int))] cZ (fun v174 Zj =>
 aK (some v174) .i64 fun n176 =>
 ((Mem.ld Zj ⟨k3, 0, none⟩) = (some (iV Wg))) ∧
 be Zj (.cells #[(iV 0), (iV 0), (iV 0), (iV 0)] 109 (0, 0)) fun lu Wh =>
 sT Wh lu 0 (iV Wg) fun Fg =>
 sT Fg lu 1 (iV n176) fun M180 =>
 sT M180 lu 2 (iV 0) fun M181 =>
 sT M181 lu 3 (iV 0) fun Bo =>
 ((Mem.ld Bo ⟨k3, 0, none⟩) = (some (iV Wg))) ∧
 rI Bo k3 0 fun n183 =>
 aV (decide ((n183 : Int) < 15))
 (sT Bo lu 2 (iV fI) fun HH =>
 rI HH k3 0 fun Ol =>
 aV (Ol == 14)
 (sT HH lu 3 (iV nX) fun OB =>
 rI OB lu 0 fun n187 =>
 rI OB lu 1 fun Ht =>
 rI OB lu 2 fun VU =>
 rI OB lu 3 fun VV =>
 sT OB k5 0 (iV n187) fun M191 =>
 sT M191 k5 1 (iV Ht) fun Wi =>
 sT Wi k5 2 (iV VU) fun VW =>
 sT VW k5 3 (iV VV) fun HF =>
 rI HF k5 0 fun n195 =>
 rI HF k5 1 fun n196 =>
 rI HF k5 2 fun n197 =>
 rI HF k5 3 fun K6 =>
 K (.agg #[(iV n195), (iV n196), (iV n197), (iV K6)]) HF)
 (rI HH lu 0 fun n199 =>
 rI HH lu 1 fun n200 =>
 rI HH lu 2 fun K7 =>
 rI HH lu 3 fun Om =>
 sT HH k5 0 (iV n199) fun Rk =>
 sT Rk k5 1 (iV n200) fun Hu =>
 sT Hu k5 2 (iV K7) fun M205 =>
 sT M205 k5 3 (iV Om) fun HI =>
 rI HI k5 0 fun Wj =>
 rI HI k5 1 fun VY =>
 rI HI k5 2 fun VZ =>
 rI HI k5 3 fun Ox =>
 K (.agg #[(iV Wj), (iV VY), (iV VZ), (iV Ox)]) HI))
 (rI Bo k3 0 fun V0 =>
 aV (V0 == 14)
 (sT Bo lu 3 (iV nX) fun DB =>
 rI DB lu 0 fun n213 =>
 rI DB lu 1 fun Rf =>
 rI DB lu 2 fun Rh =>
 rI DB lu 3 fun Ri =>
 sT DB k5 0 (iV n213) fun Hv =>
 sT Hv k5 1 (iV Rf) fun M218 =>
 sT M218 k5 2 (iV Rh) fun V1 =>
 sT V1 k5 3 (iV Ri) fun HJ =>
 rI HJ k5 0 fun n221 =>
 rI HJ k5 1 fun n222 =>
 rI HJ k5 2 fun n223 =>
 rI HJ k5 3 fun U1 =>
 K (.agg #[(iV n221), (iV n222), (iV n223), (iV U1)]) HJ)
 (rI Bo lu 0 fun n225 =>
 rI Bo lu 1 fun n226 =>
 rI Bo lu 2 fun n227 =>
 rI Bo lu 3 fun n228 =>
 sT Bo k5 0 (iV n225) fun M229 =>
 sT M229 k5 1 (iV n226) fun M230 =>
 sT M230 k5 2 (iV n227) fun V2 =>
 sT V2 k5 3 (iV n228) fun OC =>
 rI OC k5 0 fun n233 =>
 rI OC k5 1 fun n234 =>
 rI OC k5 2 fun n235 =>
 rI OC k5 3 fun n236 =>
 K (.agg #[(iV n233), (iV n234), (iV n235), (iV n236)]) OC))) Kp))
 (aV (lI == 14)
 (aV (((lK : Nat) : Int) == 0)
 (sT cZ k5 0 (iV 0) fun M237 =>
 sT M237 k5 1 (iV 0) fun U7 =>
 sT U7 k5 2 (iV 0) fun U8 =>
 sT U8 k5 3 (iV 0) fun Hw =>
 rI Hw k5 0 fun n241 =>
 rI Hw k5 1 fun n242 =>
 rI Hw k5 2 fun U9 =>
 rI Hw k5 3 fun Va =>
 K (.agg #[(iV n241), (iV n242), (iV U9), (iV Va)]) Hw)
 (rI cZ k3 1 fun Vb =>
 rI cZ k3 0 fun Wl =>
 (True) ∧
 aa Tryz.prog 69 #[(iV Vb), (iV ((lK : Nat) : Int))] cZ (fun v247 Zk =>
 aK (some v247) .i64 fun n249 =>
 ((Mem.ld Zk ⟨k3, 0, none⟩) = (some (iV Wl))) ∧
 be Zk (.cells #[(iV 0), (iV 0), (iV 0), (iV 0)] 109 (0, 0)) fun lz M251 =>
 sT M251 lz 0 (iV Wl) fun M252 =>
 sT M252 lz 1 (iV n249) fun M253 =>
 sT M253 lz 2 (iV 0) fun Hx =>
 sT Hx lz 3 (iV 0) fun Bp =>
 ((Mem.ld Bp ⟨k3, 0, none⟩) = (some (iV Wl))) ∧
 rI Bp k3 0 fun n256 =>
 aV (decide ((n256 : Int) < 15))
 (sT Bp lz 2 (iV fI) fun HK =>
 rI HK k3 0 fun n258 =>
 aV (n258 == 14)
 (sT HK lz 3 (iV nX) fun OD =>
 rI OD lz 0 fun n260 =>
 rI OD lz 1 fun n261 =>
 rI OD lz 2 fun n262 =>
 rI OD lz 3 fun n263 =>
 sT OD k5 0 (iV n260) fun Vh =>
 sT Vh k5 1 (iV n261) fun Vi =>
 sT Vi k5 2 (iV n262) fun Vj =>
 sT Vj k5 3 (iV n263) fun zE =>
 rI zE k5 0 fun Vk =>
 rI zE k5 1 fun Vl =>
 rI zE k5 2 fun Vm =>
 rI zE k5 3 fun n271 =>
 K (.agg #[(iV Vk), (iV Vl), (iV Vm), (iV n271)]) zE)
 (rI HK lz 0 fun n272 =>
 rI HK lz 1 fun n273 =>
 rI HK lz 2 fun Vn =>
 rI HK lz 3 fun n275 =>
 sT HK k5 0 (iV n272) fun M276 =>
 sT M276 k5 1 (iV n273) fun M277 =>
 sT M277 k5 2 (iV Vn) fun M278 =>
 sT M278 k5 3 (iV n275) fun OE =>
 rI OE k5 0 fun n280 =>
 rI OE k5 1 fun n281 =>
 rI OE k5 2 fun Vo =>
 rI OE k5 3 fun n283 =>
 K (.agg #[(iV n280), (iV n281), (iV Vo), (iV n283)]) OE))
 (rI Bp k3 0 fun n284 =>
 aV (n284 == 14)
 (sT Bp lz 3 (iV nX) fun Hy =>
 rI Hy lz 0 fun n286 =>
 rI Hy lz 1 fun n287 =>
 rI Hy lz 2 fun n288 =>
 rI Hy lz 3 fun n289 =>
 sT Hy k5 0 (iV n286) fun Vp =>
 sT Vp k5 1 (iV n287) fun Vq =>
 sT Vq k5 2 (iV n288) fun Hz =>
 sT Hz k5 3 (iV n289) fun OF =>
 rI OF k5 0 fun Vr =>
 rI OF k5 1 fun Vs =>
 rI OF k5 2 fun n296 =>
 rI OF k5 3 fun n297 =>
 K (.agg #[(iV Vr), (iV Vs), (iV n296), (iV n297)]) OF)
 (rI Bp lz 0 fun n298 =>
 rI Bp lz 1 fun n299 =>
 rI Bp lz 2 fun n300 =>
 rI Bp lz 3 fun n301 =>
 sT Bp k5 0 (iV n298) fun M302 =>
 sT M302 k5 1 (iV n299) fun M303 =>
 sT M303 k5 2 (iV n300) fun M304 =>
 sT M304 k5 3 (iV n301) fun OG =>
 rI OG k5 0 fun n306 =>
 rI OG k5 1 fun n307 =>
 rI OG k5 2 fun n308 =>
 rI OG k5 3 fun n309 =>
 K (.agg #[(iV n306), (iV n307), (iV n308), (iV n309)]) OG))) Kp))
 (aV (lI == 15)
 (aV (((lK : Nat) : Int) == 0)
 (sT cZ k5 0 (iV 0) fun M310 =>
 sT M310 k5 1 (iV 0) fun M311 =>
 sT M311 k5 2 (iV 0) fun M312 =>
 sT M312 k5 3 (iV 0) fun OH =>
 rI OH k5 0 fun n314 =>
 rI OH k5 1 fun n315 =>
 rI OH k5 2 fun n316 =>
 rI OH k5 3 fun n317 =>
 K (.agg #[(iV n314), (iV n315), (iV n316), (iV n317)]) OH)
 (rI cZ k3 1 fun n318 =>
 rI cZ k3 0 fun Wm =>
 (True) ∧
 aa Tryz.prog 69 #[(iV n318), (iV ((lK : Nat) : Int))] cZ (fun v320 Zl =>
 aK (some v320) .i64 fun n322 =>
 ((Mem.ld Zl ⟨k3, 0, none⟩) = (some (iV Wm))) ∧
 be Zl (.cells #[(iV 0), (iV 0), (iV 0), (iV 0)] 109 (0, 0)) fun lA M324 =>
 sT M324 lA 0 (iV Wm) fun M325 =>
 sT M325 lA 1 (iV n322) fun M326 =>
 sT M326 lA 2 (iV 0) fun M327 =>
 sT M327 lA 3 (iV 0) fun Bq =>
 ((Mem.ld Bq ⟨k3, 0, none⟩) = (some (iV Wm))) ∧
 rI Bq k3 0 fun n329 =>
 aV (decide ((n329 : Int) < 15))
 (sT Bq lA 2 (iV fI) fun HL =>
 rI HL k3 0 fun n331 =>
 aV (n331 == 14)
 (sT HL lA 3 (iV nX) fun OI =>
 rI OI lA 0 fun n333 =>
 rI OI lA 1 fun n334 =>
 rI OI lA 2 fun n335 =>
 rI OI lA 3 fun n336 =>
 sT OI k5 0 (iV n333) fun M337 =>
 sT M337 k5 1 (iV n334) fun M338 =>
 sT M338 k5 2 (iV n335) fun M339 =>
 sT M339 k5 3 (iV n336) fun OJ =>
 rI OJ k5 0 fun n341 =>
 rI OJ k5 1 fun n342 =>
 rI OJ k5 2 fun n343 =>
 rI OJ k5 3 fun n344 =>
 K (.agg #[(iV n341), (iV n342), (iV n343), (iV n344)]) OJ)
 (rI HL lA 0 fun n345 =>
 rI HL lA 1 fun n346 =>
 rI HL lA 2 fun n347 =>
 rI HL lA 3 fun n348 =>
 sT HL k5 0 (iV n345) fun M349 =>
 sT M349 k5 1 (iV n346) fun M350 =>
 sT M350 k5 2 (iV n347) fun M351 =>
 sT M351 k5 3 (iV n348) fun OK =>
 rI OK k5 0 fun n353 =>
 rI OK k5 1 fun n354 =>
 rI OK k5 2 fun n355 =>
 rI OK k5 3 fun n356 =>
 K (.agg #[(iV n353), (iV n354), (iV n355), (iV n356)]) OK))
 (rI Bq k3 0 fun n357 =>
 aV (n357 == 14)
 (sT Bq lA 3 (iV nX) fun OL =>
 rI OL lA 0 fun n359 =>
 rI OL lA 1 fun n360 =>
 rI OL lA 2 fun n361 =>
 rI OL lA 3 fun n362 =>
 sT OL k5 0 (iV n359) fun M363 =>
 sT M363 k5 1 (iV n360) fun M364 =>
 sT M364 k5 2 (iV n361) fun M365 =>
 sT M365 k5 3 (iV n362) fun OM =>
 rI OM k5 0 fun n367 =>
 rI OM k5 1 fun n368 =>
 rI OM k5 2 fun n369 =>
 rI OM k5 3 fun n370 =>
 K (.agg #[(iV n367), (iV n368), (iV n369), (iV n370)]) OM)
 (rI Bq lA 0 fun n371 =>
 rI Bq lA 1 fun n372 =>
 rI Bq lA 2 fun n373 =>
 rI Bq lA 3 fun n374 =>
 sT Bq k5 0 (iV n371) fun M375 =>
 sT M375 k5 1 (iV n372) fun M376 =>
 sT M376 k5 2 (iV n373) fun M377 =>
 sT M377 k5 3 (iV n374) fun ON =>
 rI ON k5 0 fun n379 =>
 rI ON k5 1 fun n380 =>
 rI ON k5 2 fun n381 =>
 rI ON k5 3 fun n382 =>
 K (.agg #[(iV n379), (iV n380), (iV n381), (iV n382)]) ON))) Kp))
 (aV (lI == 16)
 (aV (((nW : Nat) : Int) == 0)
 (sT cZ k5 0 (iV 0) fun M383 =>
 sT M383 k5 1 (iV 0) fun M384 =>
 sT M384 k5 2 (iV 0) fun M385 =>
 sT M385 k5 3 (iV 0) fun OO =>
 rI OO k5 0 fun n387 =>
 rI OO k5 1 fun n388 =>
 rI OO k5 2 fun n389 =>
 rI OO k5 3 fun n390 =>
 K (.agg #[(iV n387), (iV n388), (iV n389), (iV n390)]) OO)
 (rI cZ k3 1 fun n391 =>
 aa Tryz.prog 69 #[(iV n391), (iV ((nW : Nat) : Int))] cZ (fun v392 Zm =>
 aK (some v392) .i64 fun Zn =>
 rI Zm k3 2 fun n395 =>
 aa Tryz.prog 69 #[(iV n395), (iV (IntKind.wrap .i64 (((nW : Nat) : Int) - Zn)))] Zm (fun v396 M397 =>
 aK (some v396) .i64 fun n398 =>
 sT M397 k5 0 (iV 16) fun M399 =>
 sT M399 k5 1 (iV Zn) fun M400 =>
 sT M400 k5 2 (iV (IntKind.wrap .i64 (1 + n398))) fun M401 =>
 sT M401 k5 3 (iV nX) fun OP =>
 rI OP k5 0 fun n403 =>
 rI OP k5 1 fun n404 =>
 rI OP k5 2 fun n405 =>
 rI OP k5 3 fun n406 =>
 K (.agg #[(iV n403), (iV n404), (iV n405), (iV n406)]) OP) Kp) Kp))
 (aV (lI == 18)
 (rI cZ k1 2 fun n407 =>
 aV (n407 == 0)
 (sT cZ k5 0 (iV 0) fun M408 =>
 sT M408 k5 1 (iV 0) fun M409 =>
 sT M409 k5 2 (iV 0) fun M410 =>
 sT M410 k5 3 (iV 0) fun OQ =>
 rI OQ k5 0 fun n412 =>
 rI OQ k5 1 fun n413 =>
 rI OQ k5 2 fun n414 =>
 rI OQ k5 3 fun n415 =>
 K (.agg #[(iV n412), (iV n413), (iV n414), (iV n415)]) OQ)
 (rI cZ k3 1 fun n416 =>
 rI cZ k1 2 fun n417 =>
 rI cZ k3 0 fun Wn =>
 aa Tryz.prog 69 #[(iV n416), (iV n417)] cZ (fun v419 Zo =>
 aK (some v419) .i64 fun n421 =>
 ((Mem.ld Zo ⟨k3, 0, none⟩) = (some (iV Wn))) ∧
 sT Zo k5 0 (iV Wn) fun M422 =>
 sT M422 k5 1 (iV n421) fun M423 =>
 sT M423 k5 2 (iV 0) fun M424 =>
 sT M424 k5 3 (iV 0) fun Lf =>
 ((Mem.ld Lf ⟨k3, 0, none⟩) = (some (iV Wn))) ∧
 rI Lf k5 0 fun n426 =>
 rI Lf k5 1 fun n427 =>
 rI Lf k5 2 fun n428 =>
 rI Lf k5 3 fun n429 =>
 K (.agg #[(iV n426), (iV n427), (iV n428), (iV n429)]) Lf) Kp))
 (aV (lI == 19)
 (rI cZ k1 2 fun n430 =>
 aV (n430 == 0)
 (sT cZ k5 0 (iV 0) fun M431 =>
 sT M431 k5 1 (iV 0) fun M432 =>
 sT M432 k5 2 (iV 0) fun M433 =>
 sT M433 k5 3 (iV 0) fun OR =>
 rI OR k5 0 fun n435 =>
 rI OR k5 1 fun n436 =>
 rI OR k5 2 fun n437 =>
 rI OR k5 3 fun n438 =>
 K (.agg #[(iV n435), (iV n436), (iV n437), (iV n438)]) OR)
 (rI cZ k3 1 fun n439 =>
 rI cZ k1 2 fun n440 =>
 rI cZ k3 0 fun Wo =>
 aa Tryz.prog 69 #[(iV n439), (iV n440)] cZ (fun v442 Zp =>
 aK (some v442) .i64 fun n444 =>
 ((Mem.ld Zp ⟨k3, 0, none⟩) = (some (iV Wo))) ∧
 sT Zp k5 0 (iV Wo) fun M445 =>
 sT M445 k5 1 (iV n444) fun M446 =>
 sT M446 k5 2 (iV 0) fun M447 =>
 sT M447 k5 3 (iV 0) fun Lg =>
 ((Mem.ld Lg ⟨k3, 0, none⟩) = (some (iV Wo))) ∧
 rI Lg k5 0 fun n449 =>
 rI Lg k5 1 fun n450 =>
 rI Lg k5 2 fun n451 =>
 rI Lg k5 3 fun n452 =>
 K (.agg #[(iV n449), (iV n450), (iV n451), (iV n452)]) Lg) Kp))
 (aV (lI == 21)
 (rI cZ k3 2 fun n453 =>
 aa Tryz.prog 69 #[(iV n453), (iV 1000)] cZ (fun v454 M455 =>
 aK (some v454) .i64 fun n456 =>
 sT M455 k5 0 (iV 21) fun M457 =>
 sT M457 k5 1 (iV iw) fun M458 =>
 sT M458 k5 2 (iV (IntKind.wrap .i64 (1 + n456))) fun M459 =>
 sT M459 k5 3 (iV 0) fun OS =>
 rI OS k5 0 fun n461 =>
 rI OS k5 1 fun n462 =>
 rI OS k5 2 fun n463 =>
 rI OS k5 3 fun n464 =>
 K (.agg #[(iV n461), (iV n462), (iV n463), (iV n464)]) OS) Kp)
 (aV (lI == 22)
 (rI cZ k3 1 fun n465 =>
 aa Tryz.prog 69 #[(iV n465), (iV 1000)] cZ (fun v466 M467 =>
 aK (some v466) .i64 fun n468 =>
 sT M467 k5 0 (iV 22) fun M469 =>
 sT M469 k5 1 (iV n468) fun M470 =>
 sT M470 k5 2 (iV 0) fun M471 =>
 sT M471 k5 3 (iV 0) fun OT =>
 rI OT k5 0 fun n473 =>
 rI OT k5 1 fun n474 =>
 rI OT k5 2 fun n475 =>
 rI OT k5 3 fun n476 =>
 K (.agg #[(iV n473), (iV n474), (iV n475), (iV n476)]) OT) Kp)
 (rI cZ k3 0 fun n477 =>
 sT cZ k5 0 (iV n477) fun M478 =>
 sT M478 k5 1 (iV 0) fun M479 =>
 sT M479 k5 2 (iV 0) fun M480 =>
 sT M480 k5 3 (iV 0) fun OU =>
 rI OU k5 0 fun n482 =>
 rI OU k5 1 fun n483 =>
 rI OU k5 2 fun n484 =>
 rI OU k5 3 fun n485 =>
 K (.agg #[(iV n482), (iV n483), (iV n484), (iV n485)]) OU)))))))))))))))))))))) Kp) Kp) Kp) Kp) :
 aa Tryz.prog 70 ([.agg #[.slice jE jF jG, .slice jH jI jJ, .int .i64 fV, .slice jK jL jM], .slice B1 m1 c1, .agg #[.int .i64 NO, .int .i64 NP, .int .i64 NQ, .int .i64 NR]] : List Value).toArray M K Kp :=
 az (C := Cx) good [(2, .bT [0, 1, 3, 0, 8, 31, 0, 64, 255, 511, 1023, 2047] (.step 0 (.step 3 (.step 6 (.step 1 (.dJ 4 (.dJ 7 (.step 2 (.step 5 (.step 8 (.step 9 (.step 10 (.step 11 .done))))))))))))), (3, .bT [0, 1, 3, 0, 8, 24, 0, 64, 192, 7, 575, 2047] (.step 0 (.step 3 (.step 6 (.step 1 (.step 2 (.step 9 (.step 4 (.step 5 (.step 10 (.step 7 (.step 8 (.step 11 .done))))))))))))), (20, .bT [0, 1, 0, 4, 0, 28, 0, 0, 255, 511] (.step 0 (.step 2 (.step 4 (.step 6 (.step 7 (.step 3 (.dJ 1 (.step 5 (.step 8 (.step 9 .done))))))))))), (30, .bT [0, 1, 0, 4, 0, 28, 63, 0, 255] (.step 0 (.step 2 (.step 4 (.step 3 (.dJ 1 (.late 5 (.step 6 (.step 7 (.step 8 .done)))))))))), (45, .bT [0, 1, 0, 4, 0, 16, 60, 127, 255] (.step 0 (.step 2 (.step 4 (.step 3 (.step 5 (.dJ 1 (.step 6 (.step 7 (.step 8 .done))))))))))] Tryz.func70 (by kernel_rfl) (by kernel_rfl) h
end Go.Proofs
namespace Go.Proofs
open Go.AF
set_option maxRecDepth 100000
theorem sq {x0 : Int} {M : Mem} {K : Value → Mem → Prop} {Kp : List PanicEntry → Mem → Prop} (h :
be M (.cells #[(iV 0), (.slice none 0 0), (.slice none 0 0), (.slice none 0 0), (.bool false)] 190 (0, 0)) fun k1 M2 =>
sT M2 k1 0 (iV (if ((if (16 : Int) < x0 then 16 else x0) : Int) > 0 then (if (16 : Int) < x0 then 16 else x0) else 0)) fun M3 =>
sT M3 k1 1 (.slice none 0 0) fun M4 =>
sT M4 k1 2 (.slice none 0 0) fun M5 =>
sT M5 k1 3 (.slice none 0 0) fun M6 =>
sT M6 k1 4 (.bool false) fun M7 =>
rI M7 k1 0 fun n8 =>
rS M7 k1 1 fun A9 dP eL =>
rS M7 k1 2 fun sE dm gq =>
rS M7 k1 3 fun qO dO eT =>
cJ (Mem.ld M7 ⟨k1, 4, none⟩) fun t18 =>
K (.agg #[(iV n8), (.slice A9 dP eL), (.slice sE dm gq), (.slice qO dO eT), (.bool t18)]) M7) :
 aa Tryz.prog 75 ([.int .i64 x0] : List Value).toArray M K Kp :=
 az (C := Cx) good [] Tryz.func75 (by kernel_rfl) (by kernel_rfl) h
end Go.Proofs
namespace Go.Proofs
open Go.AF
set_option maxRecDepth 100000
set_option maxHeartbeats 1000000
attribute [local irreducible] aK cJ fJ bO aD fz aG aO be aS bJ aV
def xB (R : Mem) (vs : List Value) (c : aX) : Prop := ∃ A ca B cb D cd, vs = [.int .i64 (c.room : Int), .slice A c.buf.length ca, .slice B c.snd.length cb, .slice D c.eI.length cd, .bool c.closed] ∧
 RS bl R A ca c.buf ∧ RS gQ R B cb c.snd ∧ RS gQ R D cd c.eI
theorem xB.le {R R' : Mem} {vs : List Value} {c : aX} (h : xB R vs c) (hle : R.le R') : xB R' vs c := by
 obtain ⟨A, ca, B, cb, D, cd, e, h1, h2, h3⟩ := h
 exact ⟨A, ca, B, cb, D, cd, e, h1.le hle, h2.le hle, h3.le hle⟩
section
variable {R : Mem} {L L' : List HP} {M : Mem} {K : Value → Mem → Prop} {Kp : List PanicEntry → Mem → Prop} {c : aX} {vs : List Value}
theorem Cd {room : Int} (h : Hp R L M) (k : ∀ vs M', Hp R L M' → xB R vs (.new room) → K (.agg vs.toArray) M') : aa Tryz.prog 75 #[.int .i64 room] M K Kp := by
 refine sq ?_
 repeat (first | (refine aq h ?_; clear h; intro kb M h) | (refine av h ?_; clear h; intro M h) | refine St.to h ?_ | (apply Exists.intro; (repeat apply Exists.intro); refine And.intro rfl ?_) | (refine And.intro ?_ ?_; first | exact rfl | ((repeat (refine ay (aA h) ?_)); exact ae) | omega) | refine ai ?_ | refine aj ?_)
 have e : (if (if (16 : Int) < room then 16 else room) > 0 then (if (16 : Int) < room then 16 else room) else 0) = ((y5 room : Nat) : Int) := by unfold y5; omega
 rw [e] at h ⊢
 exact k _ _ h.vS ⟨none, 0, none, 0, none, 0, rfl, RS.nil _ _, RS.nil _ _, RS.nil _ _⟩
end
structure RC where
 room : Int
 A : Option Addr
 na : Nat
 ca : Nat
 B : Option Addr
 nb : Nat
 cb : Nat
 D : Option Addr
 nd : Nat
 cd : Nat
 closed : Bool
def Wp : gp RC := ⟨5, fun w => [.int .i64 w.room, .slice w.A w.na w.ca, .slice w.B w.nb w.cb, .slice w.D w.nd w.cd, .bool w.closed], fun _ => rfl, fun w v hv => by
 simp only [List.mem_cons, List.not_mem_nil, or_false] at hv; obtain rfl | rfl | rfl | rfl | rfl := hv <;> rfl⟩
def Rl (R : Mem) (r : RC) (c : aX) : Prop := xB R (Wp.f r) c
theorem Rl.le {R R' : Mem} {r : RC} {c : aX} (h : Rl R r c) (hle : R.le R') : Rl R' r c := xB.le h hle
theorem xB.rc {R : Mem} {vs : List Value} {c : aX} (h : xB R vs c) : ∃ r, vs = Wp.f r ∧ Rl R r c := by
 obtain ⟨A, ca, B, cb, D, cd, rfl, q1, q2, q3⟩ := id h
 exact ⟨⟨c.room, A, c.buf.length, ca, B, c.snd.length, cb, D, c.eI.length, cd, c.closed⟩, rfl, h⟩
theorem Rl.eq {R : Mem} {r : RC} {c : aX} (h : Rl R r c) : ∃ A ca B cb D cd, r = ⟨c.room, A, c.buf.length, ca, B, c.snd.length, cb, D, c.eI.length, cd, c.closed⟩ ∧ RS bl R A ca c.buf ∧ RS gQ R B cb c.snd ∧ RS gQ R D cd c.eI := by
 obtain ⟨A, ca, B, cb, D, cd, e, q1, q2, q3⟩ := h
 obtain ⟨e0, e1, e2, e3, e4, e5, e6, e7, e8, e9, e10⟩ := r
 simp only [Wp, List.cons.injEq, Value.int.injEq, Value.slice.injEq, Value.bool.injEq, and_true, true_and] at e
 obtain ⟨rfl, ⟨rfl, rfl, rfl⟩, ⟨rfl, rfl, rfl⟩, ⟨rfl, rfl, rfl⟩, rfl⟩ := e
 exact ⟨_, _, _, _, _, _, rfl, q1, q2, q3⟩
def HM (R : Mem) (xs : List RC) (cs : List aX) : Prop := xs.length = cs.length ∧ ∀ (i : Nat) (r : RC) (c : aX), xs[i]? = some r → cs[i]? = some c → Rl R r c
theorem HM.le {R R' : Mem} {xs : List RC} {cs : List aX} (h : HM R xs cs) (hle : R.le R') : HM R' xs cs := ⟨h.1, fun i r c h1 h2 => (h.2 i r c h1 h2).le hle⟩
theorem HM.nil (R : Mem) : HM R [] [] := ⟨rfl, fun i r c h => by simp at h⟩
theorem HM.snoc {R : Mem} {xs : List RC} {cs : List aX} {r : RC} {c : aX} (h : HM R xs cs) (hr : Rl R r c) : HM R (xs ++ [r]) (cs ++ [c]) := by
 refine ⟨by simp [h.1], fun i r' c' h1 h2 => ?_⟩
 rcases Nat.lt_or_ge i xs.length with hl | hl
 ·rw [List.getElem?_append_left hl] at h1; rw [List.getElem?_append_left (by rw [← h.1]; exact hl)] at h2; exact h.2 i _ _ h1 h2
 ·rw [List.getElem?_append_right hl] at h1; rw [List.getElem?_append_right (by rw [← h.1]; exact hl)] at h2
  have : i - xs.length = 0 := by
   obtain ⟨hh, _⟩ := List.getElem?_eq_some_iff.1 h1; simp at hh; omega
  rw [this] at h1; rw [← h.1, this] at h2
  cases h1; cases h2; exact hr
theorem HM.set {R : Mem} {xs : List RC} {cs : List aX} {r : RC} {c : aX} (h : HM R xs cs) (i : Nat) (hr : Rl R r c) : HM R (xs.set i r) (cs.set i c) := by
 refine ⟨by simp [h.1], fun j r' c' h1 h2 => ?_⟩
 rw [List.getElem?_set] at h1 h2
 split at h1
 ·rename_i e; rw [if_pos e] at h2
  split at h1
  ·split at h2
   ·cases h1; cases h2; exact hr
   ·cases h2
  ·cases h1
 ·rename_i e; rw [if_neg e] at h2; exact h.2 j _ _ h1 h2
end Go.Proofs
namespace Go.Proofs
open Go.AF
set_option maxRecDepth 100000
theorem pb {x0 : Int} {x1 : Int} {M : Mem} {K : Value → Mem → Prop} {Kp : List PanicEntry → Mem → Prop} (h :
be M (.cells #[(iV 0), (iV 0), (iV 0), (iV 0), (iV 0), (iV 0), (iV 0), (iV 0), (iV 0), (iV 0), (iV 0)] 114 (0, 0)) fun k1 M2 =>
sT M2 k1 0 (iV x0) fun M3 =>
sT M3 k1 1 (iV 0) fun M4 =>
sT M4 k1 2 (iV 0) fun M5 =>
sT M5 k1 3 (iV 0) fun M6 =>
sT M6 k1 4 (iV 0) fun M7 =>
sT M7 k1 5 (iV 0) fun M8 =>
sT M8 k1 6 (iV 0) fun M9 =>
sT M9 k1 7 (iV 0) fun gV =>
sT gV k1 8 (iV 0) fun hH =>
sT hH k1 9 (iV 0) fun ja =>
sT ja k1 10 (iV 0) fun j7 =>
((0 : Int) ≤ 0) ∧
((0 : Int) < 8) ∧
sT j7 k1 (2 + 0) (iV x1) fun iC =>
rI iC k1 0 fun jY =>
rI iC k1 1 fun mB =>
rI iC k1 2 fun iw =>
rI iC k1 3 fun kL =>
rI iC k1 4 fun xo =>
rI iC k1 5 fun fI =>
rI iC k1 6 fun nT =>
rI iC k1 7 fun sC =>
rI iC k1 8 fun nX =>
rI iC k1 9 fun xT =>
rI iC k1 10 fun mJ =>
be iC (.cells #[(iV jY), (iV mB), (iV iw), (iV kL), (iV xo), (iV fI), (iV nT), (iV sC), (iV nX), (iV xT), (iV mJ)] 114 (0, 0)) fun lT sD =>
K (.slice (some ⟨lT, 0, none⟩) 1 1) sD) :
 aa Tryz.prog 74 ([.int .i64 x0, .int .i64 x1] : List Value).toArray M K Kp :=
 az (C := Cx) good [] Tryz.func74 (by kernel_rfl) (by kernel_rfl) h
theorem sr {jE : Option Addr} {jF jG : Nat} {jH : Option Addr} {jI jJ : Nat} {fV : Int} {jK : Option Addr} {jL jM : Nat} {M : Mem} {K : Value → Mem → Prop} {Kp : List PanicEntry → Mem → Prop} (h :
be M (.cells #[(.slice jE jF jG), (.slice jH jI jJ), (iV fV), (.slice jK jL jM)] 73 (0, 0)) fun k1 M2 =>
be M2 (.cells #[(.slice none 0 0), (.slice none 0 0), (iV 0), (.slice none 0 0), (.slice none 0 0), (.int .u64 0), (.slice none 0 0), (.slice none 0 0), (.slice none 0 0), (.int .u64 0), (.slice none 0 0), (iV 0), (iV 0), (.slice none 0 0)] 81 (0, 0)) fun k3 M4 =>
rS M4 k1 0 fun A5 k6 k7 =>
rS M4 k1 1 fun A8 k9 dP =>
rI M4 k1 2 fun fA =>
rS M4 k1 3 fun sE dm gq =>
(True) ∧
aa Tryz.prog 74 #[(iV 0), (iV 0)] M4 (fun Dh fh =>
aD (some Dh) fun Mk en jd =>
((Mem.fm fh ⟨k1, 0, none⟩ 0 4) = some [(.slice A5 k6 k7), (.slice A8 k9 dP), (iV fA), (.slice sE dm gq)]) ∧
be fh (.cells #[(iV 1), (.slice Mk en jd), (iV 0), (iV 0), (iV 0), (iV 0)] 111 (0, 0)) fun iA je =>
be je (.cells #[(.slice none 0 0), (.slice none 0 0), (iV 0), (.slice none 0 0), (.slice none 0 0), (.int .u64 0), (.slice none 0 0), (.slice none 0 0), (.slice none 0 0), (.int .u64 0), (.slice none 0 0), (iV 0), (iV 0), (.slice none 0 0)] 81 (0, 0)) fun gJ lg =>
Kc lg gJ 0 [(.slice A5 k6 k7), (.slice A8 k9 dP), (iV fA), (.slice sE dm gq), (.slice (some ⟨iA, 0, none⟩) 1 1), (.int .u64 0), (.slice none 0 0), (.slice none 0 0), (.slice none 0 0), (.int .u64 0), (.slice none 0 0), (iV 0), (iV 0), (.slice none 0 0)] 14 fun iz =>
((Mem.fm iz ⟨k1, 0, none⟩ 0 4) = some [(.slice A5 k6 k7), (.slice A8 k9 dP), (iV fA), (.slice sE dm gq)]) ∧
rS iz k1 1 fun KK lT oN =>
∃ I28 : Nat → List Value → Mem → Prop, (∃ kB : Nat, I28 kB [(iV 0)] iz) ∧
∀ lJ : Nat, ∀ junk31 : Nat → Value, ∀ n32 : Int, ∀ uz : Mem, (I28 lJ [(iV n32)] uz) → aV (decide ((n32 : Int) < ((lT : Nat) : Int)))
 (((0 : Int) ≤ n32) ∧
 ((n32 : Int) < ((lT : Nat) : Int)) ∧
 aG KK fun uw sW =>
 rI uz uw (sW + (Int.toNat n32)) fun yq =>
 ∃ J37 : List Value → Mem → Prop, ((rS uz gJ 6 fun Ur tX AX =>
 aa Tryz.prog 75 #[(iV yq)] uz (fun XL KR =>
 ∃ Ea : Int, ∃ A44 : Option Addr, ∃ Mi : Nat, ∃ Jj : Nat, ∃ A47 : Option Addr, ∃ E8 : Nat, ∃ Mn : Nat, ∃ Ut : Option Addr, ∃ Hh : Nat, ∃ jX : Nat, ∃ t53 : Bool, (XL = (.agg #[(iV Ea), (.slice A44 Mi Jj), (.slice A47 E8 Mn), (.slice Ut Hh jX), (.bool t53)])) ∧
 be KR (.cells #[(iV Ea), (.slice A44 Mi Jj), (.slice A47 E8 Mn), (.slice Ut Hh jX), (.bool t53)] 190 (0, 0)) fun De oD =>
 aS Tryz.prog (Go.Builtin.append_ #[75, 75] 75 #[(.slice Ur tX AX), (.slice (some ⟨De, 0, none⟩) 1 1)]) oD (fun v56 vU =>
 aD (some v56) fun A58 T8 Wq =>
 sT vU gJ 6 (.slice A58 T8 Wq) fun ym =>
 J37 [] ym) Kp) Kp) ∧
 (aa Tryz.prog 75 #[(iV yq)] uz (fun Ug xm =>
 ∃ n64 : Int, ∃ Q2 : Option Addr, ∃ Gj : Nat, ∃ xX : Nat, ∃ Zq : Option Addr, ∃ K0 : Nat, ∃ zk : Nat, ∃ KV : Option Addr, ∃ Jt : Nat, ∃ NU : Nat, ∃ t74 : Bool, (Ug = (.agg #[(iV n64), (.slice Q2 Gj xX), (.slice Zq K0 zk), (.slice KV Jt NU), (.bool t74)])) ∧
 rS xm gJ 6 fun XQ Qb Mr =>
 be xm (.cells #[(iV n64), (.slice Q2 Gj xX), (.slice Zq K0 zk), (.slice KV Jt NU), (.bool t74)] 190 (0, 0)) fun KU Td =>
 aS Tryz.prog (Go.Builtin.append_ #[75, 75] 75 #[(.slice XQ Qb Mr), (.slice (some ⟨KU, 0, none⟩) 1 1)]) Td (fun v80 NV =>
 aD (some v80) fun A82 x5 XO =>
 sT NV gJ 6 (.slice A82 x5 XO) fun YX =>
 J37 [] YX) Kp) Kp) ∧
 True) ∧
 ∀ junk86 : Nat → Value, ∀ AJ : Mem, (J37 [] AJ) → ∃ Dp : Nat, (Dp < lJ) ∧
 I28 Dp [(iV (IntKind.wrap .i64 (n32 + 1)))] AJ)
 (rI uz k1 2 fun Mw =>
 aS Tryz.prog (Go.Instr.makeSlice 76 (iV Mw) (iV Mw)) uz (fun NS j0 =>
 aD (some NS) fun Um NX QW =>
 sT j0 gJ 7 (.slice Um NX QW) fun Fh =>
 IT (Mem.fm Fh ⟨gJ, 0, none⟩ 0 14) fun l96 =>
 Kc Fh k3 0 l96 14 fun Mt =>
 IT (Mem.fm Mt ⟨k3, 0, none⟩ 0 14) fun l98 =>
 K (.agg (l98.toArray)) Mt) Kp)) Kp) :
 aa Tryz.prog 37 ([.agg #[.slice jE jF jG, .slice jH jI jJ, .int .i64 fV, .slice jK jL jM]] : List Value).toArray M K Kp :=
 az (C := Cx) good [(1, .bT [0, 0, 2, 6, 15, 0, 63] (.dJ 0 (.late 1 (.step 2 (.step 3 (.step 4 (.step 5 (.step 6 .done)))))))), (2000000, .loop [(14, .c (.int .i64))]), (5, .EK [0, 1, 0, 4, 12, 31, 63, 127] (.step 0 (.step 2 (.fork 1 (.step 3 (.step 4 (.step 5 (.step 6 (.step 7 .done))))) (.fork 3 (.step 1 (.step 4 (.step 5 (.step 6 (.step 7 .done))))) .dead)))) [])] Tryz.func37 (by kernel_rfl) (by kernel_rfl) h
theorem su {jE : Option Addr} {jF jG : Nat} {jH : Option Addr} {jI jJ : Nat} {fV : Int} {jK : Option Addr} {jL jM : Nat} {dh : Int} {di : Int} {dk : Int} {eX : Int} {Zr : Option Addr} {Zs Zt : Nat} {Zu : Option Addr} {Zv Zw : Nat} {Zx : Bool} {Zy : Bool} {Zz : Option Addr} {ZA ZB : Nat} {M : Mem} {K : Value → Mem → Prop} {Kp : List PanicEntry → Mem → Prop} (h :
be M (.cells #[(.slice jE jF jG), (.slice jH jI jJ), (iV fV), (.slice jK jL jM)] 73 (0, 0)) fun k1 M2 =>
be M2 (.cells #[(iV dh), (iV di), (iV dk), (iV eX)] 23 (0, 0)) fun k3 M4 =>
be M4 (.cells #[(.slice Zr Zs Zt), (.slice Zu Zv Zw), (.bool Zx), (.bool Zy), (.slice Zz ZA ZB)] 86 (0, 0)) fun k5 M6 =>
be M6 (.cells #[(iV 0), (iV 0), (iV 0), (iV 0), (.slice none 0 0), (.slice none 0 0), (iV 0), (.slice none 0 0), (.slice none 0 0), (.int .u64 0), (.slice none 0 0), (.slice none 0 0), (.slice none 0 0), (.int .u64 0), (.slice none 0 0), (iV 0), (iV 0), (.slice none 0 0), (.slice none 0 0), (.slice none 0 0), (.slice none 0 0), (.slice none 0 0), (.slice none 0 0), (.bool false), (.bool false), (.slice none 0 0), (iV 0)] 88 (0, 0)) fun k7 M8 =>
rS M8 k1 0 fun A9 dP eL =>
rS M8 k1 1 fun sE dm gq =>
rI M8 k1 2 fun jY =>
rS M8 k1 3 fun SZ eT en =>
rI M8 k3 0 fun xo =>
rI M8 k3 1 fun fI =>
rI M8 k3 2 fun nT =>
rI M8 k3 3 fun sC =>
rS M8 k5 0 fun P4 ri sU =>
rS M8 k5 1 fun Gk oN lK =>
cJ (Mem.ld M8 ⟨k5, 2, none⟩) fun t29 =>
cJ (Mem.ld M8 ⟨k5, 3, none⟩) fun t30 =>
rS M8 k5 4 fun QK tW jA =>
(True) ∧
(True) ∧
aa Tryz.prog 37 #[(.agg #[(.slice A9 dP eL), (.slice sE dm gq), (iV jY), (.slice SZ eT en)])] M8 (fun v34 qP =>
∃ v36 : Value, ∃ SX : Value, ∃ v38 : Value, ∃ v39 : Value, ∃ Jp : Value, ∃ XL : Value, ∃ v42 : Value, ∃ v43 : Value, ∃ Te : Value, ∃ XJ : Value, ∃ XP : Value, ∃ v47 : Value, ∃ v48 : Value, ∃ Jk : Value, (v34 = (.agg #[v36, SX, v38, v39, Jp, XL, v42, v43, Te, XJ, XP, v47, v48, Jk])) ∧
((Mem.fm qP ⟨k5, 0, none⟩ 0 5) = some [(.slice P4 ri sU), (.slice Gk oN lK), (.bool t29), (.bool t30), (.slice QK tW jA)]) ∧
((Mem.fm qP ⟨k3, 0, none⟩ 0 4) = some [(iV xo), (iV fI), (iV nT), (iV sC)]) ∧
be qP (.cells #[(iV 0)] 3 (0, 0)) fun y8 M51 =>
be M51 (.cells #[(iV 0), (iV 0), (iV 0), (iV 0), (.slice none 0 0), (.slice none 0 0), (iV 0), (.slice none 0 0), (.slice none 0 0), (.int .u64 0), (.slice none 0 0), (.slice none 0 0), (.slice none 0 0), (.int .u64 0), (.slice none 0 0), (iV 0), (iV 0), (.slice none 0 0), (.slice none 0 0), (.slice none 0 0), (.slice none 0 0), (.slice none 0 0), (.slice none 0 0), (.bool false), (.bool false), (.slice none 0 0), (iV 0)] 88 (0, 0)) fun jX E9 =>
Kc E9 jX 0 [(iV xo), (iV fI), (iV nT), (iV sC), v36, SX, v38, v39, Jp, XL, v42, v43, Te, XJ, XP, v47, v48, Jk, (.slice none 0 0), (.slice none 0 0), (.slice (some ⟨y8, 0, none⟩) 1 1), (.slice P4 ri sU), (.slice Gk oN lK), (.bool t29), (.bool t30), (.slice QK tW jA), (iV 0)] 27 fun EX =>
((Mem.fm EX ⟨k5, 0, none⟩ 0 5) = some [(.slice P4 ri sU), (.slice Gk oN lK), (.bool t29), (.bool t30), (.slice QK tW jA)]) ∧
((Mem.fm EX ⟨k3, 0, none⟩ 0 4) = some [(iV xo), (iV fI), (iV nT), (iV sC)]) ∧
∃ I55 : Nat → List Value → Mem → Prop, (∃ Mq : Nat, I55 Mq [(iV 0)] EX) ∧
∀ sG : Nat, ∀ junk58 : Nat → Value, ∀ Dd : Int, ∀ pQ : Mem, (I55 sG [(iV Dd)] pQ) → rI pQ k3 0 fun KN =>
aV (decide ((Dd : Int) < KN))
 (∃ J62 : List Value → Mem → Prop, (rI pQ k3 2 fun xQ =>
 (rS pQ jX 18 fun A64 XK Gj =>
 aa Tryz.prog 107 #[(iV xQ)] pQ (fun v67 NF =>
 ∃ S6 : Int, ∃ A70 : Option Addr, ∃ KT : Nat, ∃ Jt : Nat, ∃ P7 : Int, (v67 = (.agg #[(iV S6), (.slice A70 KT Jt), (iV P7)])) ∧
 be NF (.cells #[(iV S6), (.slice A70 KT Jt), (iV P7), (iV 0), (iV (-1))] 211 (0, 0)) fun S4 zm =>
 aS Tryz.prog (Go.Builtin.append_ #[82, 82] 82 #[(.slice A64 XK Gj), (.slice (some ⟨S4, 0, none⟩) 1 1)]) zm (fun Uu NT =>
 aD (some Uu) fun Uv Gl Ee =>
 sT NT jX 18 (.slice Uv Gl Ee) fun NV =>
 J62 [] NV) Kp) Kp) ∧
 (aa Tryz.prog 107 #[(iV xQ)] pQ (fun v82 Gi =>
 ∃ KO : Int, ∃ A85 : Option Addr, ∃ Jw : Nat, ∃ Ms : Nat, ∃ XR : Int, (v82 = (.agg #[(iV KO), (.slice A85 Jw Ms), (iV XR)])) ∧
 rS Gi jX 18 fun A89 k90 NW =>
 be Gi (.cells #[(iV KO), (.slice A85 Jw Ms), (iV XR), (iV 0), (iV (-1))] 211 (0, 0)) fun vw zz =>
 aS Tryz.prog (Go.Builtin.append_ #[82, 82] 82 #[(.slice A89 k90 NW), (.slice (some ⟨vw, 0, none⟩) 1 1)]) zz (fun v94 Fh =>
 aD (some v94) fun A96 Tb UE =>
 sT Fh jX 18 (.slice A96 Tb UE) fun Un =>
 J62 [] Un) Kp) Kp) ∧
 True) ∧
 ∀ junk100 : Nat → Value, ∀ gO : Mem, (J62 [] gO) → ∃ Hl : Nat, (Hl < sG) ∧
 I55 Hl [(iV (IntKind.wrap .i64 (Dd + 1)))] gO)
 (∃ Wr : Nat → List Value → Mem → Prop, (∃ wq : Nat, Wr wq [(iV 0)] pQ) ∧
 ∀ ZC : Nat, ∀ junk106 : Nat → Value, ∀ DC : Int, ∀ xR : Mem, (Wr ZC [(iV DC)] xR) → rI xR k3 1 fun V4 =>
 aV (decide ((DC : Int) < V4))
 (rS xR jX 19 fun A110 k111 Hr =>
 be xR (.cells #[(iV (-1)), (iV (-1)), (iV 0)] 212 (0, 0)) fun Dv tC =>
 aS Tryz.prog (Go.Builtin.append_ #[83, 83] 83 #[(.slice A110 k111 Hr), (.slice (some ⟨Dv, 0, none⟩) 1 1)]) tC (fun Ws mC =>
 aD (some Ws) fun HB HC zF =>
 sT mC jX 19 (.slice HB HC zF) fun M120 =>
 ∃ Q9 : Nat, (Q9 < ZC) ∧
 Wr Q9 [(iV (IntKind.wrap .i64 (DC + 1)))] M120) Kp)
 (IT (Mem.fm xR ⟨jX, 0, none⟩ 0 27) fun l122 =>
 Kc xR k7 0 l122 27 fun La =>
 IT (Mem.fm La ⟨k7, 0, none⟩ 0 27) fun l124 =>
 K (.agg (l124.toArray)) La))) Kp) :
 aa Tryz.prog 63 ([.agg #[.slice jE jF jG, .slice jH jI jJ, .int .i64 fV, .slice jK jL jM], .agg #[.int .i64 dh, .int .i64 di, .int .i64 dk, .int .i64 eX], .agg #[.slice Zr Zs Zt, .slice Zu Zv Zw, .bool Zx, .bool Zy, .slice Zz ZA ZB]] : List Value).toArray M K Kp :=
 az (C := Cx) good [(1, .bT [0, 0, 2, 0, 0, 31, 0, 127] (.step 1 (.dJ 0 (.dJ 4 (.late 2 (.step 3 (.step 5 (.step 6 (.step 7 .done))))))))), (2000000, .loop [(8, .c (.int .i64))]), (5, .EK [0, 1, 0, 4, 12, 28, 60, 127, 255, 511] (.step 0 (.step 2 (.step 3 (.fork 1 (.step 4 (.step 5 (.step 6 (.step 7 (.step 8 (.step 9 .done)))))) (.fork 4 (.step 5 (.step 1 (.step 6 (.step 7 (.step 8 (.step 9 .done)))))) .dead))))) []), (2000002, .loop [(9, .c (.int .i64))])] Tryz.func63 (by kernel_rfl) (by kernel_rfl) h
variable {M : Mem} {K : Value → Mem → Prop} {Kp : List PanicEntry → Mem → Prop}
theorem pe  (h :
be M (.cells #[(iV 20), (iV 0), (iV 0), (iV 0), (iV 10), (iV 0), (iV 0), (iV 0)] 34 (0, 0)) fun k1 M2 =>
be M2 (.cells #[(.slice (some ⟨k1, 0, none⟩) 2 2)] 31 (0, 0)) fun k3 M4 =>
be M4 (.cells #[(.slice none 0 0), (.slice none 0 0), (iV 0), (.slice none 0 0)] 41 (0, 0)) fun k5 M6 =>
sT M6 k5 0 (.slice (some ⟨k3, 0, none⟩) 1 1) fun M7 =>
sT M7 k5 1 (.slice none 0 0) fun M8 =>
sT M8 k5 2 (iV 0) fun M9 =>
sT M9 k5 3 (.slice none 0 0) fun gV =>
rS gV k5 0 fun Jr fU dm =>
rS gV k5 1 fun oF gj dO =>
rI gV k5 2 fun iw =>
rS gV k5 3 fun Js jd iA =>
be gV (.cells #[(.int .u64 0), (.int .u64 0), (.int .u64 0), (.int .u64 0)] 36 (0, 0)) fun fC cZ =>
aa Tryz.prog 17 #[(.slice (some ⟨fC, 0, none⟩) 4 4)] cZ (fun Ub iz =>
bO (some Ub) fun KK =>
((Mem.fm iz ⟨k5, 0, none⟩ 0 4) = some [(.slice Jr fU dm), (.slice oF gj dO), (iV iw), (.slice Js jd iA)]) ∧
aa Tryz.prog 16 #[(.agg #[(.slice Jr fU dm), (.slice oF gj dO), (iV iw), (.slice Js jd iA)]), (.agg #[(iV 1), (iV 1), (iV 2), (iV 9)]), (.pointer KK)] iz (fun YL sD =>
bO (some YL) fun KP =>
((Mem.fm sD ⟨k5, 0, none⟩ 0 4) = some [(.slice Jr fU dm), (.slice oF gj dO), (iV iw), (.slice Js jd iA)]) ∧
aV (Option.isNone KP)
 (K (.bool false) sD)
 (aa Tryz.prog 50 #[(.pointer KP)] sD (fun v29 oM =>
 ∃ tV : Int, ∃ n32 : Int, ∃ lI : Int, ∃ A34 : Option Addr, ∃ sW : Nat, ∃ Ec : Nat, (v29 = (.agg #[(iV tV), (iV n32), (iV lI), (.slice A34 sW Ec)])) ∧
 aa Tryz.prog 50 #[(.pointer KP)] oM (fun SX jZ =>
 ∃ Ji : Int, ∃ P8 : Int, ∃ S9 : Int, ∃ Ml : Option Addr, ∃ lU : Nat, ∃ KM : Nat, (SX = (.agg #[(iV Ji), (iV P8), (iV S9), (.slice Ml lU KM)])) ∧
 aa Tryz.prog 50 #[(.pointer KP)] jZ (fun XJ xz =>
 ∃ BZ : Int, ∃ xV : Int, ∃ Ds : Int, ∃ Ut : Option Addr, ∃ Hh : Nat, ∃ jX : Nat, (XJ = (.agg #[(iV BZ), (iV xV), (iV Ds), (.slice Ut Hh jX)])) ∧
 be xz (.cells #[(iV 0), (iV 0), (iV 0), (.slice none 0 0)] 47 (0, 0)) fun jy EX =>
 be EX (.cells #[(iV 0), (iV 0), (iV 0), (.slice none 0 0)] 47 (0, 0)) fun AM G0 =>
 be G0 (.cells #[(iV 0), (iV 0), (iV 0), (.slice none 0 0)] 47 (0, 0)) fun sG Hi =>
 sT Hi jy 0 (iV tV) fun xA =>
 sT xA jy 1 (iV n32) fun pQ =>
 sT pQ jy 2 (iV lI) fun ym =>
 sT ym jy 3 (.slice A34 sW Ec) fun mW =>
 sT mW AM 0 (iV Ji) fun xm =>
 sT xm AM 1 (iV P8) fun Ed =>
 sT Ed AM 2 (iV S9) fun M65 =>
 sT M65 AM 3 (.slice Ml lU KM) fun SY =>
 sT SY sG 0 (iV BZ) fun P6 =>
 sT P6 sG 1 (iV xV) fun NF =>
 sT NF sG 2 (iV Ds) fun YJ =>
 sT YJ sG 3 (.slice Ut Hh jX) fun AI =>
 aa Tryz.prog 50 #[(.pointer KP)] AI (fun v71 vW =>
 ∃ P7 : Int, ∃ Ju : Int, ∃ NG : Int, ∃ A76 : Option Addr, ∃ Mr : Nat, ∃ KU : Nat, (v71 = (.agg #[(iV P7), (iV Ju), (iV NG), (.slice A76 Mr KU)])) ∧
 rI vW jy 0 fun n79 =>
 aV (n79 == 2)
 (rI vW AM 0 fun YK =>
 aV (YK == 4)
 (rI vW AM 2 fun Tc =>
 aV (Tc == 0)
 (rI vW sG 0 fun Jm =>
 aV (Jm == 7)
 (aa Tryz.prog 23 #[(.pointer KP)] vW (fun v83 Ef =>
 aK (some v83) .i64 fun Bh =>
 aV (Bh == 1)
 (aa Tryz.prog 33 #[(.pointer KP)] Ef (fun v86 AJ =>
 aK (some v86) .i64 fun XR =>
 K (.bool (XR == 4)) AJ) Kp)
 (K (.bool false) Ef)) Kp)
 (K (.bool false) vW))
 (K (.bool false) vW))
 (K (.bool false) vW))
 (K (.bool false) vW)) Kp) Kp) Kp) Kp)) Kp) Kp) :
 aa Tryz.prog 12 ([] : List Value).toArray M K Kp :=
 az (C := Cx) good [(2, .bT [0, 0, 0, 4, 15, 31] (.step 1 (.dJ 0 (.step 2 (.step 3 (.step 4 (.step 5 .done)))))))] Tryz.func12 (by kernel_rfl) (by kernel_rfl) h
theorem qj {zd : Int} {ze : Int} {fV : Int} {OV : Int} (h :
be M (.cells #[(iV zd), (iV ze), (iV fV), (iV OV)] 23 (0, 0)) fun k1 M2 =>
be M2 (.cells #[(iV 0), (iV 0), (iV 0), (iV 0)] 23 (0, 0)) fun k3 M4 =>
rI M4 k1 0 fun n5 =>
rI M4 k1 1 fun n6 =>
rI M4 k1 2 fun n7 =>
rI M4 k1 3 fun n8 =>
aa Tryz.prog 51 #[(iV n5), (iV 5)] M4 (fun v9 gV =>
aK (some v9) .i64 fun fA =>
((Mem.ld gV ⟨k1, 3, none⟩) = (some (iV n8))) ∧
((Mem.ld gV ⟨k1, 2, none⟩) = (some (iV n7))) ∧
((Mem.ld gV ⟨k1, 1, none⟩) = (some (iV n6))) ∧
aa Tryz.prog 51 #[(iV n6), (iV 5)] gV (fun QI j7 =>
aK (some QI) .i64 fun jc =>
((Mem.ld j7 ⟨k1, 3, none⟩) = (some (iV n8))) ∧
((Mem.ld j7 ⟨k1, 2, none⟩) = (some (iV n7))) ∧
((Mem.ld j7 ⟨k1, 1, none⟩) = (some (iV n6))) ∧
aa Tryz.prog 51 #[(iV n7), (iV 5)] j7 (fun Dh fh =>
aK (some Dh) .i64 fun iw =>
((Mem.ld fh ⟨k1, 3, none⟩) = (some (iV n8))) ∧
((Mem.ld fh ⟨k1, 2, none⟩) = (some (iV n7))) ∧
((Mem.ld fh ⟨k1, 1, none⟩) = (some (iV n6))) ∧
aa Tryz.prog 51 #[(iV n8), (iV 12)] fh (fun EW iq =>
aK (some EW) .i64 fun fI =>
((Mem.ld iq ⟨k1, 3, none⟩) = (some (iV n8))) ∧
((Mem.ld iq ⟨k1, 2, none⟩) = (some (iV n7))) ∧
((Mem.ld iq ⟨k1, 1, none⟩) = (some (iV n6))) ∧
sT iq k3 0 (iV (IntKind.wrap .i64 (1 + fA))) fun je =>
sT je k3 1 (iV (IntKind.wrap .i64 (1 + jc))) fun cZ =>
sT cZ k3 2 (iV (IntKind.wrap .i64 (2 + iw))) fun lg =>
sT lg k3 3 (iV (IntKind.wrap .i64 (1 + fI))) fun iz =>
((Mem.ld iz ⟨k1, 3, none⟩) = (some (iV n8))) ∧
((Mem.ld iz ⟨k1, 2, none⟩) = (some (iV n7))) ∧
((Mem.ld iz ⟨k1, 1, none⟩) = (some (iV n6))) ∧
rI iz k3 0 fun mJ =>
rI iz k3 1 fun oS =>
rI iz k3 2 fun yp =>
rI iz k3 3 fun xn =>
K (.agg #[(iV mJ), (iV oS), (iV yp), (iV xn)]) iz) Kp) Kp) Kp) Kp) :
 aa Tryz.prog 15 ([.agg #[.int .i64 zd, .int .i64 ze, .int .i64 fV, .int .i64 OV]] : List Value).toArray M K Kp :=
 az (C := Cx) good [(2, .bT [0, 0, 2, 7, 15, 0, 0, 64, 239, 495, 0, 0, 2048, 7663, 15855, 0, 0, 65536, 245231, 507375, 1048575, 2097151] (.step 0 (.step 1 (.step 5 (.step 6 (.step 10 (.step 11 (.step 15 (.step 16 (.step 2 (.dJ 7 (.dJ 12 (.dJ 17 (.step 3 (.step 4 (.step 8 (.step 9 (.step 13 (.step 14 (.step 18 (.step 19 (.step 20 (.step 21 .done)))))))))))))))))))))))] Tryz.func15 (by kernel_rfl) (by kernel_rfl) h
theorem oe {x0 : Int} {x1 : Int} (h :
((x1 : Int) ≠ 0) ∧
K (iV (Int.tmod (IntKind.wrap .i64 (((Nat.bitwise and (BitVec.ofInt IntKind.i64.bits x0).toNat (BitVec.ofInt IntKind.i64.bits 255).toNat) : Nat) : Int)) x1)) M) :
 aa Tryz.prog 51 ([.int .i64 x0, .int .i64 x1] : List Value).toArray M K Kp :=
 az (C := Cx) good [] Tryz.func51 (by kernel_rfl) (by kernel_rfl) h
end Go.Proofs
namespace Go.Proofs
open Go.AF
set_option maxRecDepth 100000
variable {M : Mem} {K : Value → Mem → Prop} {Kp : List PanicEntry → Mem → Prop}
theorem qk {jE : Option Addr} {jF jG : Nat} {jH : Option Addr} {jI jJ : Nat} {fV : Int} {jK : Option Addr} {jL jM : Nat} {dh : Int} {di : Int} {dk : Int} {eX : Int} {B2 : Option Addr} {m2 c2 : Nat} (h :
be M (.cells #[(.slice jE jF jG), (.slice jH jI jJ), (iV fV), (.slice jK jL jM)] 73 (0, 0)) fun k1 M2 =>
be M2 (.cells #[(iV dh), (iV di), (iV dk), (iV eX)] 23 (0, 0)) fun k3 M4 =>
be M4 (.cells #[(iV 0), (iV 0), (iV 0), (iV 0), (.slice none 0 0), (.slice none 0 0), (iV 0), (.slice none 0 0), (.slice none 0 0), (.int .u64 0), (.slice none 0 0), (.slice none 0 0), (.slice none 0 0), (.int .u64 0), (.slice none 0 0), (iV 0), (iV 0), (.slice none 0 0), (.slice none 0 0), (.slice none 0 0), (.slice none 0 0), (.slice none 0 0), (.slice none 0 0), (.bool false), (.bool false), (.slice none 0 0), (iV 0)] 88 (0, 0)) fun k5 M6 =>
rS M6 k1 0 fun A7 k8 k9 =>
rS M6 k1 1 fun BY eL fU =>
rI M6 k1 2 fun jg =>
rS M6 k1 3 fun oF gj dO =>
aa Tryz.prog 35 #[(.agg #[(.slice A7 k8 k9), (.slice BY eL fU), (iV jg), (.slice oF gj dO)])] M6 (fun Uj mZ =>
∃ AK : Option Addr, ∃ iA : Nat, ∃ fC : Nat, ∃ QS : Option Addr, ∃ iY : Nat, ∃ ri : Nat, ∃ mJ : Int, ∃ Gk : Option Addr, ∃ oN : Nat, ∃ lK : Nat, (Uj = (.agg #[(.slice AK iA fC), (.slice QS iY ri), (iV mJ), (.slice Gk oN lK)])) ∧
be mZ (.cells #[(.slice none 0 0), (.slice none 0 0), (iV 0), (.slice none 0 0)] 73 (0, 0)) fun kB oM =>
sT oM kB 0 (.slice AK iA fC) fun Cc =>
sT Cc kB 1 (.slice QS iY ri) fun mX =>
sT mX kB 2 (iV mJ) fun uz =>
sT uz kB 3 (.slice Gk oN lK) fun mI =>
aa Tryz.prog 17 #[(.slice B2 m2 c2)] mI (fun v35 pA =>
bO (some v35) fun Mp =>
rS pA kB 0 fun Ur tX AX =>
rS pA kB 1 fun KS D9 lU =>
rI pA kB 2 fun Dk =>
rS pA kB 3 fun A45 Jj Mj =>
rI pA k3 0 fun xV =>
rI pA k3 1 fun Ds =>
rI pA k3 2 fun Ca =>
rI pA k3 3 fun Bg =>
rS pA kB 0 fun T7 jy De =>
rS pA kB 1 fun Uo Mq sG =>
rI pA kB 2 fun EY =>
rS pA kB 3 fun ZD Wq ZE =>
rI pA k3 0 fun Mo =>
rI pA k3 1 fun xQ =>
rI pA k3 2 fun n64 =>
rI pA k3 3 fun vV =>
aa Tryz.prog 29 #[(.agg #[(.slice Ur tX AX), (.slice KS D9 lU), (iV Dk), (.slice A45 Jj Mj)])] pA (fun v66 P6 =>
∃ Zq : Option Addr, ∃ K0 : Nat, ∃ zk : Nat, ∃ KV : Option Addr, ∃ Jt : Nat, ∃ NU : Nat, ∃ Ju : Int, ∃ XQ : Option Addr, ∃ Qb : Nat, ∃ Mr : Nat, (v66 = (.agg #[(.slice Zq K0 zk), (.slice KV Jt NU), (iV Ju), (.slice XQ Qb Mr)])) ∧
((Mem.fm P6 ⟨k3, 0, none⟩ 0 4) = some [(iV Mo), (iV xQ), (iV n64), (iV vV)]) ∧
((Mem.fm P6 ⟨kB, 0, none⟩ 0 4) = some [(.slice T7 jy De), (.slice Uo Mq sG), (iV EY), (.slice ZD Wq ZE)]) ∧
((Mem.fm P6 ⟨k3, 0, none⟩ 0 4) = some [(iV xV), (iV Ds), (iV Ca), (iV Bg)]) ∧
aa Tryz.prog 16 #[(.agg #[(.slice Zq K0 zk), (.slice KV Jt NU), (iV Ju), (.slice XQ Qb Mr)]), (.agg #[(iV xV), (iV Ds), (iV Ca), (iV Bg)]), (.pointer Mp)] P6 (fun v78 Td =>
bO (some v78) fun A80 =>
((Mem.fm Td ⟨k3, 0, none⟩ 0 4) = some [(iV Mo), (iV xQ), (iV n64), (iV vV)]) ∧
((Mem.fm Td ⟨kB, 0, none⟩ 0 4) = some [(.slice T7 jy De), (.slice Uo Mq sG), (iV EY), (.slice ZD Wq ZE)]) ∧
((Mem.fm Td ⟨k3, 0, none⟩ 0 4) = some [(iV xV), (iV Ds), (iV Ca), (iV Bg)]) ∧
aa Tryz.prog 63 #[(.agg #[(.slice T7 jy De), (.slice Uo Mq sG), (iV EY), (.slice ZD Wq ZE)]), (.agg #[(iV Mo), (iV xQ), (iV n64), (iV vV)]), (.agg #[(.slice B2 m2 c2), (.slice none 0 0), (.bool false), (.bool false), (.slice none 0 0)])] Td (fun v81 zo =>
∃ l83 : List Value, ((l83.length) = 27) ∧
(v81 = (.agg (l83.toArray))) ∧
((Mem.fm zo ⟨k3, 0, none⟩ 0 4) = some [(iV Mo), (iV xQ), (iV n64), (iV vV)]) ∧
((Mem.fm zo ⟨kB, 0, none⟩ 0 4) = some [(.slice T7 jy De), (.slice Uo Mq sG), (iV EY), (.slice ZD Wq ZE)]) ∧
((Mem.fm zo ⟨k3, 0, none⟩ 0 4) = some [(iV xV), (iV Ds), (iV Ca), (iV Bg)]) ∧
Kc zo k5 0 l83 27 fun Ef =>
((Mem.fm Ef ⟨k3, 0, none⟩ 0 4) = some [(iV Mo), (iV xQ), (iV n64), (iV vV)]) ∧
((Mem.fm Ef ⟨kB, 0, none⟩ 0 4) = some [(.slice T7 jy De), (.slice Uo Mq sG), (iV EY), (.slice ZD Wq ZE)]) ∧
((Mem.fm Ef ⟨k3, 0, none⟩ 0 4) = some [(iV xV), (iV Ds), (iV Ca), (iV Bg)]) ∧
IT (Mem.fm Ef ⟨k5, 0, none⟩ 0 27) fun l85 =>
K (.tuple #[(.pointer A80), (.agg (l85.toArray)), (.pointer Mp)]) Ef) Kp) Kp) Kp) Kp) Kp) :
 aa Tryz.prog 27 ([.agg #[.slice jE jF jG, .slice jH jI jJ, .int .i64 fV, .slice jK jL jM], .agg #[.int .i64 dh, .int .i64 di, .int .i64 dk, .int .i64 eX], .slice B2 m2 c2] : List Value).toArray M K Kp :=
 az (C := Cx) good [(3, .bT [0, 1, 0, 0, 15, 0, 0, 0, 128, 511, 0, 1023, 3071, 8191] (.step 3 (.step 7 (.step 8 (.step 10 (.step 0 (.dJ 2 (.dJ 5 (.dJ 6 (.step 1 (.step 4 (.step 9 (.step 11 (.step 12 (.step 13 .done)))))))))))))))] Tryz.func27 (by kernel_rfl) (by kernel_rfl) h
theorem pg {b0 o0 : Nat} (h :
be M (.map #[] 0) fun k1 M2 =>
be M2 (.map #[] 0) fun k3 M4 =>
aa Tryz.prog 25 #[(.pointer (some ⟨b0, o0, none⟩))] M4 (fun v5 M6 =>
aD (some v5) fun A7 k8 k9 =>
∃ I10 : Nat → List Value → Mem → Prop, (∃ eL : Nat, I10 eL [(iV 0)] M6) ∧
∀ fU : Nat, ∀ junk13 : Nat → Value, ∀ jc : Int, ∀ oE : Mem, (I10 fU [(iV jc)] oE) → aV (decide ((jc : Int) < ((k8 : Nat) : Int)))
 (((0 : Int) ≤ jc) ∧
 ((jc : Int) < ((k8 : Nat) : Int)) ∧
 aG A7 fun dO eT =>
 rI oE dO (eT + (Int.toNat jc)) fun kL =>
 aS Tryz.prog (Go.Instr.lookup 168 (.map (some k1)) (iV kL) false) oE (fun QO nU =>
 aK (some QO) .i64 fun nT =>
 bJ Tryz.prog (Go.Instr.mapUpdate 168 (.map (some k1)) (iV kL) (iV (IntKind.wrap .i64 (nT + 1)))) nU (fun cZ =>
 ∃ iY : Nat, (iY < fU) ∧
 I10 iY [(iV (IntKind.wrap .i64 (jc + 1)))] cZ) Kp) Kp)
 (aa Tryz.prog 19 #[(.pointer (some ⟨b0, o0, none⟩))] oE (fun Ui B7 =>
 aD (some Ui) fun Gk oN lK =>
 ∃ I29 : Nat → List Value → Mem → Prop, (∃ lJ : Nat, I29 lJ [(iV 0)] B7) ∧
 ∀ nW : Nat, ∀ junk32 : Nat → Value, ∀ lI : Int, ∀ mI : Mem, (I29 nW [(iV lI)] mI) → aV (decide ((lI : Int) < ((oN : Nat) : Int)))
 (((0 : Int) ≤ lI) ∧
 ((lI : Int) < ((oN : Nat) : Int)) ∧
 aG Gk fun sW Ec =>
 rI mI sW (Ec + ((Int.toNat lI) * 4)) fun NB =>
 rS mI sW ((Ec + ((Int.toNat lI) * 4)) + 1) fun Ur tX AX =>
 rI mI sW ((Ec + ((Int.toNat lI) * 4)) + 2) fun S9 =>
 rI mI sW ((Ec + ((Int.toNat lI) * 4)) + 3) fun QN =>
 be mI (.cells #[(iV 0), (.slice none 0 0), (iV 0), (iV 0)] 53 (0, 0)) fun lU xy =>
 sT xy lU 0 (iV NB) fun lW =>
 sT lW lU 1 (.slice Ur tX AX) fun xz =>
 sT xz lU 2 (iV S9) fun qR =>
 sT qR lU 3 (iV QN) fun ND =>
 rS ND lU 1 fun Us y8 Hh =>
 ∃ I52 : Nat → List Value → Mem → Prop, (∃ jy : Nat, I52 jy [(iV 0)] ND) ∧
 ∀ De : Nat, ∀ junk55 : Nat → Value, ∀ Eg : Int, ∀ vU : Mem, (I52 De [(iV Eg)] vU) → aV (decide ((Eg : Int) < ((y8 : Nat) : Int)))
 (((0 : Int) ≤ Eg) ∧
 ((Eg : Int) < ((y8 : Nat) : Int)) ∧
 aG Us fun EZ T8 =>
 rI vU EZ (T8 + (Int.toNat Eg)) fun Jl =>
 aS Tryz.prog (Go.Instr.lookup 168 (.map (some k1)) (iV Jl) false) vU (fun v61 mW =>
 aK (some v61) .i64 fun xQ =>
 bJ Tryz.prog (Go.Instr.mapUpdate 168 (.map (some k1)) (iV Jl) (iV (IntKind.wrap .i64 (xQ + 1)))) mW (fun Ed =>
 ∃ XK : Nat, (XK < De) ∧
 I52 XK [(iV (IntKind.wrap .i64 (Eg + 1)))] Ed) Kp) Kp)
 (rI vU lU 0 fun QH =>
 ∃ J67 : List Value → Mem → Prop, (aV (QH != (-1))
 (rI vU lU 0 fun Jq =>
 aS Tryz.prog (Go.Instr.lookup 168 (.map (some k1)) (iV Jq) false) vU (fun YS AI =>
 aK (some YS) .i64 fun XH =>
 bJ Tryz.prog (Go.Instr.mapUpdate 168 (.map (some k1)) (iV Jq) (iV (IntKind.wrap .i64 (XH + 1)))) AI (fun vW =>
 J67 [] vW) Kp) Kp)
 (J67 [] vU)) ∧
 ∀ junk73 : Nat → Value, ∀ Cb : Mem, (J67 [] Cb) → ∃ S5 : Nat, (S5 < nW) ∧
 I29 S5 [(iV (IntKind.wrap .i64 (lI + 1)))] Cb))
 (aa Tryz.prog 20 #[(.pointer (some ⟨b0, o0, none⟩))] mI (fun Uu NT =>
 aD (some Uu) fun Uv Gl Ee =>
 ∃ I81 : Nat → List Value → Mem → Prop, (∃ Hj : Nat, I81 Hj [(iV 0)] NT) ∧
 ∀ x5 : Nat, ∀ junk84 : Nat → Value, ∀ Bh : Int, ∀ B4 : Mem, (I81 x5 [(iV Bh)] B4) → aV (decide ((Bh : Int) < ((Gl : Nat) : Int)))
 (((0 : Int) ≤ Bh) ∧
 ((Bh : Int) < ((Gl : Nat) : Int)) ∧
 aG Uv fun Ms Dp =>
 rI B4 Ms (Dp + ((Int.toNat Bh) * 3)) fun Mw =>
 rI B4 Ms ((Dp + ((Int.toNat Bh) * 3)) + 1) fun Mv =>
 rI B4 Ms ((Dp + ((Int.toNat Bh) * 3)) + 2) fun n91 =>
 be B4 (.cells #[(iV 0), (iV 0), (iV 0)] 55 (0, 0)) fun vw zz =>
 sT zz vw 0 (iV Mw) fun V3 =>
 sT V3 vw 1 (iV Mv) fun Fh =>
 sT Fh vw 2 (iV n91) fun Ta =>
 rI Ta vw 1 fun n97 =>
 ∃ J98 : List Value → Mem → Prop, (aV (n97 != (-1))
 (rI Ta vw 1 fun KW =>
 aS Tryz.prog (Go.Instr.lookup 168 (.map (some k1)) (iV KW) false) Ta (fun Ot gO =>
 aK (some Ot) .i64 fun G1 =>
 bJ Tryz.prog (Go.Instr.mapUpdate 168 (.map (some k1)) (iV KW) (iV (IntKind.wrap .i64 (G1 + 1)))) gO (fun Ho =>
 J98 [] Ho) Kp) Kp)
 (J98 [] Ta)) ∧
 ∀ QY : Nat → Value, ∀ mY : Mem, (J98 [] mY) → rI mY vw 0 fun VD =>
 aV (VD == (-1))
 (rI mY vw 1 fun DC =>
 aV (DC != (-1))
 (K (.bool false) mY)
 (rI mY vw 2 fun zp =>
 aV (zp != 0)
 (K (.bool false) mY)
 (∃ Bi : Nat, (Bi < x5) ∧
 I81 Bi [(iV (IntKind.wrap .i64 (Bh + 1)))] mY)))
 (rI mY vw 0 fun E1 =>
 aS Tryz.prog (Go.Instr.lookup 168 (.map (some k3)) (iV E1) false) mY (fun v111 VK =>
 aK (some v111) .i64 fun AY =>
 bJ Tryz.prog (Go.Instr.mapUpdate 168 (.map (some k3)) (iV E1) (iV (IntKind.wrap .i64 (AY + 1)))) VK (fun tC =>
 rI tC vw 0 fun V5 =>
 aS Tryz.prog (Go.Instr.lookup 168 (.map (some k3)) (iV V5) false) tC (fun v116 wj =>
 aK (some v116) .i64 fun n118 =>
 aV (decide ((n118 : Int) > 1))
 (K (.bool false) wj)
 (rI wj vw 0 fun Bj =>
 aa Tryz.prog 19 #[(.pointer (some ⟨b0, o0, none⟩))] wj (fun Wu zG =>
 aD (some Wu) fun Dw Dx Fb =>
 ((Mem.ld zG ⟨vw, 0, none⟩) = (some (iV Bj))) ∧
 ((0 : Int) ≤ Bj) ∧
 ((Bj : Int) < ((Dx : Nat) : Int)) ∧
 aG Dw fun NZ VF =>
 rI zG NZ ((VF + ((Int.toNat Bj) * 4)) + 3) fun zA =>
 aV (zA != Bh)
 (K (.bool false) zG)
 (∃ HD : Nat, (HD < x5) ∧
 I81 HD [(iV (IntKind.wrap .i64 (Bh + 1)))] zG)) Kp)) Kp) Kp) Kp))
 (aa Tryz.prog 21 #[(.pointer (some ⟨b0, o0, none⟩))] B4 (fun v129 lq =>
 bO (some v129) fun x9 =>
 aa Tryz.prog 64 #[(.pointer x9)] lq (fun v132 HE =>
 aK (some v132) .i64 fun Oz =>
 ∃ Rm : Nat → List Value → Mem → Prop, (∃ o6 : Nat, Rm o6 [(iV 0)] HE) ∧
 ∀ Wv : Nat, ∀ junk138 : Nat → Value, ∀ Lh : Int, ∀ Dy : Mem, (Rm Wv [(iV Lh)] Dy) → aV (decide ((Lh : Int) < Oz))
 (aa Tryz.prog 65 #[(.pointer x9), (iV Lh)] Dy (fun v141 Bl =>
 aK (some v141) .i64 fun V8 =>
 ∃ Ww : List Value → Mem → Prop, (aV (V8 == 1)
 (Ww [(iV 1)] Bl)
 (Ww [(iV 0)] Bl)) ∧
 ∀ Rc : Nat → Value, ∀ Fe : Int, ∀ Fc : Mem, (Ww [(iV Fe)] Fc) → aa Tryz.prog 60 #[(.pointer x9)] Fc (fun v148 wm =>
 ∃ zy : Int, ∃ N1 : Int, (v148 = (.tuple #[(iV zy), (iV N1)])) ∧
 aV (zy == 0)
 (aS Tryz.prog (Go.Instr.lookup 168 (.map (some k1)) (iV Lh) false) wm (fun v152 ZF =>
 aK (some v152) .i64 fun Le =>
 aV (Le != Fe)
 (K (.bool false) ZF)
 (∃ uO : Nat, (uO < Wv) ∧
 Rm uO [(iV (IntKind.wrap .i64 (Lh + 1)))] ZF)) Kp)
 (∃ K3 : Nat, (K3 < Wv) ∧
 Rm K3 [(iV (IntKind.wrap .i64 (Lh + 1)))] wm)) Kp) Kp)
 (K (.bool true) Dy)) Kp) Kp)) Kp)) Kp)) Kp) :
 aa Tryz.prog 28 ([.pointer (some ⟨b0, o0, none⟩)] : List Value).toArray M K Kp :=
 az (C := Cx) good [(2000000, .loop [(23, .c (.int .i64))]), (2000002, .loop [(35, .c (.int .i64))]), (2000004, .loop [(42, .c (.int .i64))]), (3000053, .cut []), (2000006, .loop [(63, .c (.int .i64))]), (3000070, .cut []), (28, .bT [0, 0, 2, 7, 15, 31, 63, 127, 63, 319, 1023, 2047, 4095, 63, 16383, 32767] (.step 0 (.step 1 (.step 2 (.step 3 (.step 4 (.step 5 (.step 6 (.step 8 (.step 13 (.dJ 9 (.step 7 (.step 10 (.step 11 (.step 12 (.step 14 (.step 15 .done))))))))))))))))), (2000008, .loop [(113, .c (.int .i64))]), (3000119, .cut [(15, .c (.int .i64))])] Tryz.func28 (by kernel_rfl) (by kernel_rfl) h
theorem tF {zd : Int} {ze : Int} {fV : Int} {OV : Int} (h :
be M (.cells #[(iV zd), (iV ze), (iV fV), (iV OV)] 23 (0, 0)) fun k1 M2 =>
be M2 (.cells #[(iV 0), (iV 0), (iV 0), (iV 0)] 26 (0, 0)) fun k3 M4 =>
rI M4 k1 0 fun n5 =>
rI M4 k1 1 fun n6 =>
rI M4 k1 2 fun n7 =>
rI M4 k1 3 fun n8 =>
sT M4 k3 0 (iV n5) fun M9 =>
sT M9 k3 1 (iV n6) fun gV =>
sT gV k3 2 (iV n7) fun hH =>
sT hH k3 3 (iV n8) fun ja =>
rI ja k3 0 fun jg =>
rI ja k3 1 fun jc =>
rI ja k3 2 fun jY =>
rI ja k3 3 fun mB =>
K (.agg #[(iV jg), (iV jc), (iV jY), (iV mB)]) ja) :
 aa Tryz.prog 30 ([.agg #[.int .i64 zd, .int .i64 ze, .int .i64 fV, .int .i64 OV]] : List Value).toArray M K Kp :=
 az (C := Cx) good [] Tryz.func30 (by kernel_rfl) (by kernel_rfl) h
end Go.Proofs
namespace Go.Proofs
open Go.AF
set_option maxRecDepth 100000
theorem ql {b0 o0 : Nat} {M : Mem} {K : Value → Mem → Prop} {Kp : List PanicEntry → Mem → Prop} (h :
be M (.cells #[(.pointer (some ⟨b0, o0, none⟩))] 42 (0, 0)) fun k1 M2 =>
be M2 (.cells #[(iV 0), (iV 0), (iV 0), (.slice none 0 0)] 47 (0, 0)) fun k3 M4 =>
be M4 (.cells #[(iV 0), (iV 0), (iV 0), (.slice none 0 0)] 47 (0, 0)) fun k5 M6 =>
aa Tryz.prog 56 #[(.func (.func 57) #[] #[(.pointer (some ⟨k1, 0, none⟩)), (.pointer (some ⟨k5, 0, none⟩))])] M6 (fun v7 M8 =>
∃ n9 : Int, ∃ j9 : Int, ∃ fA : Int, ∃ jf : Int, ∃ jg : Int, ∃ jc : Int, (v7 = (.tuple #[(iV n9), (.agg #[(iV j9), (iV fA), (iV jf), (iV jg), (.int .u64 jc)])])) ∧
be M8 (.cells #[(iV 0), (iV 0), (iV 0), (iV 0), (.int .u64 0)] 155 (0, 0)) fun gj fh =>
sT fh gj 0 (iV j9) fun j8 =>
sT j8 gj 1 (iV fA) fun mZ =>
sT mZ gj 2 (iV jf) fun iq =>
sT iq gj 3 (iV jg) fun nU =>
sT nU gj 4 (.int .u64 jc) fun je =>
rI je k5 0 fun sC =>
rI je k5 1 fun nX =>
rI je k5 2 fun xT =>
rS je k5 3 fun KK lT oN =>
sT je k3 0 (iV sC) fun y7 =>
sT y7 k3 1 (iV nX) fun mA =>
sT mA k3 2 (iV xT) fun oM =>
sT oM k3 3 (.slice KK lT oN) fun Cc =>
rI Cc k3 0 fun n32 =>
rI Cc k3 1 fun lI =>
rI Cc k3 2 fun QM =>
rS Cc k3 3 fun A35 Ec yu =>
K (.tuple #[(.agg #[(iV n32), (iV lI), (iV QM), (.slice A35 Ec yu)]), (iV n9)]) Cc) Kp) :
 aa Tryz.prog 18 ([.pointer (some ⟨b0, o0, none⟩)] : List Value).toArray M K Kp :=
 az (C := Cx) good [] Tryz.func18 (by kernel_rfl) (by kernel_rfl) h
theorem iO {b0 o0 : Nat} {b1 o1 : Nat} {M : Mem} {K : Value → Mem → Prop} {Kp : List PanicEntry → Mem → Prop} (h :
bO (Mem.ld M ⟨b0, o0, none⟩) fun A1 =>
aa Tryz.prog 50 #[(.pointer A1)] M (fun v2 M3 =>
∃ n4 : Int, ∃ n5 : Int, ∃ n6 : Int, ∃ A7 : Option Addr, ∃ k8 : Nat, ∃ k9 : Nat, (v2 = (.agg #[(iV n4), (iV n5), (iV n6), (.slice A7 k8 k9)])) ∧
sT M3 b1 o1 (iV n4) fun gV =>
sT gV b1 (o1 + 1) (iV n5) fun hH =>
sT hH b1 (o1 + 2) (iV n6) fun ja =>
sT ja b1 (o1 + 3) (.slice A7 k8 k9) fun j7 =>
K (.tuple #[]) j7) Kp) :
 aa Tryz.prog 57 ([.pointer (some ⟨b0, o0, none⟩), .pointer (some ⟨b1, o1, none⟩)] : List Value).toArray M K Kp :=
 az (C := Cx) good [] Tryz.func57 (by kernel_rfl) (by kernel_rfl) h
theorem qm {B0 : Option Addr} {m0 c0 : Nat} {B1 : Option Addr} {m1 c1 : Nat} {M : Mem} {K : Value → Mem → Prop} {Kp : List PanicEntry → Mem → Prop} (h :
aV (((m0 : Nat) : Int) != ((m1 : Nat) : Int))
 (K (iV (-1)) M)
 (∃ I1 : Nat → List Value → Mem → Prop, (∃ k2 : Nat, I1 k2 [(iV 0)] M) ∧
 ∀ k3 : Nat, ∀ uA : Nat → Value, ∀ n5 : Int, ∀ M6 : Mem, (I1 k3 [(iV n5)] M6) → aV (decide ((n5 : Int) < ((m1 : Nat) : Int)))
 (((0 : Int) ≤ n5) ∧
 ((n5 : Int) < ((m0 : Nat) : Int)) ∧
 aG B0 fun k7 k8 =>
 ((0 : Int) ≤ n5) ∧
 ((n5 : Int) < ((m1 : Nat) : Int)) ∧
 aG B1 fun k9 dP =>
 rI M6 k7 (k8 + (Int.toNat n5)) fun fA =>
 rI M6 k9 (dP + (Int.toNat n5)) fun jf =>
 aV (fA != jf)
 (K (iV (-1)) M6)
 (∃ dm : Nat, (dm < k3) ∧
 I1 dm [(iV (IntKind.wrap .i64 (n5 + 1)))] M6))
 (K (iV 0) M6))) :
 aa Tryz.prog 26 ([.slice B0 m0 c0, .slice B1 m1 c1] : List Value).toArray M K Kp :=
 az (C := Cx) good [(2000000, .loop [(13, .c (.int .i64))]), (6, .bT [0, 0, 3, 7, 0, 0, 48, 112, 255] (.step 0 (.step 1 (.step 2 (.step 4 (.step 5 (.step 6 (.step 3 (.step 7 (.step 8 .done))))))))))] Tryz.func26 (by kernel_rfl) (by kernel_rfl) h
end Go.Proofs
namespace Go.Proofs
open Go.AF
set_option maxRecDepth 100000
set_option maxHeartbeats 1000000
attribute [local irreducible] aK cJ fJ bO aD fz aG aO be aS bJ aV
theorem zJ {A B : Option Addr} {m n ca cb : Nat} {l : List Int} {R : Mem} {L : List HP} {M : Mem} {K : Value → Mem → Prop} {Kp : List PanicEntry → Mem → Prop} (h : Hp R L M) (hA : Src R L A (bl.cells l)) (hB : Src R L B (bl.cells l)) (hm : m = l.length) (hn : n = l.length) (hs : l.length ≤ 1000000000) (k : ∀ M', Hp R L M' → K (.int .i64 0) M') :
  aa Tryz.prog 26 #[.slice A m ca, .slice B n cb] M K Kp := by
 subst hm
 subst hn
 refine qm ?_
 refine cK.2 ⟨fun hn => absurd rfl hn, fun _ => ?_⟩
 refine ⟨fun d vs M => ∃ i : Nat, vs = [.int .i64 (i : Int)] ∧ d = l.length - i ∧ i ≤ l.length ∧ Hp R L M, ⟨_, 0, rfl, rfl, by omega, h⟩, ?_⟩
 clear h
 rintro d _ ii M ⟨i, he, hd, hi, h⟩
 simp only [List.cons.injEq, Value.int.injEq, and_true, true_and] at he
 subst he
 refine aP.2 ⟨fun hlt => ?_, fun hge => k _ h⟩
 obtain ⟨w, hw⟩ := aR (l := l) (i := i) (by omega)
 obtain ⟨b, o, rfl⟩ := hA.kY h (by omega) (by decide)
 obtain ⟨b', o', rfl⟩ := hB.kY h (by omega) (by decide)
 repeat (first | (refine aq h ?_; clear h; intro kb M h) | (refine av h ?_; clear h; intro M h) | refine St.to h ?_ | (apply Exists.intro; (repeat apply Exists.intro); refine And.intro rfl ?_) | (refine And.intro ?_ ?_; first | exact rfl | ((repeat (refine ay (aA h) ?_)); exact ae) | omega) | refine ai ?_ | refine aj ?_)
 refine aZ (hA.at h (j := 0) hw rfl (by simp [bl])) ?_
 refine aZ (hB.at h (j := 0) hw rfl (by simp [bl])) ?_
 refine C8 (by simp) ?_
 rw [aU (by omega)]
 exact ⟨l.length - (i + 1), by omega, i + 1, rfl, rfl, by omega, h⟩
end Go.Proofs
namespace Go.Proofs
open Go.AF
set_option maxRecDepth 100000
theorem lB {jE : Option Addr} {jF jG : Nat} {jH : Option Addr} {jI jJ : Nat} {fV : Int} {jK : Option Addr} {jL jM : Nat} {dh : Int} {di : Int} {dk : Int} {eX : Int} {B2 : Option Addr} {m2 c2 : Nat} {M : Mem} {K : Value → Mem → Prop} {Kp : List PanicEntry → Mem → Prop} (h :
be M (.cells #[(.slice jE jF jG), (.slice jH jI jJ), (iV fV), (.slice jK jL jM)] 73 (0, 0)) fun k1 M2 =>
be M2 (.cells #[(iV dh), (iV di), (iV dk), (iV eX)] 23 (0, 0)) fun k3 M4 =>
aa Tryz.prog 12 #[] M4 (fun v5 M6 =>
cJ (some v5) fun t7 =>
aV (!t7)
 (K (.bool false) M6)
 (((0 : Int) ≤ ((c2 : Nat) : Int)) ∧
 ((((c2 : Nat) : Int) : Int) ≤ ((c2 : Nat) : Int)) ∧
 ((0 : Int) ≤ (if (150 : Int) < ((m2 : Nat) : Int) then 150 else ((m2 : Nat) : Int))) ∧
 (((if (150 : Int) < ((m2 : Nat) : Int) then 150 else ((m2 : Nat) : Int)) : Int) ≤ ((c2 : Nat) : Int)) ∧
 ((0 : Int) ≤ 0) ∧
 ((0 : Int) ≤ (if (150 : Int) < ((m2 : Nat) : Int) then 150 else ((m2 : Nat) : Int))) ∧
 rI M6 k3 0 fun n8 =>
 rI M6 k3 1 fun n9 =>
 rI M6 k3 2 fun j9 =>
 rI M6 k3 3 fun fA =>
 rS M6 k1 0 fun sE dm gq =>
 rS M6 k1 1 fun qO dO eT =>
 rI M6 k1 2 fun kL =>
 rS M6 k1 3 fun AK iA fC =>
 (True) ∧
 aa Tryz.prog 15 #[(.agg #[(iV n8), (iV n9), (iV j9), (iV fA)])] M6 (fun G3 lg =>
 ∃ xT : Int, ∃ mJ : Int, ∃ oS : Int, ∃ yp : Int, (G3 = (.agg #[(iV xT), (iV mJ), (iV oS), (iV yp)])) ∧
 ((Mem.fm lg ⟨k1, 0, none⟩ 0 4) = some [(.slice sE dm gq), (.slice qO dO eT), (iV kL), (.slice AK iA fC)]) ∧
 (True) ∧
 aa Tryz.prog 27 #[(.agg #[(.slice sE dm gq), (.slice qO dO eT), (iV kL), (.slice AK iA fC)]), (.agg #[(iV xT), (iV mJ), (iV oS), (iV yp)]), (.slice (lM B2 0 (Int.toNat ((c2 : Nat) : Int)) 1) ((Int.toNat (if (150 : Int) < ((m2 : Nat) : Int) then 150 else ((m2 : Nat) : Int))) - 0) ((Int.toNat ((c2 : Nat) : Int)) - 0))] lg (fun NK mA =>
 ∃ Gg : Option Addr, ∃ l31 : List Value, ((l31.length) = 27) ∧
 ∃ XM : Option Addr, (NK = (.tuple #[(.pointer Gg), (.agg (l31.toArray)), (.pointer XM)])) ∧
 ((Mem.fm mA ⟨k1, 0, none⟩ 0 4) = some [(.slice sE dm gq), (.slice qO dO eT), (iV kL), (.slice AK iA fC)]) ∧
 be mA (.cells #[(iV 0), (iV 0), (iV 0), (iV 0), (.slice none 0 0), (.slice none 0 0), (iV 0), (.slice none 0 0), (.slice none 0 0), (.int .u64 0), (.slice none 0 0), (.slice none 0 0), (.slice none 0 0), (.int .u64 0), (.slice none 0 0), (iV 0), (iV 0), (.slice none 0 0), (.slice none 0 0), (.slice none 0 0), (.slice none 0 0), (.slice none 0 0), (.slice none 0 0), (.bool false), (.bool false), (.slice none 0 0), (iV 0)] 88 (0, 0)) fun jA mI =>
 Kc mI jA 0 l31 27 fun qP =>
 ((Mem.fm qP ⟨k1, 0, none⟩ 0 4) = some [(.slice sE dm gq), (.slice qO dO eT), (iV kL), (.slice AK iA fC)]) ∧
 ∃ S3 : List Value → Mem → Prop, (∃ I37 : Nat → List Value → Mem → Prop, (∃ gZ : Nat, I37 gZ [(.slice none 0 0), (iV 0)] qP) ∧
 ∀ tX : Nat, ∀ junk40 : Nat → Value, ∀ KS : Option Addr, ∀ D9 : Nat, ∀ lU : Nat, ∀ Dk : Int, ∀ lW : Mem, (I37 tX [(.slice KS D9 lU), (iV Dk)] lW) → aV (decide ((Dk : Int) < 150))
 (aa Tryz.prog 18 #[(.pointer Gg)] lW (fun XP qR =>
 ∃ xV : Int, ∃ Ds : Int, ∃ Ca : Int, ∃ P5 : Option Addr, ∃ jX : Nat, ∃ jy : Nat, ∃ S2 : Int, (XP = (.tuple #[(.agg #[(iV xV), (iV Ds), (iV Ca), (.slice P5 jX jy)]), (iV S2)])) ∧
 be qR (.cells #[(iV 0), (iV 0), (iV 0), (.slice none 0 0)] 47 (0, 0)) fun AM G0 =>
 sT G0 AM 0 (iV xV) fun vU =>
 sT vU AM 1 (iV Ds) fun Hi =>
 sT Hi AM 2 (iV Ca) fun xA =>
 sT xA AM 3 (.slice P5 jX jy) fun pQ =>
 aV (S2 != 0)
 (S3 [(.slice KS D9 lU)] pQ)
 (aa Tryz.prog 23 #[(.pointer Gg)] pQ (fun v61 mW =>
 aK (some v61) .i64 fun xQ =>
 aV (xQ != 0)
 (S3 [(.slice KS D9 lU)] mW)
 (rI mW AM 0 fun n64 =>
 rI mW AM 1 fun vV =>
 rI mW AM 2 fun QH =>
 rS mW AM 3 fun A67 Gm K0 =>
 be mW (.cells #[(iV n64), (iV vV), (iV QH), (.slice A67 Gm K0)] 47 (0, 0)) fun zk Eb =>
 aS Tryz.prog (Go.Builtin.append_ #[93, 93] 93 #[(.slice KS D9 lU), (.slice (some ⟨zk, 0, none⟩) 1 1)]) Eb (fun Y1 zn =>
 aD (some Y1) fun A74 S5 Qb =>
 ∃ Mr : Nat, (Mr < tX) ∧
 I37 Mr [(.slice A74 S5 Qb), (iV (IntKind.wrap .i64 (Dk + 1)))] zn) Kp)) Kp)) Kp)
 (S3 [(.slice KS D9 lU)] lW)) ∧
 ∀ junk78 : Nat → Value, ∀ Qa : Option Addr, ∀ Ee : Nat, ∀ QZ : Nat, ∀ zo : Mem, (S3 [(.slice Qa Ee QZ)] zo) → rS zo jA 4 fun A83 XO Jv =>
 rS zo jA (4 + 1) fun A86 Ms Dp =>
 rI zo jA (4 + 2) fun Mw =>
 rS zo jA (4 + 3) fun S7 NW vw =>
 rI zo jA 0 fun Jx =>
 rI zo jA 1 fun Gf =>
 rI zo jA 2 fun B5 =>
 rI zo jA 3 fun B6 =>
 aa Tryz.prog 29 #[(.agg #[(.slice A83 XO Jv), (.slice A86 Ms Dp), (iV Mw), (.slice S7 NW vw)])] zo (fun v97 Bm =>
 ∃ A99 : Option Addr, ∃ ZG : Nat, ∃ QX : Nat, ∃ uP : Option Addr, ∃ jo : Nat, ∃ wq : Nat, ∃ Q7 : Int, ∃ ZH : Option Addr, ∃ Du : Nat, ∃ Q8 : Nat, (v97 = (.agg #[(.slice A99 ZG QX), (.slice uP jo wq), (iV Q7), (.slice ZH Du Q8)])) ∧
 ((Mem.fm Bm ⟨jA, 0, none⟩ 0 4) = some [(iV Jx), (iV Gf), (iV B5), (iV B6)]) ∧
 aa Tryz.prog 30 #[(.agg #[(iV Jx), (iV Gf), (iV B5), (iV B6)])] Bm (fun v109 K8 =>
 ∃ KX : Int, ∃ uy : Int, ∃ AY : Int, ∃ E2 : Int, (v109 = (.agg #[(iV KX), (iV uy), (iV AY), (iV E2)])) ∧
 ((Mem.fm K8 ⟨jA, 0, none⟩ 0 4) = some [(iV Jx), (iV Gf), (iV B5), (iV B6)]) ∧
 aa Tryz.prog 32 #[(.pointer XM)] K8 (fun Ws mC =>
 aD (some Ws) fun HB HC zF =>
 ((Mem.fm mC ⟨jA, 0, none⟩ 0 4) = some [(iV Jx), (iV Gf), (iV B5), (iV B6)]) ∧
 aa Tryz.prog 31 #[(.slice HB HC zF)] mC (fun Wu zG =>
 bO (some Wu) fun Dw =>
 ((Mem.fm zG ⟨jA, 0, none⟩ 0 4) = some [(iV Jx), (iV Gf), (iV B5), (iV B6)]) ∧
 aa Tryz.prog 16 #[(.agg #[(.slice A99 ZG QX), (.slice uP jo wq), (iV Q7), (.slice ZH Du Q8)]), (.agg #[(iV KX), (iV uy), (iV AY), (iV E2)]), (.pointer Dw)] zG (fun v123 si =>
 bO (some v123) fun HN =>
 ((Mem.fm si ⟨jA, 0, none⟩ 0 4) = some [(iV Jx), (iV Gf), (iV B5), (iV B6)]) ∧
 ∃ Wx : Nat → List Value → Mem → Prop, (∃ k127 : Nat, Wx k127 [(iV 0)] si) ∧
 ∀ HD : Nat, ∀ junk129 : Nat → Value, ∀ x8 : Int, ∀ DE : Mem, (Wx HD [(iV x8)] DE) → aV (decide ((x8 : Int) < ((Ee : Nat) : Int)))
 (((0 : Int) ≤ x8) ∧
 ((x8 : Int) < ((Ee : Nat) : Int)) ∧
 aG Qa fun wk zw =>
 rI DE wk (zw + ((Int.toNat x8) * 4)) fun Oz =>
 rI DE wk ((zw + ((Int.toNat x8) * 4)) + 1) fun V6 =>
 rI DE wk ((zw + ((Int.toNat x8) * 4)) + 2) fun V7 =>
 rS DE wk ((zw + ((Int.toNat x8) * 4)) + 3) fun Zc ya Ra =>
 be DE (.cells #[(iV 0), (iV 0), (iV 0), (.slice none 0 0)] 47 (0, 0)) fun zH zB =>
 sT zB zH 0 (iV Oz) fun Bl =>
 sT Bl zH 1 (iV V6) fun wu =>
 sT wu zH 2 (iV V7) fun VM =>
 sT VM zH 3 (.slice Zc ya Ra) fun M145 =>
 aa Tryz.prog 18 #[(.pointer HN)] M145 (fun v146 Fc =>
 ∃ ZI : Int, ∃ ZJ : Int, ∃ zy : Int, ∃ ZK : Option Addr, ∃ ZL : Nat, ∃ Ff : Nat, ∃ Le : Int, (v146 = (.tuple #[(.agg #[(iV ZI), (iV ZJ), (iV zy), (.slice ZK ZL Ff)]), (iV Le)])) ∧
 be Fc (.cells #[(iV 0), (iV 0), (iV 0), (.slice none 0 0)] 47 (0, 0)) fun uO V9 =>
 sT V9 uO 0 (iV ZI) fun Wa =>
 sT Wa uO 1 (iV ZJ) fun Wb =>
 sT Wb uO 2 (iV zy) fun HG =>
 sT HG uO 3 (.slice ZK ZL Ff) fun wz =>
 aV (Le != 0)
 (K (.bool false) wz)
 (rI wz uO 0 fun Wc =>
 rI wz zH 0 fun We =>
 aV (Wc != We)
 (K (.bool false) wz)
 (rI wz uO 1 fun Wf =>
 rI wz zH 1 fun n164 =>
 aV (Wf != n164)
 (K (.bool false) wz)
 (rI wz uO 2 fun n165 =>
 rI wz zH 2 fun n166 =>
 aV (n165 != n166)
 (K (.bool false) wz)
 (rS wz uO 3 fun A167 VP k169 =>
 rS wz zH 3 fun A170 k171 Lc =>
 aa Tryz.prog 26 #[(.slice A167 VP k169), (.slice A170 k171 Lc)] wz (fun v173 Ov =>
 aK (some v173) .i64 fun n175 =>
 aV (n175 != 0)
 (K (.bool false) Ov)
 (∃ ZM : Nat, (ZM < HD) ∧
 Wx ZM [(iV (IntKind.wrap .i64 (x8 + 1)))] Ov)) Kp))))) Kp)
 (aa Tryz.prog 18 #[(.pointer HN)] DE (fun v177 Wh =>
 ∃ n179 : Int, ∃ Oj : Int, ∃ n181 : Int, ∃ A182 : Option Addr, ∃ Ow : Nat, ∃ k184 : Nat, ∃ Ol : Int, (v177 = (.tuple #[(.agg #[(iV n179), (iV Oj), (iV n181), (.slice A182 Ow k184)]), (iV Ol)])) ∧
 aa Tryz.prog 25 #[(.pointer Gg)] Wh (fun UP K5 =>
 aD (some UP) fun A188 k189 k190 =>
 aa Tryz.prog 25 #[(.pointer HN)] K5 (fun v191 Wi =>
 aD (some v191) fun A193 UQ k195 =>
 aa Tryz.prog 26 #[(.slice A188 k189 k190), (.slice A193 UQ k195)] Wi (fun UR uQ =>
 aK (some UR) .i64 fun K6 =>
 aV (K6 == 0)
 (aa Tryz.prog 33 #[(.pointer Gg)] uQ (fun v199 M200 =>
 aK (some v199) .i64 fun K7 =>
 aa Tryz.prog 33 #[(.pointer HN)] M200 (fun v202 Rk =>
 aK (some v202) .i64 fun VX =>
 aV (K7 == VX)
 (aa Tryz.prog 23 #[(.pointer Gg)] Rk (fun v205 HI =>
 aK (some v205) .i64 fun Wj =>
 aa Tryz.prog 23 #[(.pointer HN)] HI (fun v208 ZN =>
 aK (some v208) .i64 fun Ox =>
 aV (Wj == Ox)
 (aa Tryz.prog 21 #[(.pointer Gg)] ZN (fun v211 DB =>
 bO (some v211) fun A213 =>
 aa Tryz.prog 22 #[(.pointer A213)] DB (fun v214 UY =>
 aD (some v214) fun A216 k217 Zh =>
 aa Tryz.prog 21 #[(.pointer HN)] UY (fun v219 HJ =>
 bO (some v219) fun UZ =>
 aa Tryz.prog 22 #[(.pointer UZ)] HJ (fun v222 ZO =>
 aD (some v222) fun A224 Rj k226 =>
 aV (((k217 : Nat) : Int) == ((Rj : Nat) : Int))
 (aa Tryz.prog 28 #[(.pointer HN)] ZO (fun v227 M228 =>
 cJ (some v227) fun t229 =>
 K (.bool t229) M228) Kp)
 (K (.bool false) ZO)) Kp) Kp) Kp) Kp)
 (K (.bool false) ZN)) Kp) Kp)
 (K (.bool false) Rk)) Kp) Kp)
 (K (.bool false) uQ)) Kp) Kp) Kp) Kp)) Kp) Kp) Kp) Kp) Kp) Kp) Kp)) Kp) :
 aa Tryz.prog 8 ([.agg #[.slice jE jF jG, .slice jH jI jJ, .int .i64 fV, .slice jK jL jM], .agg #[.int .i64 dh, .int .i64 di, .int .i64 dk, .int .i64 eX], .slice B2 m2 c2] : List Value).toArray M K Kp :=
 az (C := Cx) good [(4, .bT [0, 0, 2, 0, 15, 31, 63, 63, 63, 0, 639, 1791, 4095] (.step 3 (.step 1 (.dJ 0 (.late 2 (.late 4 (.step 5 (.step 6 (.step 7 (.step 8 (.step 9 (.step 10 (.step 11 (.step 12 .done)))))))))))))), (1000000, .cut [(10, .c .sl)]), (2000000, .loop [(10, .c .sl), (34, .c (.int .i64))]), (12, .bT [0, 1, 3, 7, 0, 16, 63, 0, 255, 511, 1023, 2047] (.step 0 (.step 1 (.step 4 (.step 7 (.step 2 (.dJ 5 (.step 3 (.step 6 (.step 8 (.step 9 (.step 10 (.step 11 .done))))))))))))), (2000002, .loop [(66, .c (.int .i64))])] Tryz.func8 (by kernel_rfl) (by kernel_rfl) h
end Go.Proofs
