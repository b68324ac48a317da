/- A part of proofs about one program. -/
import Derived.Scope
import Derived.Test.YtfjgcljdnhkmaaaGreatProg
import Derived.WalkKit
import Derived.Test.YtfjgcljdnhkmaaaGreatZSchedAgainBase
import Derived.Test.YtfjgcljdnhkmaaaGreatZSchedAgainOps
import Derived.Test.YtfjgcljdnhkmaaaGreatZSchedAgainOpsB
import Derived.Test.YtfjgcljdnhkmaaaGreatZSchedAgainOpC
import Derived.Test.YtfjgcljdnhkmaaaGreatZSchedAgainFrame
import Derived.Test.YtfjgcljdnhkmaaaGreatZSchedAgainReg
import Derived.Test.YtfjgcljdnhkmaaaGreatZSchedAgainRegB
import Derived.Test.YtfjgcljdnhkmaaaGreatZSchedAgainRegL
import Derived.Test.YtfjgcljdnhkmaaaGreatZSchedAgainRegC
import Derived.Test.YtfjgcljdnhkmaaaGreatZSchedAgainExec
import Derived.Test.YtfjgcljdnhkmaaaGreatZSchedAgainSound
import Derived.Test.YtfjgcljdnhkmaaaGreatZSchedAgainSoundB
import Derived.Test.YtfjgcljdnhkmaaaGreatZSchedAgainLib
import Derived.Test.YtfjgcljdnhkmaaaGreatZSchedAgainHp
import Derived.Test.YtfjgcljdnhkmaaaGreatZSchedAgainRow
import Derived.Test.YtfjgcljdnhkmaaaGreatZSchedAgainBig
import Derived.Test.YtfjgcljdnhkmaaaGreatZSchedAgainStC
import Derived.Test.YtfjgcljdnhkmaaaGreatZSchedAgainMod
set_option linter.unusedVariables false
namespace Go.Proofs
open Go.AF
noncomputable def Cx : Ctx := ⟨Tryz.prog, 228⟩
theorem good : Cx.Good := by
 refine ⟨?_, by kernel_rfl⟩
 have h : (List.range 226).all (fun g => pE Tryz.prog (g + 2)) = true := by kernel_rfl
 intro g hg
 have h1 : g < 228 := hg.2
 have := List.all_eq_true.1 h (g - 2) (List.mem_range.2 (by omega))
 have e : g - 2 + 2 = g := by omega
 simp only [e] at this
 exact this
end Go.Proofs
namespace Go.Proofs
open Go.AF
set_option maxRecDepth 100000
variable {M : Mem} {K : Value → Mem → Prop} {Kp : List PanicEntry → Mem → Prop}
theorem Dc {x0 : Int} (h :
be M (.cells #[(iV (if (16 : Int) < (if (0 : Int) > x0 then 0 else x0) then 16 else (if (0 : Int) > x0 then 0 else x0))), (.slice none 0 0), (.slice none 0 0), (.slice none 0 0), (.bool false)] 236 (0, 0)) fun k1 M2 =>
K (.pointer (some ⟨k1, 0, none⟩)) M2) :
 aa Tryz.prog 72 ([.int .i64 x0] : List Value).toArray M K Kp :=
 az (C := Cx) good [] Tryz.func72 (by kernel_rfl) (by kernel_rfl) h
theorem nR {b0 o0 : Nat} {dh : Int} {di : Int} {dk : Int} (h :
be M (.cells #[(iV dh), (iV di), (iV dk)] 298 (0, 0)) fun k1 M2 =>
rS M2 b0 (o0 + 3) fun A3 k4 k5 =>
rI M2 k1 0 fun n6 =>
rI M2 k1 1 fun n7 =>
rI M2 k1 2 fun n8 =>
be M2 (.cells #[(iV n6), (iV n7), (iV n8)] 298 (0, 0)) fun k9 gV =>
aS Tryz.prog (Go.Builtin.append_ #[199, 199] 199 #[(.slice A3 k4 k5), (.slice (some ⟨k9, 0, none⟩) 1 1)]) gV (fun v11 ja =>
aD (some v11) fun Mh gq gj =>
sT ja b0 (o0 + 3) (.slice Mh gq gj) fun fh =>
K (.tuple #[]) fh) Kp) :
 aa Tryz.prog 205 ([.pointer (some ⟨b0, o0, none⟩), .agg #[.int .i64 dh, .int .i64 di, .int .i64 dk]] : List Value).toArray M K Kp :=
 az (C := Cx) good [(1, .bT [0, 0, 2, 6, 14, 0, 32, 126, 255, 511, 1023] (.step 0 (.step 1 (.step 2 (.step 3 (.step 4 (.step 5 (.step 6 (.step 7 (.step 8 (.step 9 (.step 10 .done))))))))))))] Tryz.func205 (by kernel_rfl) (by kernel_rfl) h
theorem nS {b0 o0 : Nat} {dh : Int} {di : Int} {dk : Int} (h :
be M (.cells #[(iV dh), (iV di), (iV dk)] 298 (0, 0)) fun k1 M2 =>
rS M2 b0 (o0 + 2) fun A3 k4 k5 =>
rI M2 k1 0 fun n6 =>
rI M2 k1 1 fun n7 =>
rI M2 k1 2 fun n8 =>
be M2 (.cells #[(iV n6), (iV n7), (iV n8)] 298 (0, 0)) fun k9 gV =>
aS Tryz.prog (Go.Builtin.append_ #[199, 199] 199 #[(.slice A3 k4 k5), (.slice (some ⟨k9, 0, none⟩) 1 1)]) gV (fun v11 ja =>
aD (some v11) fun Mh gq gj =>
sT ja b0 (o0 + 2) (.slice Mh gq gj) fun fh =>
K (.tuple #[]) fh) Kp) :
 aa Tryz.prog 206 ([.pointer (some ⟨b0, o0, none⟩), .agg #[.int .i64 dh, .int .i64 di, .int .i64 dk]] : List Value).toArray M K Kp :=
 az (C := Cx) good [(1, .bT [0, 0, 2, 6, 14, 0, 32, 126, 255, 511, 1023] (.step 0 (.step 1 (.step 2 (.step 3 (.step 4 (.step 5 (.step 6 (.step 7 (.step 8 (.step 9 (.step 10 .done))))))))))))] Tryz.func206 (by kernel_rfl) (by kernel_rfl) h
theorem sS {b0 o0 : Nat} {x1 : Int} (h :
be M (.cells #[(iV 0), (iV 0), (iV 0)] 298 (0, 0)) fun k1 M2 =>
cJ (Mem.ld M2 ⟨b0, (o0 + 4), none⟩) fun t3 =>
aV t3
 (sT M2 k1 0 (iV 0) fun M4 =>
 sT M4 k1 1 (iV 0) fun M5 =>
 sT M5 k1 2 (iV 0) fun M6 =>
 rI M6 k1 0 fun n7 =>
 rI M6 k1 1 fun n8 =>
 rI M6 k1 2 fun n9 =>
 K (.tuple #[(.agg #[(iV n7), (iV n8), (iV n9)]), (.bool false), (iV 10)]) M6)
 (rS M2 b0 (o0 + 3) fun BY eL fU =>
 aV (decide ((((eL : Nat) : Int) : Int) > 0))
 (be M2 (.cells #[(iV 0), (iV 0), (iV 0)] 298 (0, 0)) fun dm iC =>
 rS iC b0 (o0 + 3) fun qO dO eT =>
 aa Tryz.prog 222 #[(.slice qO dO eT)] iC (fun EW iq =>
 ∃ fI : Int, ∃ nT : Int, ∃ sC : Int, ∃ P4 : Option Addr, ∃ ri : Nat, ∃ sU : Nat, (EW = (.tuple #[(.agg #[(iV fI), (iV nT), (iV sC)]), (.slice P4 ri sU)])) ∧
 sT iq dm 0 (iV fI) fun xl =>
 sT xl dm 1 (iV nT) fun sD =>
 sT sD dm 2 (iV sC) fun y7 =>
 sT y7 b0 (o0 + 3) (.slice P4 ri sU) fun mA =>
 sT mA dm 2 (iV x1) fun oM =>
 rI oM dm 0 fun tV =>
 rI oM dm 1 fun n32 =>
 rI oM dm 2 fun lI =>
 sT oM k1 0 (iV tV) fun mI =>
 sT mI k1 1 (iV n32) fun qP =>
 sT qP k1 2 (iV lI) fun pA =>
 rI pA k1 0 fun NB =>
 rI pA k1 1 fun KJ =>
 rI pA k1 2 fun Ji =>
 K (.tuple #[(.agg #[(iV NB), (iV KJ), (iV Ji)]), (.bool true), (iV 0)]) pA) Kp)
 (rS M2 b0 (o0 + 1) fun A40 NC D9 =>
 rI M2 b0 o0 fun Ea =>
 aV (decide ((((NC : Nat) : Int) : Int) < Ea))
 (rS M2 b0 (o0 + 1) fun A44 Mi Jj =>
 be M2 (.cells #[(iV x1)] 2 (0, 0)) fun Mj ND =>
 aS Tryz.prog (Go.Builtin.append_ #[59, 59] 59 #[(.slice A44 Mi Jj), (.slice (some ⟨Mj, 0, none⟩) 1 1)]) ND (fun Jk AH =>
 aD (some Jk) fun P5 jX jy =>
 sT AH b0 (o0 + 1) (.slice P5 jX jy) fun EX =>
 sT EX k1 0 (iV 0) fun oD =>
 sT oD k1 1 (iV 0) fun G0 =>
 sT G0 k1 2 (iV 0) fun vU =>
 rI vU k1 0 fun EY =>
 rI vU k1 1 fun Dd =>
 rI vU k1 2 fun Jl =>
 K (.tuple #[(.agg #[(iV EY), (iV Dd), (iV Jl)]), (.bool false), (iV 0)]) vU) Kp)
 (sT M2 k1 0 (iV 0) fun ym =>
 sT ym k1 1 (iV 0) fun mW =>
 sT mW k1 2 (iV 0) fun xm =>
 rI xm k1 0 fun n64 =>
 rI xm k1 1 fun vV =>
 rI xm k1 2 fun QH =>
 K (.tuple #[(.agg #[(iV n64), (iV vV), (iV QH)]), (.bool false), (iV 6)]) xm)))) :
 aa Tryz.prog 207 ([.pointer (some ⟨b0, o0, none⟩), .int .i64 x1] : List Value).toArray M K Kp :=
 az (C := Cx) good [(8, .bT [0, 1, 3, 7, 15, 0, 32, 96, 224, 511, 1023] (.step 0 (.step 1 (.step 2 (.step 5 (.step 6 (.step 7 (.step 3 (.step 4 (.step 8 (.step 9 (.step 10 .done))))))))))))] Tryz.func207 (by kernel_rfl) (by kernel_rfl) h
theorem sV {b0 o0 : Nat} (h :
be M (.cells #[(iV 0), (.bool false), (iV 0), (iV 0), (iV 0), (.bool false)] 335 (0, 0)) fun k1 M2 =>
be M2 (.cells #[(iV 0), (.bool false), (iV 0), (iV 0), (iV 0), (.bool false)] 335 (0, 0)) fun k3 M4 =>
rS M4 b0 (o0 + 2) fun A5 k6 k7 =>
∃ J8 : List Value → Mem → Prop, (aV (decide ((((k6 : Nat) : Int) : Int) > 0))
 (rS M4 b0 (o0 + 2) fun A9 dP eL =>
 aa Tryz.prog 222 #[(.slice A9 dP eL)] M4 (fun QI j7 =>
 ∃ jc : Int, ∃ jY : Int, ∃ mB : Int, ∃ Mk : Option Addr, ∃ en : Nat, ∃ jd : Nat, (QI = (.tuple #[(.agg #[(iV jc), (iV jY), (iV mB)]), (.slice Mk en jd)])) ∧
 sT j7 k3 2 (iV jc) fun nU =>
 sT nU k3 (2 + 1) (iV jY) fun je =>
 sT je k3 (2 + 2) (iV mB) fun cZ =>
 sT cZ b0 (o0 + 2) (.slice Mk en jd) fun lg =>
 sT lg k3 5 (.bool true) fun iz =>
 rS iz b0 (o0 + 1) fun KK lT oN =>
 rI iz k3 (2 + 2) fun xn =>
 be iz (.cells #[(iV xn)] 2 (0, 0)) fun kB oM =>
 aS Tryz.prog (Go.Builtin.append_ #[59, 59] 59 #[(.slice KK lT oN), (.slice (some ⟨kB, 0, none⟩) 1 1)]) oM (fun T6 mX =>
 aD (some T6) fun KL uw sW =>
 sT mX b0 (o0 + 1) (.slice KL uw sW) fun pA =>
 J8 [] pA) Kp) Kp)
 (J8 [] M4)) ∧
∀ junk37 : Nat → Value, ∀ jZ : Mem, (J8 [] jZ) → rS jZ b0 (o0 + 1) fun XF AX NC =>
aV (decide ((((AX : Nat) : Int) : Int) > 0))
 (rS jZ b0 (o0 + 1) fun Ml lU KM =>
 ((0 : Int) ≤ 0) ∧
 ((0 : Int) < ((lU : Nat) : Int)) ∧
 aG Ml fun Mi Jj =>
 rI jZ Mi (Jj + 0) fun BZ =>
 sT jZ k3 0 (iV BZ) fun ND =>
 sT ND k3 1 (.bool true) fun yn =>
 be yn (.cells #[] 2 (0, 0)) fun y8 M51 =>
 rS M51 b0 (o0 + 1) fun T7 jy De =>
 ((0 : Int) ≤ ((De : Nat) : Int)) ∧
 ((((De : Nat) : Int) : Int) ≤ ((De : Nat) : Int)) ∧
 ((0 : Int) ≤ ((jy : Nat) : Int)) ∧
 ((((jy : Nat) : Int) : Int) ≤ ((De : Nat) : Int)) ∧
 ((0 : Int) ≤ 1) ∧
 ((1 : Int) ≤ ((jy : Nat) : Int)) ∧
 aS Tryz.prog (Go.Builtin.append_ #[59, 59] 59 #[(.slice (some ⟨y8, 0, none⟩) 0 0), (.slice (lM T7 1 (Int.toNat ((De : Nat) : Int)) 1) ((Int.toNat ((jy : Nat) : Int)) - 1) ((Int.toNat ((De : Nat) : Int)) - 1))]) M51 (fun YI G0 =>
 aD (some YI) fun A57 EZ T8 =>
 sT G0 b0 (o0 + 1) (.slice A57 EZ T8) fun pQ =>
 rI pQ k3 0 fun KN =>
 cJ (Mem.ld pQ ⟨k3, 1, none⟩) fun t62 =>
 rI pQ k3 2 fun xQ =>
 rI pQ k3 3 fun n64 =>
 rI pQ k3 4 fun vV =>
 cJ (Mem.ld pQ ⟨k3, 5, none⟩) fun t66 =>
 sT pQ k1 0 (iV KN) fun P6 =>
 sT P6 k1 1 (.bool t62) fun NF =>
 sT NF k1 2 (iV xQ) fun YJ =>
 sT YJ k1 3 (iV n64) fun AI =>
 sT AI k1 4 (iV vV) fun Eb =>
 sT Eb k1 5 (.bool t66) fun vW =>
 rI vW k1 0 fun P7 =>
 cJ (Mem.ld vW ⟨k1, 1, none⟩) fun t74 =>
 rI vW k1 2 fun NG =>
 rI vW k1 3 fun NH =>
 rI vW k1 4 fun E0 =>
 cJ (Mem.ld vW ⟨k1, 5, none⟩) fun t78 =>
 K (.tuple #[(.agg #[(iV P7), (.bool t74), (iV NG), (iV NH), (iV E0), (.bool t78)]), (iV 0)]) vW) Kp)
 (cJ (Mem.ld jZ ⟨b0, (o0 + 4), none⟩) fun t79 =>
 aV t79
 (rI jZ k3 0 fun YK =>
 cJ (Mem.ld jZ ⟨k3, 1, none⟩) fun t81 =>
 rI jZ k3 2 fun Jm =>
 rI jZ k3 3 fun SQ =>
 rI jZ k3 4 fun KO =>
 cJ (Mem.ld jZ ⟨k3, 5, none⟩) fun t85 =>
 sT jZ k1 0 (iV YK) fun B4 =>
 sT B4 k1 1 (.bool t81) fun AJ =>
 sT AJ k1 2 (iV Jm) fun T9 =>
 sT T9 k1 3 (iV SQ) fun Df =>
 sT Df k1 4 (iV KO) fun Ua =>
 sT Ua k1 5 (.bool t85) fun j0 =>
 rI j0 k1 0 fun n92 =>
 cJ (Mem.ld j0 ⟨k1, 1, none⟩) fun t93 =>
 rI j0 k1 2 fun Gf =>
 rI j0 k1 3 fun B5 =>
 rI j0 k1 4 fun B6 =>
 cJ (Mem.ld j0 ⟨k1, 5, none⟩) fun t97 =>
 K (.tuple #[(.agg #[(iV n92), (.bool t93), (iV Gf), (iV B5), (iV B6), (.bool t97)]), (iV 0)]) j0)
 (rI jZ k3 0 fun XG =>
 cJ (Mem.ld jZ ⟨k3, 1, none⟩) fun t99 =>
 rI jZ k3 2 fun ux =>
 rI jZ k3 3 fun NI =>
 rI jZ k3 4 fun G1 =>
 cJ (Mem.ld jZ ⟨k3, 5, none⟩) fun t103 =>
 sT jZ k1 0 (iV XG) fun G2 =>
 sT G2 k1 1 (.bool t99) fun mY =>
 sT mY k1 2 (iV ux) fun y9 =>
 sT y9 k1 3 (iV NI) fun za =>
 sT za k1 4 (iV G1) fun xR =>
 sT xR k1 5 (.bool t103) fun nV =>
 rI nV k1 0 fun E1 =>
 cJ (Mem.ld nV ⟨k1, 1, none⟩) fun t111 =>
 rI nV k1 2 fun uy =>
 rI nV k1 3 fun AY =>
 rI nV k1 4 fun E2 =>
 cJ (Mem.ld nV ⟨k1, 5, none⟩) fun t115 =>
 K (.tuple #[(.agg #[(iV E1), (.bool t111), (iV uy), (iV AY), (iV E2), (.bool t115)]), (iV 5)]) nV))) :
 aa Tryz.prog 209 ([.pointer (some ⟨b0, o0, none⟩)] : List Value).toArray M K Kp :=
 az (C := Cx) good [(3000010, .cut []), (5, .bT [0, 0, 2, 6, 14, 0, 32, 96, 224, 510, 1023, 2047, 4095] (.step 0 (.step 1 (.step 2 (.step 3 (.step 5 (.step 6 (.step 4 (.step 7 (.step 8 (.step 9 (.step 10 (.step 11 (.step 12 .done))))))))))))))] Tryz.func209 (by kernel_rfl) (by kernel_rfl) h
theorem rj {b0 o0 : Nat} (h :
cJ (Mem.ld M ⟨b0, (o0 + 4), none⟩) fun t1 =>
aV t1
 (K (.tuple #[(.slice none 0 0), (.slice none 0 0), (iV 10)]) M)
 (rS M b0 (o0 + 3) fun A2 k3 k4 =>
 rS M b0 (o0 + 2) fun A5 k6 k7 =>
 sT M b0 (o0 + 4) (.bool true) fun M8 =>
 sT M8 b0 (o0 + 3) (.slice none 0 0) fun M9 =>
 sT M9 b0 (o0 + 2) (.slice none 0 0) fun gV =>
 K (.tuple #[(.slice A2 k3 k4), (.slice A5 k6 k7), (iV 0)]) gV)) :
 aa Tryz.prog 213 ([.pointer (some ⟨b0, o0, none⟩)] : List Value).toArray M K Kp :=
 az (C := Cx) good [(3, .bT [0, 1, 3, 7, 0, 16, 48, 112, 15, 511] (.step 0 (.step 1 (.step 2 (.step 4 (.step 5 (.step 6 (.step 3 (.step 8 (.step 7 (.step 9 .done)))))))))))] Tryz.func213 (by kernel_rfl) (by kernel_rfl) h
theorem oO {b0 o0 : Nat} (h :
cJ (Mem.ld M ⟨b0, (o0 + 4), none⟩) fun t1 =>
aV t1
 (K (.bool true) M)
 (rS M b0 (o0 + 2) fun A2 k3 k4 =>
 aV (decide ((((k3 : Nat) : Int) : Int) > 0))
 (K (.bool true) M)
 (rS M b0 (o0 + 1) fun A5 k6 k7 =>
 K (.bool (decide ((((k6 : Nat) : Int) : Int) > 0))) M))) :
 aa Tryz.prog 220 ([.pointer (some ⟨b0, o0, none⟩)] : List Value).toArray M K Kp :=
 az (C := Cx) good [] Tryz.func220 (by kernel_rfl) (by kernel_rfl) h
theorem oP {b0 o0 : Nat} (h :
cJ (Mem.ld M ⟨b0, (o0 + 4), none⟩) fun t1 =>
aV t1
 (K (.bool true) M)
 (rS M b0 (o0 + 3) fun A2 k3 k4 =>
 aV (decide ((((k3 : Nat) : Int) : Int) > 0))
 (K (.bool true) M)
 (rS M b0 (o0 + 1) fun A5 k6 k7 =>
 rI M b0 o0 fun n8 =>
 K (.bool (decide ((((k6 : Nat) : Int) : Int) < n8))) M))) :
 aa Tryz.prog 221 ([.pointer (some ⟨b0, o0, none⟩)] : List Value).toArray M K Kp :=
 az (C := Cx) good [(1, .bT [0, 1, 3, 7, 15, 31, 63, 127, 255, 511, 1023, 2047, 4095, 8191, 16383, 32767, 65535, 131071, 8191, 270335, 794623, 1843199, 4194303, 8388607, 16777215] (.step 0 (.step 1 (.step 2 (.step 3 (.step 4 (.step 5 (.step 6 (.step 7 (.step 8 (.step 9 (.step 10 (.step 11 (.step 12 (.step 13 (.step 14 (.step 15 (.step 18 (.step 19 (.step 20 (.step 16 (.step 17 (.step 21 (.step 22 (.step 23 (.step 24 .done))))))))))))))))))))))))))] Tryz.func221 (by kernel_rfl) (by kernel_rfl) h
theorem zb {B0 : Option Addr} {m0 c0 : Nat} (h :
be M (.cells #[(iV 0), (iV 0), (iV 0)] 298 (0, 0)) fun k1 M2 =>
((0 : Int) ≤ 0) ∧
((0 : Int) < ((m0 : Nat) : Int)) ∧
aG B0 fun k3 k4 =>
((0 : Int) ≤ ((c0 : Nat) : Int)) ∧
((((c0 : Nat) : Int) : Int) ≤ ((c0 : Nat) : Int)) ∧
((0 : Int) ≤ ((m0 : Nat) : Int)) ∧
((((m0 : Nat) : Int) : Int) ≤ ((c0 : Nat) : Int)) ∧
((0 : Int) ≤ 1) ∧
((1 : Int) ≤ ((m0 : Nat) : Int)) ∧
rI M2 k3 (k4 + 0) fun n5 =>
rI M2 k3 ((k4 + 0) + 1) fun n6 =>
rI M2 k3 ((k4 + 0) + 2) fun n7 =>
be M2 (.cells #[] 298 (0, 0)) fun k8 M9 =>
aS Tryz.prog (Go.Builtin.append_ #[199, 199] 199 #[(.slice (some ⟨k8, 0, none⟩) 0 0), (.slice (lM B0 1 (Int.toNat ((c0 : Nat) : Int)) 3) ((Int.toNat ((m0 : Nat) : Int)) - 1) ((Int.toNat ((c0 : Nat) : Int)) - 1))]) M9 (fun v10 hH =>
aD (some v10) fun sE dm gq =>
((Mem.fm hH ⟨k3, (k4 + 0), none⟩ 0 3) = some [(iV n5), (iV n6), (iV n7)]) ∧
sT hH k1 0 (iV n5) fun oE =>
sT oE k1 1 (iV n6) fun fh =>
sT fh k1 2 (iV n7) fun j8 =>
((Mem.fm j8 ⟨k3, (k4 + 0), none⟩ 0 3) = some [(iV n5), (iV n6), (iV n7)]) ∧
rI j8 k1 0 fun kL =>
rI j8 k1 1 fun xo =>
rI j8 k1 2 fun fI =>
K (.tuple #[(.agg #[(iV kL), (iV xo), (iV fI)]), (.slice sE dm gq)]) j8) Kp) :
 aa Tryz.prog 222 ([.slice B0 m0 c0] : List Value).toArray M K Kp :=
 az (C := Cx) good [(1, .bT [0, 1, 3, 0, 0, 16, 56, 127, 255] (.step 0 (.step 1 (.step 4 (.step 5 (.dJ 2 (.step 3 (.step 6 (.step 7 (.step 8 .done))))))))))] Tryz.func222 (by kernel_rfl) (by kernel_rfl) h
theorem sX {b0 o0 : Nat} {x1 : Int} (h :
rS M b0 (o0 + 2) fun A1 k2 k3 =>
(aa Tryz.prog 227 #[(.slice A1 k2 k3), (iV x1)] M (fun v4 M5 =>
 aD (some v4) fun A6 k7 k8 =>
 rS M5 b0 (o0 + 3) fun A9 dP eL =>
 aa Tryz.prog 227 #[(.slice A9 dP eL), (iV x1)] M5 (fun QI j7 =>
 aD (some QI) fun oF gj dO =>
 sT j7 b0 (o0 + 2) (.slice A6 k7 k8) fun j8 =>
 sT j8 b0 (o0 + 3) (.slice oF gj dO) fun mZ =>
 K (.tuple #[]) mZ) Kp) Kp) ∧
(rS M b0 (o0 + 3) fun AK iA fC =>
 aa Tryz.prog 227 #[(.slice A1 k2 k3), (iV x1)] M (fun G3 lg =>
 aD (some G3) fun G4 sU lT =>
 aa Tryz.prog 227 #[(.slice AK iA fC), (iV x1)] lg (fun NJ y7 =>
 aD (some NJ) fun SR lJ nW =>
 sT y7 b0 (o0 + 2) (.slice G4 sU lT) fun mX =>
 sT mX b0 (o0 + 3) (.slice SR lJ nW) fun uz =>
 K (.tuple #[]) uz) Kp) Kp) ∧
True) :
 aa Tryz.prog 226 ([.pointer (some ⟨b0, o0, none⟩), .int .i64 x1] : List Value).toArray M K Kp :=
 az (C := Cx) good [(0, .bT [0, 0, 0, 4, 12, 28, 0, 124, 0, 256, 768, 1792, 0, 8188, 16381, 32765, 65533, 131071, 262143, 524287] (.step 0 (.step 1 (.step 2 (.step 3 (.step 4 (.step 6 (.step 8 (.step 9 (.step 10 (.step 12 (.step 5 (.fork 7 (.step 11 (.step 13 (.step 14 (.step 15 (.step 16 (.step 17 (.step 18 (.step 19 .done)))))))) (.fork 11 (.step 7 (.step 13 (.step 14 (.step 15 (.step 16 (.step 17 (.step 18 (.step 19 .done)))))))) .dead))))))))))))))] Tryz.func226 (by kernel_rfl) (by kernel_rfl) h
theorem vX {B0 : Option Addr} {m0 c0 : Nat} {x1 : Int} (h :
∃ I1 : Nat → List Value → Mem → Prop, (∃ k2 : Nat, I1 k2 [(.slice none 0 0), (iV 0)] M) ∧
∀ k3 : Nat, ∀ uA : Nat → Value, ∀ A5 : Option Addr, ∀ k6 : Nat, ∀ k7 : Nat, ∀ n8 : Int, ∀ M9 : Mem, (I1 k3 [(.slice A5 k6 k7), (iV n8)] M9) → aV (decide ((n8 : Int) < ((m0 : Nat) : Int)))
 (((0 : Int) ≤ n8) ∧
 ((n8 : Int) < ((m0 : Nat) : Int)) ∧
 aG B0 fun dP eL =>
 rI M9 dP (eL + ((Int.toNat n8) * 3)) fun jf =>
 rI M9 dP ((eL + ((Int.toNat n8) * 3)) + 1) fun jg =>
 rI M9 dP ((eL + ((Int.toNat n8) * 3)) + 2) fun jc =>
 be M9 (.cells #[(iV 0), (iV 0), (iV 0)] 298 (0, 0)) fun gj fh =>
 sT fh gj 0 (iV jf) fun j8 =>
 sT j8 gj 1 (iV jg) fun mZ =>
 sT mZ gj 2 (iV jc) fun iq =>
 rI iq gj 0 fun fI =>
 aV (fI != x1)
 (rI iq gj 0 fun nT =>
 rI iq gj 1 fun sC =>
 rI iq gj 2 fun nX =>
 be iq (.cells #[(iV nT), (iV sC), (iV nX)] 298 (0, 0)) fun ri B7 =>
 aS Tryz.prog (Go.Builtin.append_ #[199, 199] 199 #[(.slice A5 k6 k7), (.slice (some ⟨ri, 0, none⟩) 1 1)]) B7 (fun YL sD =>
 aD (some YL) fun KP kB lJ =>
 ∃ nW : Nat, (nW < k3) ∧
 I1 nW [(.slice KP kB lJ), (iV (IntKind.wrap .i64 (n8 + 1)))] sD) Kp)
 (∃ tW : Nat, (tW < k3) ∧
 I1 tW [(.slice A5 k6 k7), (iV (IntKind.wrap .i64 (n8 + 1)))] iq))
 (K (.slice A5 k6 k7) M9)) :
 aa Tryz.prog 227 ([.slice B0 m0 c0, .int .i64 x1] : List Value).toArray M K Kp :=
 az (C := Cx) good [(2000000, .loop [(5, .c .sl), (10, .c (.int .i64))])] Tryz.func227 (by kernel_rfl) (by kernel_rfl) h
end Go.Proofs
namespace Go.Proofs
open Go.AF
set_option maxRecDepth 100000
set_option maxHeartbeats 1000000
attribute [local irreducible] aK cJ fJ bO aD fz aG aO be aS bJ aV
theorem zc : bg Tryz.prog 59 2 1 8 [.int .i64 0] := bg.mk' (zv := .int .i64 0) (by kernel_rfl) (by kernel_rfl) rfl (by omega)
theorem yo : bg Tryz.prog 199 298 3 24 [.int .i64 0, .int .i64 0, .int .i64 0] := bg.mk' (zv := .agg #[.int .i64 0, .int .i64 0, .int .i64 0]) (by kernel_rfl) (by kernel_rfl) rfl (by omega)
abbrev uB (A : Option Addr) (c : Nat) (l : List Int) : HP := bD bl 2 A c l
abbrev uC (A : Option Addr) (c : Nat) (l : List Wt) : HP := bD gQ 298 A c l
abbrev ir (c : aX) (Ab : Option Addr) (cb : Nat) (As : Option Addr) (cs : Nat) (Ar : Option Addr) (cr : Nat) : List Value :=
 [.int .i64 (c.room : Int), .slice Ab c.buf.length cb, .slice As c.snd.length cs, .slice Ar c.eI.length cr, .bool c.closed]
def bM : tU aX := ⟨fun b c => exs fun Ab : Option Addr => exs fun cb : Nat => exs fun As : Option Addr => exs fun cs : Nat => exs fun Ar : Option Addr => exs fun cr : Nat =>
 sep [pt b (ir c Ab cb As cs Ar cr) 236, uB Ab cb c.buf, uC As cs c.snd, uC Ar cr c.eI]⟩
section
variable {R : Mem} {L L' : List HP} {M : Mem} {K : Value → Mem → Prop} {Kp : List PanicEntry → Mem → Prop} {b : Nat} {c : aX}
theorem iu (h : Hp R L M) [o : cq bM b L c L'] : ∃ Ab cb As cs Ar cr, Hp R (pt b (ir c Ab cb As cs Ar cr) 236 :: uB Ab cb c.buf :: uC As cs c.snd :: uC Ar cr c.eI :: L') M := by
 have := h.obj bM b
 simpa only [bM, Hp.dS, Hp.bk, List.cons_append, List.nil_append] using this
theorem Jn {Ab As Ar : Option Addr} {cb cs cr : Nat} (h : Hp R (pt b (ir c Ab cb As cs Ar cr) 236 :: uB Ab cb c.buf :: uC As cs c.snd :: uC Ar cr c.eI :: L) M) : Hp R (aB bM b c :: L) M := by
 refine Hp.vR ?_
 simp only [bM, Hp.dS, Hp.bk, List.cons_append, List.nil_append]
 exact ⟨_, _, _, _, _, _, h⟩
theorem dG {Ab As Ar : Option Addr} {nb cb ns cs nr cr room : Nat} {closed : Bool} {buf : List Int} {snd eI : List Wt} {L1 L2 L3 L4 : List HP} (h : Hp R L M) (b : Nat)
  [p : jU b L [.int .i64 (room : Int), .slice Ab nb cb, .slice As ns cs, .slice Ar nr cr, .bool closed] 236 L1] [p1 : cL Ab L1 Int bl 2 cb buf L2] [p2 : cL As L2 Wt gQ 298 cs snd L3] [p3 : cL Ar L3 Wt gQ 298 cr eI L4]
  (e1 : nb = buf.length := by first | rfl | simp) (e2 : ns = snd.length := by first | rfl | simp) (e3 : nr = eI.length := by first | rfl | simp) : Hp R (aB bM b ⟨room, buf, snd, eI, closed⟩ :: L4) M := by
 subst e1; subst e2; subst e3
 exact Jn (h.sub (.cons p.pick (.cons p1.pick (.cons p2.pick (.cons p3.pick .refl)))))
theorem B8 {room : Int} (h : Hp R L M) (k : ∀ b M', Hp R (aB bM b (.new room) :: L) M' → K (.pointer (some ⟨b, 0, none⟩)) M') :
  aa Tryz.prog 72 #[.int .i64 room] M K Kp := by
 refine Dc ?_
 rw [Nq]
 refine aq h fun b M' h => k b M' (Jn ((((h.bX gQ _).bX gQ _).bX bl _).sub bz))
theorem xp {B : Option Addr} {m c : Nat} {w : Wt} {r : List Wt} (h : Hp R L M) (hB : Src R L B (gQ.cells (w :: r))) (hm : m = r.length + 1) (hc : m ≤ c) (hn : m ≤ 1000000000)
  (k : ∀ A' c' M', Hp R (uC A' c' r :: L) M' → K (.tuple #[.agg #[.int .i64 w.g, .int .i64 w.cs, .int .i64 w.v], .slice A' r.length c']) M') :
  aa Tryz.prog 222 #[.slice B m c] M K Kp := by
 refine zb ?_
 obtain ⟨b, o, rfl⟩ := hB.kY h (by simp) (by decide)
 repeat (first | (refine aq h ?_; clear h; intro kb M h) | (refine av h ?_; clear h; intro M h) | refine St.to h ?_ | (apply Exists.intro; (repeat apply Exists.intro); refine And.intro rfl ?_) | (refine And.intro ?_ ?_; first | exact rfl | ((repeat (refine ay (aA h) ?_)); exact ae) | omega) | refine ai ?_ | refine aj ?_)
 refine aZ (hB.cons.at h (i := 0) (j := 0) rfl rfl (by omega)) ?_
 refine aZ (hB.cons.at h (i := 0) (j := 1) rfl rfl (by omega)) ?_
 refine aZ (hB.cons.at h (i := 0) (j := 2) rfl rfl (by omega)) ?_
 repeat (first | (refine aq h ?_; clear h; intro kb M h) | (refine av h ?_; clear h; intro M h) | refine St.to h ?_ | (apply Exists.intro; (repeat apply Exists.intro); refine And.intro rfl ?_) | (refine And.intro ?_ ?_; first | exact rfl | ((repeat (refine ay (aA h) ?_)); exact ae) | omega) | refine ai ?_ | refine aj ?_)
 have s2 := hB.drop (m := 1) (c := c) (by simp; omega)
 simp only [Int.toNat_natCast]
 refine h.iL gQ yo r s2.cons.cons (by omega) (by omega) ?_
 clear h
 intro A' c' M h
 repeat (first | (refine aq h ?_; clear h; intro kb M h) | (refine av h ?_; clear h; intro M h) | refine St.to h ?_ | (apply Exists.intro; (repeat apply Exists.intro); refine And.intro rfl ?_) | (refine And.intro ?_ ?_; first | exact rfl | ((repeat (refine ay (aA h) ?_)); exact ae) | omega) | refine ai ?_ | refine aj ?_)
 refine ⟨hB.cons.cons.fm h (i := 0) rfl (by omega), ?_⟩
 repeat (first | (refine aq h ?_; clear h; intro kb M h) | (refine av h ?_; clear h; intro M h) | refine St.to h ?_ | (apply Exists.intro; (repeat apply Exists.intro); refine And.intro rfl ?_) | (refine And.intro ?_ ?_; first | exact rfl | ((repeat (refine ay (aA h) ?_)); exact ae) | omega) | refine ai ?_ | refine aj ?_)
 refine ⟨hB.cons.cons.fm h (i := 0) rfl (by omega), ?_⟩
 repeat (first | (refine aq h ?_; clear h; intro kb M h) | (refine av h ?_; clear h; intro M h) | refine St.to h ?_ | (apply Exists.intro; (repeat apply Exists.intro); refine And.intro rfl ?_) | (refine And.intro ?_ ?_; first | exact rfl | ((repeat (refine ay (aA h) ?_)); exact ae) | omega) | refine ai ?_ | refine aj ?_)
 exact k _ _ _ h.vS
theorem AZ (h : Hp R L M) [o : cq bM b L c L'] (k : K (.bool c.uo) M) : aa Tryz.prog 221 #[.pointer (some ⟨b, 0, none⟩)] M K Kp := by
 refine oP ?_
 have h' := iu h (b := b)
 clear h
 obtain ⟨Ab, cb, As, cs, Ar, cr, h⟩ := h'
 repeat (first | (refine aq h ?_; clear h; intro kb M h) | (refine av h ?_; clear h; intro M h) | refine St.to h ?_ | (apply Exists.intro; (repeat apply Exists.intro); refine And.intro rfl ?_) | (refine And.intro ?_ ?_; first | exact rfl | ((repeat (refine ay (aA h) ?_)); exact ae) | omega) | refine ai ?_ | refine aj ?_)
 refine gL.2 ⟨fun hc => ?_, fun hc => ?_⟩
 ·rwa [aX.uo, hc] at k
 ·repeat (first | (refine aq h ?_; clear h; intro kb M h) | (refine av h ?_; clear h; intro M h) | refine St.to h ?_ | (apply Exists.intro; (repeat apply Exists.intro); refine And.intro rfl ?_) | (refine And.intro ?_ ?_; first | exact rfl | ((repeat (refine ay (aA h) ?_)); exact ae) | omega) | refine ai ?_ | refine aj ?_)
  refine aP.2 ⟨fun hr => ?_, fun hr => ?_⟩
  ·have : c.eI.isEmpty = false := by cases hc : c.eI <;> simp_all
   rwa [aX.uo, hc, this] at k
  ·repeat (first | (refine aq h ?_; clear h; intro kb M h) | (refine av h ?_; clear h; intro M h) | refine St.to h ?_ | (apply Exists.intro; (repeat apply Exists.intro); refine And.intro rfl ?_) | (refine And.intro ?_ ?_; first | exact rfl | ((repeat (refine ay (aA h) ?_)); exact ae) | omega) | refine ai ?_ | refine aj ?_)
   have : c.eI.isEmpty = true := by cases hc : c.eI <;> simp_all
   rw [aX.uo, hc, this] at k
   simpa using k
theorem Ba (h : Hp R L M) [o : cq bM b L c L'] (k : K (.bool c.uq) M) : aa Tryz.prog 220 #[.pointer (some ⟨b, 0, none⟩)] M K Kp := by
 refine oO ?_
 have h' := iu h (b := b)
 clear h
 obtain ⟨Ab, cb, As, cs, Ar, cr, h⟩ := h'
 repeat (first | (refine aq h ?_; clear h; intro kb M h) | (refine av h ?_; clear h; intro M h) | refine St.to h ?_ | (apply Exists.intro; (repeat apply Exists.intro); refine And.intro rfl ?_) | (refine And.intro ?_ ?_; first | exact rfl | ((repeat (refine ay (aA h) ?_)); exact ae) | omega) | refine ai ?_ | refine aj ?_)
 refine gL.2 ⟨fun hc => ?_, fun hc => ?_⟩
 ·rwa [aX.uq, hc] at k
 ·repeat (first | (refine aq h ?_; clear h; intro kb M h) | (refine av h ?_; clear h; intro M h) | refine St.to h ?_ | (apply Exists.intro; (repeat apply Exists.intro); refine And.intro rfl ?_) | (refine And.intro ?_ ?_; first | exact rfl | ((repeat (refine ay (aA h) ?_)); exact ae) | omega) | refine ai ?_ | refine aj ?_)
  refine aP.2 ⟨fun hr => ?_, fun hr => ?_⟩
  ·have : c.snd.isEmpty = false := by cases hc : c.snd <;> simp_all
   rwa [aX.uq, hc, this] at k
  ·repeat (first | (refine aq h ?_; clear h; intro kb M h) | (refine av h ?_; clear h; intro M h) | refine St.to h ?_ | (apply Exists.intro; (repeat apply Exists.intro); refine And.intro rfl ?_) | (refine And.intro ?_ ?_; first | exact rfl | ((repeat (refine ay (aA h) ?_)); exact ae) | omega) | refine ai ?_ | refine aj ?_)
   have : c.snd.isEmpty = true := by cases hc : c.snd <;> simp_all
   rw [aX.uq, hc, this] at k
   have e : (!c.buf.isEmpty) = decide ((c.buf.length : Int) > 0) := by cases c.buf <;> simp
   rw [← e]; simpa using k
theorem pR {w : Wt} (h : Hp R L M) [o : cq bM b L c L'] (hs : c.Small 1000000000) (k : ∀ M', Hp R (aB bM b { c with snd := c.snd ++ [w] } :: L') M' → K (.tuple #[]) M') :
  aa Tryz.prog 206 #[.pointer (some ⟨b, 0, none⟩), .agg #[.int .i64 w.g, .int .i64 w.cs, .int .i64 w.v]] M K Kp := by
 refine nS ?_
 have h' := iu h (b := b)
 clear h
 obtain ⟨Ab, cb, As, cs, Ar, cr, h⟩ := h'
 obtain ⟨h1, h2, h3⟩ := hs
 repeat (first | (refine aq h ?_; clear h; intro kb M h) | (refine av h ?_; clear h; intro M h) | refine St.to h ?_ | (apply Exists.intro; (repeat apply Exists.intro); refine And.intro rfl ?_) | (refine And.intro ?_ ?_; first | exact rfl | ((repeat (refine ay (aA h) ?_)); exact ae) | omega) | refine ai ?_ | refine aj ?_)
 refine h.bS yo [w] rfl rfl (by simp; omega) ?_
 clear h
 intro A' c' M h
 repeat (first | (refine aq h ?_; clear h; intro kb M h) | (refine av h ?_; clear h; intro M h) | refine St.to h ?_ | (apply Exists.intro; (repeat apply Exists.intro); refine And.intro rfl ?_) | (refine And.intro ?_ ?_; first | exact rfl | ((repeat (refine ay (aA h) ?_)); exact ae) | omega) | refine ai ?_ | refine aj ?_)
 exact k _ (dG h b).b7
theorem pS {w : Wt} (h : Hp R L M) [o : cq bM b L c L'] (hs : c.Small 1000000000) (k : ∀ M', Hp R (aB bM b { c with eI := c.eI ++ [w] } :: L') M' → K (.tuple #[]) M') :
  aa Tryz.prog 205 #[.pointer (some ⟨b, 0, none⟩), .agg #[.int .i64 w.g, .int .i64 w.cs, .int .i64 w.v]] M K Kp := by
 refine nR ?_
 have h' := iu h (b := b)
 clear h
 obtain ⟨Ab, cb, As, cs, Ar, cr, h⟩ := h'
 obtain ⟨h1, h2, h3⟩ := hs
 repeat (first | (refine aq h ?_; clear h; intro kb M h) | (refine av h ?_; clear h; intro M h) | refine St.to h ?_ | (apply Exists.intro; (repeat apply Exists.intro); refine And.intro rfl ?_) | (refine And.intro ?_ ?_; first | exact rfl | ((repeat (refine ay (aA h) ?_)); exact ae) | omega) | refine ai ?_ | refine aj ?_)
 refine h.bS yo [w] rfl rfl (by simp; omega) ?_
 clear h
 intro A' c' M h
 repeat (first | (refine aq h ?_; clear h; intro kb M h) | (refine av h ?_; clear h; intro M h) | refine St.to h ?_ | (apply Exists.intro; (repeat apply Exists.intro); refine And.intro rfl ?_) | (refine And.intro ?_ ?_; first | exact rfl | ((repeat (refine ay (aA h) ?_)); exact ae) | omega) | refine ai ?_ | refine aj ?_)
 exact k _ (dG h b).b7
def SS (x : Wt × Bool × Int) : Value := .tuple #[.agg #[.int .i64 x.1.g, .int .i64 x.1.cs, .int .i64 x.1.v], .bool x.2.1, .int .i64 x.2.2]
theorem G5 {v : Int} (h : Hp R L M) [o : cq bM b L c L'] (hs : c.Small 1000000000) (k : ∀ M', Hp R (aB bM b (c.send v).1 :: L') M' → K (SS (c.send v).2) M') :
  aa Tryz.prog 207 #[.pointer (some ⟨b, 0, none⟩), .int .i64 v] M K Kp := by
 refine sS ?_
 obtain ⟨room, buf, snd, eI, closed⟩ := c
 obtain ⟨h1, h2, h3⟩ := hs
 have h' := iu h (b := b)
 clear h
 obtain ⟨Ab, cb, As, cs, Ar, cr, h⟩ := h'
 dsimp only [ir] at h1 h2 h3 h
 repeat (first | (refine aq h ?_; clear h; intro kb M h) | (refine av h ?_; clear h; intro M h) | refine St.to h ?_ | (apply Exists.intro; (repeat apply Exists.intro); refine And.intro rfl ?_) | (refine And.intro ?_ ?_; first | exact rfl | ((repeat (refine ay (aA h) ?_)); exact ae) | omega) | refine ai ?_ | refine aj ?_)
 refine gL.2 ⟨fun hc => ?_, fun hc => ?_⟩
 ·subst hc
  repeat (first | (refine aq h ?_; clear h; intro kb M h) | (refine av h ?_; clear h; intro M h) | refine St.to h ?_ | (apply Exists.intro; (repeat apply Exists.intro); refine And.intro rfl ?_) | (refine And.intro ?_ ?_; first | exact rfl | ((repeat (refine ay (aA h) ?_)); exact ae) | omega) | refine ai ?_ | refine aj ?_)
  exact k _ (dG h b).b7
 subst hc
 repeat (first | (refine aq h ?_; clear h; intro kb M h) | (refine av h ?_; clear h; intro M h) | refine St.to h ?_ | (apply Exists.intro; (repeat apply Exists.intro); refine And.intro rfl ?_) | (refine And.intro ?_ ?_; first | exact rfl | ((repeat (refine ay (aA h) ?_)); exact ae) | omega) | refine ai ?_ | refine aj ?_)
 refine aP.2 ⟨fun hr => ?_, fun hr => ?_⟩
 ·cases eI with
  | nil => simp at hr
  | cons w r =>
   repeat (first | (refine aq h ?_; clear h; intro kb M h) | (refine av h ?_; clear h; intro M h) | refine St.to h ?_ | (apply Exists.intro; (repeat apply Exists.intro); refine And.intro rfl ?_) | (refine And.intro ?_ ?_; first | exact rfl | ((repeat (refine ay (aA h) ?_)); exact ae) | omega) | refine ai ?_ | refine aj ?_)
   refine xp h (h.src (A := Ar)) rfl (h.jV Ar) (by simpa using h3) ?_
   clear h
   intro A' c' M h
   repeat (first | (refine aq h ?_; clear h; intro kb M h) | (refine av h ?_; clear h; intro M h) | refine St.to h ?_ | (apply Exists.intro; (repeat apply Exists.intro); refine And.intro rfl ?_) | (refine And.intro ?_ ?_; first | exact rfl | ((repeat (refine ay (aA h) ?_)); exact ae) | omega) | refine ai ?_ | refine aj ?_)
   exact k _ (dG h b).b7
 cases eI with
 | cons w r => simp at hr
 | nil =>
 simp only [aX.send, Bool.false_eq_true, if_false] at k
 repeat (first | (refine aq h ?_; clear h; intro kb M h) | (refine av h ?_; clear h; intro M h) | refine St.to h ?_ | (apply Exists.intro; (repeat apply Exists.intro); refine And.intro rfl ?_) | (refine And.intro ?_ ?_; first | exact rfl | ((repeat (refine ay (aA h) ?_)); exact ae) | omega) | refine ai ?_ | refine aj ?_)
 refine aP.2 ⟨fun hl => ?_, fun hl => ?_⟩
 ·rw [if_pos (by omega)] at k
  repeat (first | (refine aq h ?_; clear h; intro kb M h) | (refine av h ?_; clear h; intro M h) | refine St.to h ?_ | (apply Exists.intro; (repeat apply Exists.intro); refine And.intro rfl ?_) | (refine And.intro ?_ ?_; first | exact rfl | ((repeat (refine ay (aA h) ?_)); exact ae) | omega) | refine ai ?_ | refine aj ?_)
  refine h.bS zc [v] rfl rfl (by simp; omega) ?_
  clear h
  intro A' c' M h
  repeat (first | (refine aq h ?_; clear h; intro kb M h) | (refine av h ?_; clear h; intro M h) | refine St.to h ?_ | (apply Exists.intro; (repeat apply Exists.intro); refine And.intro rfl ?_) | (refine And.intro ?_ ?_; first | exact rfl | ((repeat (refine ay (aA h) ?_)); exact ae) | omega) | refine ai ?_ | refine aj ?_)
  exact k _ (dG h b).b7
 ·rw [if_neg (by omega)] at k
  repeat (first | (refine aq h ?_; clear h; intro kb M h) | (refine av h ?_; clear h; intro M h) | refine St.to h ?_ | (apply Exists.intro; (repeat apply Exists.intro); refine And.intro rfl ?_) | (refine And.intro ?_ ?_; first | exact rfl | ((repeat (refine ay (aA h) ?_)); exact ae) | omega) | refine ai ?_ | refine aj ?_)
  exact k _ (dG h b).b7
def SU (x : Int × Bool × Wt × Bool × Int) : Value := .tuple #[.agg #[.int .i64 x.1, .bool x.2.1, .int .i64 x.2.2.1.g, .int .i64 x.2.2.1.cs, .int .i64 x.2.2.1.v, .bool x.2.2.2.1], .int .i64 x.2.2.2.2]
theorem G6 (h : Hp R L M) [o : cq bM b L c L'] (hs : c.Small 1000000000) (k : ∀ M', Hp R (aB bM b c.recv.1 :: L') M' → K (SU c.recv.2) M') :
  aa Tryz.prog 209 #[.pointer (some ⟨b, 0, none⟩)] M K Kp := by
 refine sV ?_
 obtain ⟨room, buf, snd, eI, closed⟩ := c
 obtain ⟨h1, h2, h3⟩ := hs
 have h' := iu h (b := b)
 clear h
 obtain ⟨Ab, cb, As, cs, Ar, cr, h⟩ := h'
 dsimp only [ir] at h1 h2 h3 h
 refine aq h ?_
 clear h
 intro kr M h
 refine aq h ?_
 clear h
 intro kg M h
 repeat (first | (refine aq h ?_; clear h; intro kb M h) | (refine av h ?_; clear h; intro M h) | refine St.to h ?_ | (apply Exists.intro; (repeat apply Exists.intro); refine And.intro rfl ?_) | (refine And.intro ?_ ?_; first | exact rfl | ((repeat (refine ay (aA h) ?_)); exact ae) | omega) | refine ai ?_ | refine aj ?_)
 refine ⟨fun vs M => vs = [] ∧ ∃ Ab cb As cs, Hp R (pt kr [.int .i64 0, .bool false, .int .i64 0, .int .i64 0, .int .i64 0, .bool false] 335 ::
  pt kg [.int .i64 0, .bool false, .int .i64 (snd.headD .zero).g, .int .i64 (snd.headD .zero).cs, .int .i64 (snd.headD .zero).v, .bool (!snd.isEmpty)] 335 ::
  pt b (ir ⟨room, aX.all ⟨room, buf, snd, eI, closed⟩, snd.tail, eI, closed⟩ Ab cb As cs Ar cr) 236 :: uB Ab cb (aX.all ⟨room, buf, snd, eI, closed⟩) :: uC As cs snd.tail :: uC Ar cr eI :: L') M, ?_, ?_⟩
 ·refine aP.2 ⟨fun hr => ?_, fun hr => ?_⟩
  ·cases snd with
   | nil => simp at hr
   | cons w r =>
    repeat (first | (refine aq h ?_; clear h; intro kb M h) | (refine av h ?_; clear h; intro M h) | refine St.to h ?_ | (apply Exists.intro; (repeat apply Exists.intro); refine And.intro rfl ?_) | (refine And.intro ?_ ?_; first | exact rfl | ((repeat (refine ay (aA h) ?_)); exact ae) | omega) | refine ai ?_ | refine aj ?_)
    refine xp h (h.src (A := As)) rfl (h.jV As) (by simpa using h2) ?_
    clear h
    intro A' c' M h
    repeat (first | (refine aq h ?_; clear h; intro kb M h) | (refine av h ?_; clear h; intro M h) | refine St.to h ?_ | (apply Exists.intro; (repeat apply Exists.intro); refine And.intro rfl ?_) | (refine And.intro ?_ ?_; first | exact rfl | ((repeat (refine ay (aA h) ?_)); exact ae) | omega) | refine ai ?_ | refine aj ?_)
    refine h.bS zc [w.v] rfl rfl (by simp; omega) ?_
    clear h
    intro A2 c2 M h
    repeat (first | (refine aq h ?_; clear h; intro kb M h) | (refine av h ?_; clear h; intro M h) | refine St.to h ?_ | (apply Exists.intro; (repeat apply Exists.intro); refine And.intro rfl ?_) | (refine And.intro ?_ ?_; first | exact rfl | ((repeat (refine ay (aA h) ?_)); exact ae) | omega) | refine ai ?_ | refine aj ?_)
    exact ⟨A2, c2, A', c', h.sub bz⟩
  ·cases snd with
   | cons w r => simp at hr
   | nil => exact ⟨rfl, Ab, cb, As, cs, h.sub bz⟩
 clear h
 rintro _ M ⟨_, Ab, cb, As, cs, h⟩
 unfold aX.recv at k
 dsimp only at k
 have gS : (aX.all ⟨room, buf, snd, eI, closed⟩).length ≤ 1000000001 := by unfold aX.all; split <;> simp <;> omega
 have Qv : aX.all ⟨room, buf, snd, eI, closed⟩ = [] → snd = [] ∧ buf = [] := by unfold aX.all; dsimp only; cases snd <;> simp
 generalize aX.all ⟨room, buf, snd, eI, closed⟩ = all at h k gS Qv
 dsimp only [ir] at h
 repeat (first | (refine aq h ?_; clear h; intro kb M h) | (refine av h ?_; clear h; intro M h) | refine St.to h ?_ | (apply Exists.intro; (repeat apply Exists.intro); refine And.intro rfl ?_) | (refine And.intro ?_ ?_; first | exact rfl | ((repeat (refine ay (aA h) ?_)); exact ae) | omega) | refine ai ?_ | refine aj ?_)
 refine aP.2 ⟨fun hr => ?_, fun hr => ?_⟩
 ·cases all with
  | nil => simp at hr
  | cons v l =>
   dsimp only at k
   repeat (first | (refine aq h ?_; clear h; intro kb M h) | (refine av h ?_; clear h; intro M h) | refine St.to h ?_ | (apply Exists.intro; (repeat apply Exists.intro); refine And.intro rfl ?_) | (refine And.intro ?_ ?_; first | exact rfl | ((repeat (refine ay (aA h) ?_)); exact ae) | omega) | refine ai ?_ | refine aj ?_)
   obtain ⟨x, rfl⟩ := h.bx (A := Ab) (by simp) (by decide)
   repeat (first | (refine aq h ?_; clear h; intro kb M h) | (refine av h ?_; clear h; intro M h) | refine St.to h ?_ | (apply Exists.intro; (repeat apply Exists.intro); refine And.intro rfl ?_) | (refine And.intro ?_ ?_; first | exact rfl | ((repeat (refine ay (aA h) ?_)); exact ae) | omega) | refine ai ?_ | refine aj ?_)
   refine aZ ((h.src (A := some ⟨x, 0, none⟩)).at h (i := 0) (j := 0) rfl rfl (by omega)) ?_
   have hcap := h.jV (some ⟨x, 0, none⟩)
   have hlen : l.length + 1 ≤ 1000000001 := by simpa using gS
   repeat (first | (refine aq h ?_; clear h; intro kb M h) | (refine av h ?_; clear h; intro M h) | refine St.to h ?_ | (apply Exists.intro; (repeat apply Exists.intro); refine And.intro rfl ?_) | (refine And.intro ?_ ?_; first | exact rfl | ((repeat (refine ay (aA h) ?_)); exact ae) | omega) | refine ai ?_ | refine aj ?_)
   simp only [Int.toNat_natCast]
   refine h.iL bl zc l ((h.src (A := some ⟨x, 0, none⟩)).drop (m := 1) hcap) (by simp) (by omega) ?_
   clear h
   intro A' c' M h
   repeat (first | (refine aq h ?_; clear h; intro kb M h) | (refine av h ?_; clear h; intro M h) | refine St.to h ?_ | (apply Exists.intro; (repeat apply Exists.intro); refine And.intro rfl ?_) | (refine And.intro ?_ ?_; first | exact rfl | ((repeat (refine ay (aA h) ?_)); exact ae) | omega) | refine ai ?_ | refine aj ?_)
   exact k _ (dG h b).b7
 ·cases all with
  | cons v l => simp at hr
  | nil =>
  obtain ⟨rfl, rfl⟩ := Qv rfl
  repeat (first | (refine aq h ?_; clear h; intro kb M h) | (refine av h ?_; clear h; intro M h) | refine St.to h ?_ | (apply Exists.intro; (repeat apply Exists.intro); refine And.intro rfl ?_) | (refine And.intro ?_ ?_; first | exact rfl | ((repeat (refine ay (aA h) ?_)); exact ae) | omega) | refine ai ?_ | refine aj ?_)
  refine gL.2 ⟨fun hc => ?_, fun hc => ?_⟩
  ·subst hc
   repeat (first | (refine aq h ?_; clear h; intro kb M h) | (refine av h ?_; clear h; intro M h) | refine St.to h ?_ | (apply Exists.intro; (repeat apply Exists.intro); refine And.intro rfl ?_) | (refine And.intro ?_ ?_; first | exact rfl | ((repeat (refine ay (aA h) ?_)); exact ae) | omega) | refine ai ?_ | refine aj ?_)
   exact k _ (dG h b).b7
  ·subst hc
   repeat (first | (refine aq h ?_; clear h; intro kb M h) | (refine av h ?_; clear h; intro M h) | refine St.to h ?_ | (apply Exists.intro; (repeat apply Exists.intro); refine And.intro rfl ?_) | (refine And.intro ?_ ?_; first | exact rfl | ((repeat (refine ay (aA h) ?_)); exact ae) | omega) | refine ai ?_ | refine aj ?_)
   exact k _ (dG h b).b7
theorem E3 (h : Hp R L M) [o : cq bM b L c L']
  (k : ∀ A ca B cb M', Hp R (aB bM b c.close.1 :: uC B cb c.close.2.2.1 :: uC A ca c.close.2.1 :: L') M' → K (.tuple #[.slice A c.close.2.1.length ca, .slice B c.close.2.2.1.length cb, .int .i64 c.close.2.2.2]) M') :
  aa Tryz.prog 213 #[.pointer (some ⟨b, 0, none⟩)] M K Kp := by
 refine rj ?_
 obtain ⟨room, buf, snd, eI, closed⟩ := c
 have h' := iu h (b := b)
 clear h
 obtain ⟨Ab, cb, As, cs, Ar, cr, h⟩ := h'
 dsimp only [ir] at h
 repeat (first | (refine aq h ?_; clear h; intro kb M h) | (refine av h ?_; clear h; intro M h) | refine St.to h ?_ | (apply Exists.intro; (repeat apply Exists.intro); refine And.intro rfl ?_) | (refine And.intro ?_ ?_; first | exact rfl | ((repeat (refine ay (aA h) ?_)); exact ae) | omega) | refine ai ?_ | refine aj ?_)
 refine gL.2 ⟨fun hc => ?_, fun hc => ?_⟩
 ·subst hc
  have h := dG ((h.bX gQ 298).bX gQ 298) b
  exact k none 0 none 0 _ h
 ·subst hc
  repeat (first | (refine aq h ?_; clear h; intro kb M h) | (refine av h ?_; clear h; intro M h) | refine St.to h ?_ | (apply Exists.intro; (repeat apply Exists.intro); refine And.intro rfl ?_) | (refine And.intro ?_ ?_; first | exact rfl | ((repeat (refine ay (aA h) ?_)); exact ae) | omega) | refine ai ?_ | refine aj ?_)
  have h := (h.bX gQ 298).bX gQ 298
  exact k _ _ _ _ _ ((dG h b).sub bz)
theorem jz {B : Option Addr} {n cc : Nat} {g : Int} {l : List Wt} (h : Hp R L M) (hB : Src R L B (gQ.cells l)) (hn : n = l.length) (hs : l.length ≤ 1000000000)
  (k : ∀ A' c' M', Hp R (uC A' c' (wo g l) :: L) M' → K (.slice A' (wo g l).length c') M') :
  aa Tryz.prog 227 #[.slice B n cc, .int .i64 g] M K Kp := by
 subst hn
 refine vX ⟨fun d vs M => ∃ i A c, vs = [.slice A (wo g (l.take i)).length c, .int .i64 (i : Int)] ∧ d = l.length - i ∧ i ≤ l.length ∧ Hp R (uC A c (wo g (l.take i)) :: L) M,
  ⟨_, 0, none, 0, rfl, rfl, by omega, h.bX _ _⟩, ?_⟩
 clear h
 rintro d _ A n c' ii M ⟨i, _, _, he, hd, hi, h⟩
 simp only [List.cons.injEq, Value.slice.injEq, Value.int.injEq, and_true, true_and] at he
 obtain ⟨⟨rfl, rfl, rfl⟩, rfl⟩ := he
 refine aP.2 ⟨fun hlt => ?_, fun hge => ?_⟩
 ·obtain ⟨w, hw⟩ := aR (l := l) (i := i) (by omega)
  obtain ⟨b, o, rfl⟩ := hB.cons.kY h (by omega) (by decide)
  have e1 : IntKind.wrap .i64 ((i : Int) + 1) = ((i + 1 : Nat) : Int) := aU (by omega)
  have hl := GW g (l.take i)
  have jD := List.length_take_le i l
  rw [e1]
  repeat (first | (refine aq h ?_; clear h; intro kb M h) | (refine av h ?_; clear h; intro M h) | refine St.to h ?_ | (apply Exists.intro; (repeat apply Exists.intro); refine And.intro rfl ?_) | (refine And.intro ?_ ?_; first | exact rfl | ((repeat (refine ay (aA h) ?_)); exact ae) | omega) | refine ai ?_ | refine aj ?_)
  refine aZ (hB.cons.at h (j := 0) hw rfl (by simp [gQ])) ?_
  refine aZ (hB.cons.at h (j := 1) hw rfl (by simp [gQ]; omega)) ?_
  refine aZ (hB.cons.at h (j := 2) hw rfl (by simp [gQ]; omega)) ?_
  repeat (first | (refine aq h ?_; clear h; intro kb M h) | (refine av h ?_; clear h; intro M h) | refine St.to h ?_ | (apply Exists.intro; (repeat apply Exists.intro); refine And.intro rfl ?_) | (refine And.intro ?_ ?_; first | exact rfl | ((repeat (refine ay (aA h) ?_)); exact ae) | omega) | refine ai ?_ | refine aj ?_)
  refine cK.2 ⟨fun hne => ?_, fun heq => ?_⟩
  ·have e2 : wo g (l.take (i + 1)) = wo g (l.take i) ++ [w] := by rw [cC hw, Ns]; simp [wo, hne]
   repeat (first | (refine aq h ?_; clear h; intro kb M h) | (refine av h ?_; clear h; intro M h) | refine St.to h ?_ | (apply Exists.intro; (repeat apply Exists.intro); refine And.intro rfl ?_) | (refine And.intro ?_ ?_; first | exact rfl | ((repeat (refine ay (aA h) ?_)); exact ae) | omega) | refine ai ?_ | refine aj ?_)
   refine h.bS yo [w] rfl rfl (by simp; omega) ?_
   clear h
   intro A' c' M h
   repeat (first | (refine aq h ?_; clear h; intro kb M h) | (refine av h ?_; clear h; intro M h) | refine St.to h ?_ | (apply Exists.intro; (repeat apply Exists.intro); refine And.intro rfl ?_) | (refine And.intro ?_ ?_; first | exact rfl | ((repeat (refine ay (aA h) ?_)); exact ae) | omega) | refine ai ?_ | refine aj ?_)
   exact ⟨l.length - (i + 1), by omega, i + 1, A', c', by rw [e2], rfl, by omega, by rw [e2]; exact h.b7⟩
  ·have e2 : wo g (l.take (i + 1)) = wo g (l.take i) := by rw [cC hw, Ns]; simp [wo, heq]
   exact ⟨l.length - (i + 1), by omega, i + 1, A, c', by rw [e2], rfl, by omega, by rw [e2]; exact h.vS⟩
 ·have : i = l.length := by omega
  subst this
  rw [List.take_length] at h ⊢
  exact k _ _ _ h
theorem G7 {g : Int} (h : Hp R L M) [o : cq bM b L c L'] (hs : c.Small 1000000000) (k : ∀ M', Hp R (aB bM b (c.drop g) :: L') M' → K (.tuple #[]) M') :
  aa Tryz.prog 226 #[.pointer (some ⟨b, 0, none⟩), .int .i64 g] M K Kp := by
 refine sX ?_
 have h' := iu h (b := b)
 clear h
 obtain ⟨Ab, cb, As, cs, Ar, cr, h⟩ := h'
 obtain ⟨h1, h2, h3⟩ := hs
 repeat (first | (refine aq h ?_; clear h; intro kb M h) | (refine av h ?_; clear h; intro M h) | refine St.to h ?_ | (apply Exists.intro; (repeat apply Exists.intro); refine And.intro rfl ?_) | (refine And.intro ?_ ?_; first | exact rfl | ((repeat (refine ay (aA h) ?_)); exact ae) | omega) | refine ai ?_ | refine aj ?_)
 refine ⟨?_, ?_, trivial⟩
 ·refine jz h (h.src (A := As)) rfl h2 ?_
  clear h
  intro A' c' M h
  repeat (first | (refine aq h ?_; clear h; intro kb M h) | (refine av h ?_; clear h; intro M h) | refine St.to h ?_ | (apply Exists.intro; (repeat apply Exists.intro); refine And.intro rfl ?_) | (refine And.intro ?_ ?_; first | exact rfl | ((repeat (refine ay (aA h) ?_)); exact ae) | omega) | refine ai ?_ | refine aj ?_)
  refine jz h (h.src (A := Ar)) rfl h3 ?_
  clear h
  intro B' d' M h
  repeat (first | (refine aq h ?_; clear h; intro kb M h) | (refine av h ?_; clear h; intro M h) | refine St.to h ?_ | (apply Exists.intro; (repeat apply Exists.intro); refine And.intro rfl ?_) | (refine And.intro ?_ ?_; first | exact rfl | ((repeat (refine ay (aA h) ?_)); exact ae) | omega) | refine ai ?_ | refine aj ?_)
  exact k _ (dG h b).b7
 ·repeat (first | (refine aq h ?_; clear h; intro kb M h) | (refine av h ?_; clear h; intro M h) | refine St.to h ?_ | (apply Exists.intro; (repeat apply Exists.intro); refine And.intro rfl ?_) | (refine And.intro ?_ ?_; first | exact rfl | ((repeat (refine ay (aA h) ?_)); exact ae) | omega) | refine ai ?_ | refine aj ?_)
  refine jz h (h.src (A := As)) rfl h2 ?_
  clear h
  intro A' c' M h
  repeat (first | (refine aq h ?_; clear h; intro kb M h) | (refine av h ?_; clear h; intro M h) | refine St.to h ?_ | (apply Exists.intro; (repeat apply Exists.intro); refine And.intro rfl ?_) | (refine And.intro ?_ ?_; first | exact rfl | ((repeat (refine ay (aA h) ?_)); exact ae) | omega) | refine ai ?_ | refine aj ?_)
  refine jz h (h.src (A := Ar)) rfl h3 ?_
  clear h
  intro B' d' M h
  repeat (first | (refine aq h ?_; clear h; intro kb M h) | (refine av h ?_; clear h; intro M h) | refine St.to h ?_ | (apply Exists.intro; (repeat apply Exists.intro); refine And.intro rfl ?_) | (refine And.intro ?_ ?_; first | exact rfl | ((repeat (refine ay (aA h) ?_)); exact ae) | omega) | refine ai ?_ | refine aj ?_)
  exact k _ (dG h b).b7
end
end Go.Proofs
namespace Go.AF
theorem nY {α β γ : Type} {f : α → β → γ} : ∀ {l : List α} {m : List β} {i : Nat} {a : α} {b : β}, l[i]? = some a → (List.zipWith f l m).set i (f a b) = List.zipWith f l (m.set i b)
 | [], _, _, _, _, h => by simp at h
 | x :: l, [], i, a, b, h => by simp
 | x :: l, y :: m, 0, a, b, h => by simp at h; subst h; rfl
 | x :: l, y :: m, i + 1, a, b, h => by
  have := nY (f := f) (m := m) (b := b) (show l[i]? = some a from by simpa using h)
  simp [this]
theorem G8 {α β γ : Type} {f : α → β → γ} : ∀ {l : List α} {m : List β} {i : Nat} {a : α} {b : β}, l[i]? = some a → m[i]? = some b → (List.zipWith f l m)[i]? = some (f a b)
 | [], _, _, _, _, h, _ => by simp at h
 | x :: l, [], i, a, b, h, g => by simp at g
 | x :: l, y :: m, 0, a, b, h, g => by simp at h g; subst h; subst g; rfl
 | x :: l, y :: m, i + 1, a, b, h, g => by simpa using G8 (f := f) (show l[i]? = some a from by simpa using h) (show m[i]? = some b from by simpa using g)
theorem de.YM {P : HP} {L : List HP} : ∀ (l : List HP), de (l ++ P :: L) P (l ++ L)
 | [] => .here
 | Q :: l => .there (de.YM l)
section
variable {α : Type} {r : tU α} {R : Mem} {L L' nN : List HP} {M : Mem} {bs : List Nat} {cs : List α} {b i : Nat} {c : α}
def bn (r : tU α) (bs : List Nat) (cs : List α) : HP := sep (List.zipWith (aB r) bs cs)
def lV (r : tU α) (bs : List Nat) (cs : List α) (i : Nat) : HP := sep ((List.zipWith (aB r) bs cs).eraseIdx i)
class fP (r : tU α) (L : List HP) (bs : outParam (List Nat)) (cs : outParam (List α)) (L' : outParam (List HP)) : Prop where
 pick : de L (bn r bs cs) L'
instance fP.here : fP r (bn r bs cs :: L) bs cs L := ⟨.here⟩
instance (priority := low) fP.there {P : HP} [h : fP r L bs cs L'] : fP r (P :: L) bs cs (P :: L') := ⟨.there h.pick⟩
class xq (r : tU α) (L : List HP) (bs : outParam (List Nat)) (cs : outParam (List α)) (i : outParam Nat) (L' : outParam (List HP)) : Prop where
 pick : de L (lV r bs cs i) L'
instance xq.here : xq r (lV r bs cs i :: L) bs cs i L := ⟨.here⟩
instance (priority := low) xq.there {P : HP} [h : xq r L bs cs i L'] : xq r (P :: L) bs cs i (P :: L') := ⟨.there h.pick⟩
theorem Hp.nZ (h : Hp R L M) (r : tU α) {bs : List Nat} {cs : List α} [o : fP r L bs cs L'] : Hp R (bn r bs cs :: L') M := h.pick o.pick
theorem Hp.uD (h : Hp R L M) (r : tU α) : Hp R (bn r [] [] :: L) M := Hp.bk.2 h
theorem Hp.dn (h : Hp R L M) (r : tU α) {bs : List Nat} {cs : List α} [o : fP r L bs cs L'] (hb : bs[i]? = some b) (hc : cs[i]? = some c) : Hp R (aB r b c :: lV r bs cs i :: L') M :=
 (h.pick o.pick).focus (G8 hb hc)
theorem Hp.eu (h : Hp R L M) (r : tU α) (b : Nat) {bs : List Nat} {cs : List α} {i : Nat} {c : α} [o : cq r b L c L'] [x : xq r L' bs cs i nN] (hb : bs[i]? = some b) (hc : i < cs.length) : Hp R (bn r bs (cs.set i c) :: nN) M := by
 have h1 : Hp R (aB r b c :: lV r bs cs i :: nN) M := (h.pick o.pick).map fun _ hs => hs.tail (fun _ => bZ.pick x.pick)
 have h2 := Hp.QD (ls := List.zipWith (aB r) bs cs) h1 (by rw [List.length_zipWith]; have := (List.getElem?_eq_some_iff.1 hb).1; omega)
 rw [nY hb] at h2
 exact h2
theorem Hp.qQ (h : Hp R L M) (r : tU α) (b : Nat) {bs : List Nat} {cs : List α} {i : Nat} {c : α} [o : cq r b L c L'] [x : xq r L' bs cs i nN] (hb : bs[i]? = some b) (hc : cs[i]? = some c) : Hp R (bn r bs cs :: nN) M := by
 have := h.eu r b hb (List.getElem?_eq_some_iff.1 hc).1
 obtain ⟨hi, rfl⟩ := List.getElem?_eq_some_iff.1 hc
 rwa [List.set_getElem_self] at this
theorem Hp.kM (h : Hp R L M) (r : tU α) (b : Nat) {bs : List Nat} {cs : List α} {c : α} [o : cq r b L c L'] [x : fP r L' bs cs nN] (hl : bs.length = cs.length) : Hp R (bn r (bs ++ [b]) (cs ++ [c]) :: nN) M := by
 have h1 : Hp R (aB r b c :: bn r bs cs :: nN) M := (h.pick o.pick).map fun _ hs => hs.tail (fun _ => bZ.pick x.pick)
 refine Hp.bk.2 ?_
 rw [List.zipWith_append hl, List.append_assoc]
 refine Hp.nK (P := aB r b c) ?_ (de.YM _)
 exact h1.map fun _ hs => hs.tail fun _ hb => bZ.bk.1 hb
end
end Go.AF
namespace Go.Proofs
open Go.AF
set_option maxRecDepth 100000
variable {M : Mem} {K : Value → Mem → Prop} {Kp : List PanicEntry → Mem → Prop}
theorem vY {B0 : Option Addr} {m0 c0 : Nat} {B1 : Option Addr} {m1 c1 : Nat} (h :
∃ I1 : Nat → List Value → Mem → Prop, (∃ k2 : Nat, I1 k2 [(.slice none 0 0), (iV 0)] M) ∧
∀ k3 : Nat, ∀ uA : Nat → Value, ∀ A5 : Option Addr, ∀ k6 : Nat, ∀ k7 : Nat, ∀ n8 : Int, ∀ M9 : Mem, (I1 k3 [(.slice A5 k6 k7), (iV n8)] M9) → aV (decide ((n8 : Int) < ((m0 : Nat) : Int)))
 (((0 : Int) ≤ n8) ∧
 ((n8 : Int) < ((m0 : Nat) : Int)) ∧
 aG B0 fun dP eL =>
 rI M9 dP (eL + ((Int.toNat n8) * 3)) fun jf =>
 rI M9 dP ((eL + ((Int.toNat n8) * 3)) + 1) fun jg =>
 rI M9 dP ((eL + ((Int.toNat n8) * 3)) + 2) fun jc =>
 be M9 (.cells #[(iV 0), (iV 0), (iV 0)] 172 (0, 0)) fun gj fh =>
 sT fh gj 0 (iV jf) fun j8 =>
 sT j8 gj 1 (iV jg) fun mZ =>
 sT mZ gj 2 (iV jc) fun iq =>
 rI iq gj 0 fun fI =>
 rI iq gj 1 fun nT =>
 rI iq gj 2 fun sC =>
 aa Tryz.prog 204 #[(.agg #[(iV fI), (iV nT), (iV sC)]), (.slice B1 m1 c1)] iq (fun Ub iz =>
 cJ (some Ub) fun t25 =>
 aV t25
 (be iz (.cells #[(iV n8)] 3 (0, 0)) fun lT sD =>
 aS Tryz.prog (Go.Builtin.append_ #[38, 38] 38 #[(.slice A5 k6 k7), (.slice (some ⟨lT, 0, none⟩) 1 1)]) sD (fun NK mA =>
 aD (some NK) fun Gg nW tW =>
 ∃ jA : Nat, (jA < k3) ∧
 I1 jA [(.slice Gg nW tW), (iV (IntKind.wrap .i64 (n8 + 1)))] mA) Kp)
 (∃ uw : Nat, (uw < k3) ∧
 I1 uw [(.slice A5 k6 k7), (iV (IntKind.wrap .i64 (n8 + 1)))] iz)) Kp)
 (K (.slice A5 k6 k7) M9)) :
 aa Tryz.prog 155 ([.slice B0 m0 c0, .slice B1 m1 c1] : List Value).toArray M K Kp :=
 az (C := Cx) good [(2000000, .loop [(5, .c .sl), (10, .c (.int .i64))])] Tryz.func155 (by kernel_rfl) (by kernel_rfl) h
theorem Bb {B0 : Option Addr} {m0 c0 : Nat} (h :
∃ I1 : Nat → List Value → Mem → Prop, (∃ k2 : Nat, I1 k2 [(iV 0)] M) ∧
∀ k3 : Nat, ∀ uA : Nat → Value, ∀ n5 : Int, ∀ M6 : Mem, (I1 k3 [(iV n5)] M6) → aV (decide ((n5 : Int) < ((m0 : Nat) : Int)))
 (((0 : Int) ≤ n5) ∧
 ((n5 : Int) < ((m0 : Nat) : Int)) ∧
 aG B0 fun k7 k8 =>
 rI M6 k7 (k8 + ((Int.toNat n5) * 3)) fun n9 =>
 rI M6 k7 ((k8 + ((Int.toNat n5) * 3)) + 1) fun j9 =>
 rI M6 k7 ((k8 + ((Int.toNat n5) * 3)) + 2) fun fA =>
 be M6 (.cells #[(iV 0), (iV 0), (iV 0)] 172 (0, 0)) fun fU j7 =>
 sT j7 fU 0 (iV n9) fun iC =>
 sT iC fU 1 (iV j9) fun oE =>
 sT oE fU 2 (iV fA) fun fh =>
 rI fh fU 0 fun iw =>
 aV (iw == 2)
 (K (.tuple #[(iV n5), (.bool true)]) fh)
 (∃ en : Nat, (en < k3) ∧
 I1 en [(iV (IntKind.wrap .i64 (n5 + 1)))] fh))
 (K (.tuple #[(iV 0), (.bool false)]) M6)) :
 aa Tryz.prog 156 ([.slice B0 m0 c0] : List Value).toArray M K Kp :=
 az (C := Cx) good [(2000000, .loop [(8, .c (.int .i64))])] Tryz.func156 (by kernel_rfl) (by kernel_rfl) h
theorem Bc {x0 : Int} {B1 : Option Addr} {m1 c1 : Nat} {B2 : Option Addr} {m2 c2 : Nat} {B3 : Option Addr} {m3 c3 : Nat} (h :
∃ I1 : Nat → List Value → Mem → Prop, (∃ k2 : Nat, I1 k2 [(iV 0)] M) ∧
∀ k3 : Nat, ∀ uA : Nat → Value, ∀ n5 : Int, ∀ M6 : Mem, (I1 k3 [(iV n5)] M6) → aV (decide ((n5 : Int) < ((m1 : Nat) : Int)))
 (((0 : Int) ≤ n5) ∧
 ((n5 : Int) < ((m1 : Nat) : Int)) ∧
 aG B1 fun k7 k8 =>
 rI M6 k7 (k8 + ((Int.toNat n5) * 3)) fun n9 =>
 rI M6 k7 ((k8 + ((Int.toNat n5) * 3)) + 1) fun j9 =>
 rI M6 k7 ((k8 + ((Int.toNat n5) * 3)) + 2) fun fA =>
 be M6 (.cells #[(iV 0), (iV 0), (iV 0)] 172 (0, 0)) fun fU j7 =>
 sT j7 fU 0 (iV n9) fun iC =>
 sT iC fU 1 (iV j9) fun oE =>
 sT oE fU 2 (iV fA) fun fh =>
 rI fh fU 0 fun iw =>
 aV (iw == 0)
 (rI fh fU 1 fun kL =>
 ((0 : Int) ≤ kL) ∧
 ((kL : Int) < ((m3 : Nat) : Int)) ∧
 aG B3 fun jd iA =>
 bO (Mem.ld fh ⟨jd, (iA + (Int.toNat kL)), none⟩) fun Dg =>
 aa Tryz.prog 205 #[(.pointer Dg), (.agg #[(iV x0), (iV n5), (iV 0)])] fh (fun G3 lg =>
 (G3 = (.tuple #[])) ∧
 ∃ ri : Nat, (ri < k3) ∧
 I1 ri [(iV (IntKind.wrap .i64 (n5 + 1)))] lg) Kp)
 (aV (iw == 1)
 (rI fh fU 1 fun mJ =>
 ((0 : Int) ≤ mJ) ∧
 ((mJ : Int) < ((m3 : Nat) : Int)) ∧
 aG B3 fun lT oN =>
 bO (Mem.ld fh ⟨lT, (oN + (Int.toNat mJ)), none⟩) fun KP =>
 rI fh fU 2 fun xu =>
 ((0 : Int) ≤ xu) ∧
 ((xu : Int) < ((m2 : Nat) : Int)) ∧
 aG B2 fun lJ nW =>
 rI fh lJ (nW + (Int.toNat xu)) fun n32 =>
 aa Tryz.prog 206 #[(.pointer KP), (.agg #[(iV x0), (iV n5), (iV n32)])] fh (fun v33 mI =>
 (v33 = (.tuple #[])) ∧
 ∃ sW : Nat, (sW < k3) ∧
 I1 sW [(iV (IntKind.wrap .i64 (n5 + 1)))] mI) Kp)
 (∃ Ec : Nat, (Ec < k3) ∧
 I1 Ec [(iV (IntKind.wrap .i64 (n5 + 1)))] fh)))
 (K (.tuple #[]) M6)) :
 aa Tryz.prog 157 ([.int .i64 x0, .slice B1 m1 c1, .slice B2 m2 c2, .slice B3 m3 c3] : List Value).toArray M K Kp :=
 az (C := Cx) good [(2000000, .loop [(12, .c (.int .i64))]), (7, .bT [0, 0, 2, 7, 15, 0, 0, 0, 0, 256, 896, 1920, 4064, 8191] (.step 0 (.step 1 (.step 5 (.step 6 (.step 7 (.step 8 (.step 2 (.step 3 (.step 4 (.step 9 (.step 10 (.step 11 (.step 12 (.step 13 .done)))))))))))))))] Tryz.func157 (by kernel_rfl) (by kernel_rfl) h
theorem uE {zd : Int} {ze : Int} {fV : Int} {B1 : Option Addr} {m1 c1 : Nat} (h :
be M (.cells #[(iV zd), (iV ze), (iV fV)] 172 (0, 0)) fun k1 M2 =>
rI M2 k1 0 fun n3 =>
aV (n3 == 0)
 (rI M2 k1 1 fun n4 =>
 ((0 : Int) ≤ n4) ∧
 ((n4 : Int) < ((m1 : Nat) : Int)) ∧
 aG B1 fun k5 k6 =>
 bO (Mem.ld M2 ⟨k5, (k6 + (Int.toNat n4)), none⟩) fun A7 =>
 aa Tryz.prog 220 #[(.pointer A7)] M2 (fun v8 M9 =>
 cJ (some v8) fun t10 =>
 K (.bool t10) M9) Kp)
 (aV (n3 == 1)
 (rI M2 k1 1 fun fA =>
 ((0 : Int) ≤ fA) ∧
 ((fA : Int) < ((m1 : Nat) : Int)) ∧
 aG B1 fun fU dm =>
 bO (Mem.ld M2 ⟨fU, (dm + (Int.toNat fA)), none⟩) fun oF =>
 aa Tryz.prog 221 #[(.pointer oF)] M2 (fun Dh fh =>
 cJ (some Dh) fun t17 =>
 K (.bool t17) fh) Kp)
 (K (.bool false) M2))) :
 aa Tryz.prog 204 ([.agg #[.int .i64 zd, .int .i64 ze, .int .i64 fV], .slice B1 m1 c1] : List Value).toArray M K Kp :=
 az (C := Cx) good [] Tryz.func204 (by kernel_rfl) (by kernel_rfl) h
theorem zf {x0 : Int} {B1 : Option Addr} {m1 c1 : Nat} (h :
∃ I1 : Nat → List Value → Mem → Prop, (∃ k2 : Nat, I1 k2 [(iV 0)] M) ∧
∀ k3 : Nat, ∀ uA : Nat → Value, ∀ n5 : Int, ∀ M6 : Mem, (I1 k3 [(iV n5)] M6) → aV (decide ((n5 : Int) < ((m1 : Nat) : Int)))
 (((0 : Int) ≤ n5) ∧
 ((n5 : Int) < ((m1 : Nat) : Int)) ∧
 aG B1 fun k7 k8 =>
 bO (Mem.ld M6 ⟨k7, (k8 + (Int.toNat n5)), none⟩) fun A9 =>
 aa Tryz.prog 226 #[(.pointer A9), (iV x0)] M6 (fun v10 hH =>
 (v10 = (.tuple #[])) ∧
 ∃ fU : Nat, (fU < k3) ∧
 I1 fU [(iV (IntKind.wrap .i64 (n5 + 1)))] hH) Kp)
 (K (.tuple #[]) M6)) :
 aa Tryz.prog 225 ([.int .i64 x0, .slice B1 m1 c1] : List Value).toArray M K Kp :=
 az (C := Cx) good [(2000000, .loop [(8, .c (.int .i64))])] Tryz.func225 (by kernel_rfl) (by kernel_rfl) h
end Go.Proofs
namespace Go.Proofs
open Go.AF
set_option maxRecDepth 100000
set_option maxHeartbeats 1000000
attribute [local irreducible] aK cJ fJ bO aD fz aG aO be aS bJ aV
structure oG where
 way : Int
 ch : Int
 bT : Int
 deriving DecidableEq
def iB : gp oG := ⟨3, fun w => [.int .i64 w.way, .int .i64 w.ch, .int .i64 w.bT], fun _ => rfl, fun w v hv => by
 simp only [List.mem_cons, List.not_mem_nil, or_false] at hv; obtain rfl | rfl | rfl := hv <;> rfl⟩
def oG.Ok (n : Nat) (c : oG) : Prop := 0 ≤ c.way ∧ c.way ≤ 2 ∧ (c.way ≠ 2 → 0 ≤ c.ch ∧ c.ch < n ∧ 0 ≤ c.bT ∧ c.bT < 8)
instance (n : Nat) (c : oG) : Decidable (c.Ok n) := by unfold oG.Ok; infer_instance
def dX (cs : List aX) (k : Int) : aX := cs.getD k.toNat ⟨0, [], [], [], false⟩
def can (cs : List aX) (c : oG) : Bool := if c.way = 0 then (dX cs c.ch).uq else if c.way = 1 then (dX cs c.ch).uo else false
def NL (cases : List oG) (cs : List aX) (j : Nat) : Bool := match cases[j]? with
 | some c => can cs c
 | none => false
def Di (cases : List oG) (cs : List aX) (i : Nat) : List Int := ((List.range i).filter (NL cases cs)).map Int.ofNat
def enabled (cases : List oG) (cs : List aX) : List Int := Di cases cs cases.length
theorem E4 (cases : List oG) (cs : List aX) (i : Nat) : (Di cases cs i).length ≤ i := by
 unfold Di; rw [List.length_map]; exact Nat.le_trans (List.length_filter_le ..) (by simp)
theorem B9 {cases : List oG} {cs : List aX} {i : Nat} {c : oG} (h : cases[i]? = some c) : Di cases cs (i + 1) = Di cases cs i ++ (if can cs c then [(i : Int)] else []) := by
 unfold Di
 rw [List.range_succ, List.filter_append, List.map_append]
 simp only [List.filter_cons, NL, h, List.filter_nil]
 split <;> simp_all
def els (cases : List oG) : Option Nat := cases.findIdx? (fun c => c.way == 2)
def kC (g : Int) (fQ : List Int) (i : Nat) (c : oG) (cs : List aX) : List aX :=
 if c.way = 0 then cs.set c.ch.toNat { dX cs c.ch with eI := (dX cs c.ch).eI ++ [⟨g, i, 0⟩] }
 else if c.way = 1 then cs.set c.ch.toNat { dX cs c.ch with snd := (dX cs c.ch).snd ++ [⟨g, i, fQ.getD c.bT.toNat 0⟩] } else cs
def eF (g : Int) (fQ : List Int) (cases : List oG) (cs : List aX) : Nat → List aX
 | 0 => cs
 | i + 1 => match cases[i]? with
  | some c => kC g fQ i c (eF g fQ cases cs i)
  | none => eF g fQ cases cs i
theorem E5 (g : Int) (fQ : List Int) (i : Nat) (c : oG) (cs : List aX) : (kC g fQ i c cs).length = cs.length := by
 unfold kC; split
 ·simp
 ·split <;> simp
theorem lj (g : Int) (fQ : List Int) (cases : List oG) (cs : List aX) : ∀ i, (eF g fQ cases cs i).length = cs.length
 | 0 => rfl
 | i + 1 => by
  unfold eF; split
  ·rw [E5, lj _ _ _ _ i]
  ·exact lj _ _ _ _ i
theorem mem_set {α : Type} {l : List α} {i : Nat} {x y : α} (h : y ∈ l.set i x) : y ∈ l ∨ y = x := by
 rcases List.mem_or_eq_of_mem_set h with h | h
 ·exact .inl h
 ·exact .inr h
theorem uF {cs : List aX} {k : Int} (h0 : 0 ≤ k) (h : k < cs.length) : dX cs k ∈ cs := by
 unfold dX; rw [List.getD_eq_getElem?_getD, List.getElem?_eq_getElem (by omega)]; exact List.getElem_mem _
theorem Bd {g : Int} {fQ : List Int} {i : Nat} {c : oG} {cs : List aX} {N : Nat} (hs : ∀ x ∈ cs, x.Small N) (hc : c.Ok cs.length) : ∀ x ∈ kC g fQ i c cs, x.Small (N + 1) := by
 obtain ⟨_, _, kk⟩ := hc
 intro x hm
 unfold kC at hm
 split at hm
 ·rename_i hw
  have hx := hs _ (uF (kk (by omega)).1 (kk (by omega)).2.1)
  rcases mem_set hm with h | rfl
  ·exact (hs x h).mono (by omega)
  ·exact hx.wr _
 split at hm
 ·rename_i hw
  have hx := hs _ (uF (kk (by omega)).1 (kk (by omega)).2.1)
  rcases mem_set hm with h | rfl
  ·exact (hs x h).mono (by omega)
  ·exact hx.ws _
 ·exact (hs x hm).mono (by omega)
theorem oa {g : Int} {fQ : List Int} {cases : List oG} {cs : List aX} {N : Nat} (hs : ∀ x ∈ cs, x.Small N) (hok : ∀ c ∈ cases, c.Ok cs.length) : ∀ i, ∀ x ∈ eF g fQ cases cs i, x.Small (N + i)
 | 0 => hs
 | i + 1 => by
  unfold eF; split
  ·rename_i c hc
   exact Bd (oa hs hok i) (by rw [lj]; exact hok c (List.mem_of_getElem? hc))
  ·exact fun x hx => (oa hs hok i x hx).mono (by omega)
section
variable {R : Mem} {L L' : List HP} {M : Mem} {K : Value → Mem → Prop} {Kp : List PanicEntry → Mem → Prop} {bs : List Nat} {cs : List aX}
theorem sY : bg Tryz.prog 38 3 1 8 [.int .i64 0] := bg.mk' (zv := .int .i64 0) (by kernel_rfl) (by kernel_rfl) rfl (by omega)
theorem NM {cases : List oG} {i : Nat} {c : oG} (hc : cases[i]? = some c) (hw : c.way = 2) (hp : ∀ j c, j < i → cases[j]? = some c → c.way ≠ 2) : els cases = some i := by
 obtain ⟨hi, e⟩ := List.getElem?_eq_some_iff.1 hc
 refine List.findIdx?_eq_some_iff_getElem.2 ⟨hi, by rw [e]; simpa using hw, fun j hj => ?_⟩
 have := hp j _ hj (List.getElem?_eq_getElem (by omega))
 simpa using this
theorem NN {cases : List oG} (hp : ∀ j c, j < cases.length → cases[j]? = some c → c.way ≠ 2) : els cases = none := by
 refine List.findIdx?_eq_none_iff.2 fun c hc => ?_
 obtain ⟨j, hj, e⟩ := List.getElem_of_mem hc
 have := hp j c hj (by rw [← e]; exact List.getElem?_eq_getElem hj)
 simpa using this
theorem G9 {B : Option Addr} {m cc : Nat} {cases : List oG} (h : Hp R L M) (hB : Src R L B (iB.cells cases)) (hm : m = cases.length) (hb : cases.length ≤ 1000000000)
  (k : ∀ M', Hp R L M' → K (.tuple #[.int .i64 (match els cases with | some i => (i : Int) | none => 0), .bool (els cases).isSome]) M') :
  aa Tryz.prog 156 #[.slice B m cc] M K Kp := by
 subst hm
 refine Bb ⟨fun d ws M => ∃ i : Nat, ws = [.int .i64 (i : Int)] ∧ d = cases.length - i ∧ i ≤ cases.length ∧ (∀ j c, j < i → cases[j]? = some c → c.way ≠ 2) ∧ Hp R L M, ⟨_, 0, rfl, rfl, by omega, fun j c hj => by omega, h⟩, ?_⟩
 clear h
 rintro d _ ii M ⟨i, he, hd, hi, hp, h⟩
 simp only [List.cons.injEq, Value.int.injEq, and_true, true_and] at he
 subst he
 refine aP.2 ⟨fun hlt => ?_, fun hge => ?_⟩
 ·obtain ⟨c, hc⟩ := aR (l := cases) (i := i) (by omega)
  obtain ⟨b, o, rfl⟩ := hB.kY h (by omega) (by decide)
  repeat (first | (refine aq h ?_; clear h; intro kb M h) | (refine av h ?_; clear h; intro M h) | refine St.to h ?_ | (apply Exists.intro; (repeat apply Exists.intro); refine And.intro rfl ?_) | (refine And.intro ?_ ?_; first | exact rfl | ((repeat (refine ay (aA h) ?_)); exact ae) | omega) | refine ai ?_ | refine aj ?_)
  simp only [Int.toNat_natCast]
  refine aZ (hB.at h (i := i) (j := 0) hc rfl rfl) ?_
  refine aZ (hB.at h (i := i) (j := 1) hc rfl rfl) ?_
  refine aZ (hB.at h (i := i) (j := 2) hc rfl rfl) ?_
  repeat (first | (refine aq h ?_; clear h; intro kb M h) | (refine av h ?_; clear h; intro M h) | refine St.to h ?_ | (apply Exists.intro; (repeat apply Exists.intro); refine And.intro rfl ?_) | (refine And.intro ?_ ?_; first | exact rfl | ((repeat (refine ay (aA h) ?_)); exact ae) | omega) | refine ai ?_ | refine aj ?_)
  refine aY.2 ⟨fun e => ?_, fun e => ?_⟩
  ·have := NM hc e hp
   rw [this] at k
   exact k _ h.vS
  ·rw [aU (by omega)]
   refine ⟨cases.length - (i + 1), by omega, i + 1, rfl, rfl, by omega, fun j c' hj Gh => ?_, h.vS⟩
   rcases Nat.lt_or_ge j i with jT | jT
   ·exact hp j c' jT Gh
   ·obtain rfl : j = i := by omega
    rw [hc] at Gh; cases Gh; exact e
 ·obtain rfl : i = cases.length := by omega
  rw [NN hp] at k
  exact k _ h
theorem KQ {c : oG} {B : Option Addr} {m cc : Nat} (h : Hp R L M) [o : fP bM L bs cs L'] (hB : Src R L' B (mz.cells bs)) (hm : m = bs.length) (hl : bs.length = cs.length) (hc : c.way ≠ 2 → 0 ≤ c.ch ∧ c.ch < cs.length) (He : 0 ≤ c.way ∧ c.way ≤ 2)
  (k : ∀ M', Hp R (bn bM bs cs :: L') M' → K (.bool (can cs c)) M') : aa Tryz.prog 204 #[.agg #[.int .i64 c.way, .int .i64 c.ch, .int .i64 c.bT], .slice B m cc] M K Kp := by
 subst hm
 replace h := h.nZ bM
 obtain ⟨way, ch, bT⟩ := c
 dsimp only at *
 by_cases hwe : way = 2
 ·subst hwe
  refine uE ?_
  repeat (first | (refine aq h ?_; clear h; intro kb M h) | (refine av h ?_; clear h; intro M h) | refine St.to h ?_ | (apply Exists.intro; (repeat apply Exists.intro); refine And.intro rfl ?_) | (refine And.intro ?_ ?_; first | exact rfl | ((repeat (refine ay (aA h) ?_)); exact ae) | omega) | refine ai ?_ | refine aj ?_)
  exact k _ h.vS
 replace hc := hc hwe
 obtain ⟨q, rfl⟩ := Int.eq_ofNat_of_zero_le hc.1
 obtain ⟨x, hx⟩ := aR (l := cs) (i := q) (by omega)
 obtain ⟨b, hb⟩ := aR (l := bs) (i := q) (by omega)
 have YN : dX cs (q : Int) = x := by simp [dX, hx]
 obtain ⟨b0, o0, rfl⟩ := hB.cons.kY h (by omega) (by decide)
 simp only [can, YN] at k
 refine uE ?_
 repeat (first | (refine aq h ?_; clear h; intro kb M h) | (refine av h ?_; clear h; intro M h) | refine St.to h ?_ | (apply Exists.intro; (repeat apply Exists.intro); refine And.intro rfl ?_) | (refine And.intro ?_ ?_; first | exact rfl | ((repeat (refine ay (aA h) ?_)); exact ae) | omega) | refine ai ?_ | refine aj ?_)
 refine aY.2 ⟨fun e => ?_, fun e => ?_⟩
 ·rw [if_pos e] at k
  repeat (first | (refine aq h ?_; clear h; intro kb M h) | (refine av h ?_; clear h; intro M h) | refine St.to h ?_ | (apply Exists.intro; (repeat apply Exists.intro); refine And.intro rfl ?_) | (refine And.intro ?_ ?_; first | exact rfl | ((repeat (refine ay (aA h) ?_)); exact ae) | omega) | refine ai ?_ | refine aj ?_)
  refine lR (hB.cons.cons.at h (i := q) (j := 0) hb rfl (by simp [mz])) ?_
  replace h := h.dn bM hb hx
  refine Ba h ?_
  repeat (first | (refine aq h ?_; clear h; intro kb M h) | (refine av h ?_; clear h; intro M h) | refine St.to h ?_ | (apply Exists.intro; (repeat apply Exists.intro); refine And.intro rfl ?_) | (refine And.intro ?_ ?_; first | exact rfl | ((repeat (refine ay (aA h) ?_)); exact ae) | omega) | refine ai ?_ | refine aj ?_)
  exact k _ (h.qQ bM b hb hx).b7
 rw [if_neg e] at k
 refine aY.2 ⟨fun e => ?_, fun e => ?_⟩
 ·rw [if_pos e] at k
  repeat (first | (refine aq h ?_; clear h; intro kb M h) | (refine av h ?_; clear h; intro M h) | refine St.to h ?_ | (apply Exists.intro; (repeat apply Exists.intro); refine And.intro rfl ?_) | (refine And.intro ?_ ?_; first | exact rfl | ((repeat (refine ay (aA h) ?_)); exact ae) | omega) | refine ai ?_ | refine aj ?_)
  refine lR (hB.cons.cons.at h (i := q) (j := 0) hb rfl (by simp [mz])) ?_
  replace h := h.dn bM hb hx
  refine AZ h ?_
  repeat (first | (refine aq h ?_; clear h; intro kb M h) | (refine av h ?_; clear h; intro M h) | refine St.to h ?_ | (apply Exists.intro; (repeat apply Exists.intro); refine And.intro rfl ?_) | (refine And.intro ?_ ?_; first | exact rfl | ((repeat (refine ay (aA h) ?_)); exact ae) | omega) | refine ai ?_ | refine aj ?_)
  exact k _ (h.qQ bM b hb hx).b7
 ·rw [if_neg e] at k
  exact k _ h.vS
theorem Be {B A : Option Addr} {m cc n ca : Nat} {cases : List oG} (h : Hp R L M) [o : fP bM L bs cs L'] (hB : Src R L' B (iB.cells cases)) (hA : Src R L' A (mz.cells bs)) (hm : m = cases.length) (hn : n = bs.length)
  (hb : cases.length ≤ 1000000000) (hl : bs.length = cs.length) (hok : ∀ c ∈ cases, c.Ok cs.length)
  (k : ∀ A' c' M', Hp R (bD bl 3 A' c' (enabled cases cs) :: bn bM bs cs :: L') M' → K (.slice A' (enabled cases cs).length c') M') :
  aa Tryz.prog 155 #[.slice B m cc, .slice A n ca] M K Kp := by
 subst hm
 replace h := h.nZ bM
 refine vY ⟨fun d ws M => ∃ (i : Nat) (X : Option Addr) (cx : Nat), ws = [.slice X (Di cases cs i).length cx, .int .i64 (i : Int)] ∧ d = cases.length - i ∧ i ≤ cases.length ∧ Hp R (bD bl 3 X cx (Di cases cs i) :: bn bM bs cs :: L') M, ⟨_, 0, none, 0, rfl, rfl, by omega, h.bX bl _⟩, ?_⟩
 clear h
 rintro d _ X n1 cx ii M ⟨i, _, _, he, hd, hi, h⟩
 simp only [List.cons.injEq, Value.int.injEq, Value.slice.injEq, and_true, true_and] at he
 obtain ⟨⟨rfl, rfl, rfl⟩, rfl⟩ := he
 refine aP.2 ⟨fun hlt => ?_, fun hge => ?_⟩
 ·obtain ⟨c, hc⟩ := aR (l := cases) (i := i) (by omega)
  obtain ⟨b, o, rfl⟩ := hB.cons.cons.kY h (by omega) (by decide)
  repeat (first | (refine aq h ?_; clear h; intro kb M h) | (refine av h ?_; clear h; intro M h) | refine St.to h ?_ | (apply Exists.intro; (repeat apply Exists.intro); refine And.intro rfl ?_) | (refine And.intro ?_ ?_; first | exact rfl | ((repeat (refine ay (aA h) ?_)); exact ae) | omega) | refine ai ?_ | refine aj ?_)
  simp only [Int.toNat_natCast]
  refine aZ (hB.cons.cons.at h (i := i) (j := 0) hc rfl rfl) ?_
  refine aZ (hB.cons.cons.at h (i := i) (j := 1) hc rfl rfl) ?_
  refine aZ (hB.cons.cons.at h (i := i) (j := 2) hc rfl rfl) ?_
  repeat (first | (refine aq h ?_; clear h; intro kb M h) | (refine av h ?_; clear h; intro M h) | refine St.to h ?_ | (apply Exists.intro; (repeat apply Exists.intro); refine And.intro rfl ?_) | (refine And.intro ?_ ?_; first | exact rfl | ((repeat (refine ay (aA h) ?_)); exact ae) | omega) | refine ai ?_ | refine aj ?_)
  have hco := hok c (List.mem_of_getElem? hc)
  obtain ⟨w1, w2, k1⟩ := hco
  refine KQ (c := c) h hA.cons.cons hn hl (fun e => ⟨(k1 e).1, (k1 e).2.1⟩) ⟨w1, w2⟩ ?_
  clear h
  intro M h
  repeat (first | (refine aq h ?_; clear h; intro kb M h) | (refine av h ?_; clear h; intro M h) | refine St.to h ?_ | (apply Exists.intro; (repeat apply Exists.intro); refine And.intro rfl ?_) | (refine And.intro ?_ ?_; first | exact rfl | ((repeat (refine ay (aA h) ?_)); exact ae) | omega) | refine ai ?_ | refine aj ?_)
  have hlen := E4 cases cs i
  refine gL.2 ⟨fun hb => ?_, fun hb => ?_⟩
  ·have e := B9 (cs := cs) hc
   rw [if_pos hb] at e
   repeat (first | (refine aq h ?_; clear h; intro kb M h) | (refine av h ?_; clear h; intro M h) | refine St.to h ?_ | (apply Exists.intro; (repeat apply Exists.intro); refine And.intro rfl ?_) | (refine And.intro ?_ ?_; first | exact rfl | ((repeat (refine ay (aA h) ?_)); exact ae) | omega) | refine ai ?_ | refine aj ?_)
   refine h.bS sY [(i : Int)] rfl rfl (by simp; omega) ?_
   clear h
   intro A' c' M h
   repeat (first | (refine aq h ?_; clear h; intro kb M h) | (refine av h ?_; clear h; intro M h) | refine St.to h ?_ | (apply Exists.intro; (repeat apply Exists.intro); refine And.intro rfl ?_) | (refine And.intro ?_ ?_; first | exact rfl | ((repeat (refine ay (aA h) ?_)); exact ae) | omega) | refine ai ?_ | refine aj ?_)
   rw [aU (by omega)]
   rw [← e] at h
   refine ⟨cases.length - (i + 1), by omega, i + 1, A', c', ?_, rfl, by omega, h.b7⟩
   rw [e]
  ·have e := B9 (cs := cs) hc
   rw [if_neg (by simp [hb]), List.append_nil] at e
   rw [aU (by omega)]
   refine ⟨cases.length - (i + 1), by omega, i + 1, X, cx, by rw [e], rfl, by omega, ?_⟩
   rw [e]; exact h.sub bz
 ·obtain rfl : i = cases.length := by omega
  exact k _ _ _ h
theorem E6 {g : Int} {A : Option Addr} {n ca : Nat} (h : Hp R L M) [o : fP bM L bs cs L'] (hA : Src R L' A (mz.cells bs)) (hn : n = bs.length) (hb : bs.length ≤ 1000000000) (hl : bs.length = cs.length) (hs : ∀ c ∈ cs, c.Small 1000000000)
  (k : ∀ M', Hp R (bn bM bs (cs.map (·.drop g)) :: L') M' → K (.tuple #[]) M') :
  aa Tryz.prog 225 #[.int .i64 g, .slice A n ca] M K Kp := by
 subst hn
 replace h := h.nZ bM
 refine zf ⟨fun d ws M => ∃ (i : Nat), ws = [.int .i64 (i : Int)] ∧ d = bs.length - i ∧ i ≤ bs.length ∧ Hp R (bn bM bs ((cs.take i).map (·.drop g) ++ cs.drop i) :: L') M, ⟨_, 0, rfl, rfl, by omega, h⟩, ?_⟩
 clear h
 rintro d _ ii M ⟨i, he, hd, hi, h⟩
 simp only [List.cons.injEq, Value.int.injEq, and_true, true_and] at he
 subst he
 refine aP.2 ⟨fun hlt => ?_, fun hge => ?_⟩
 ·obtain ⟨c, hc⟩ := aR (l := cs) (i := i) (by omega)
  obtain ⟨b, AG⟩ := aR (l := bs) (i := i) (by omega)
  obtain ⟨b0, o0, rfl⟩ := hA.cons.kY h (by omega) (by decide)
  have xS : ((cs.take i).map (·.drop g) ++ cs.drop i)[i]? = some c := by
   rw [List.getElem?_append_right (by simp; omega)]; simp [List.length_take, Nat.min_eq_left (show i ≤ cs.length by omega), hc]
  repeat (first | (refine aq h ?_; clear h; intro kb M h) | (refine av h ?_; clear h; intro M h) | refine St.to h ?_ | (apply Exists.intro; (repeat apply Exists.intro); refine And.intro rfl ?_) | (refine And.intro ?_ ?_; first | exact rfl | ((repeat (refine ay (aA h) ?_)); exact ae) | omega) | refine ai ?_ | refine aj ?_)
  refine lR (hA.cons.at h (i := i) (j := 0) AG rfl (by simp [mz])) ?_
  replace h := h.dn bM AG xS
  refine G7 h (hs c (List.mem_of_getElem? hc)) ?_
  clear h
  intro M h
  repeat (first | (refine aq h ?_; clear h; intro kb M h) | (refine av h ?_; clear h; intro M h) | refine St.to h ?_ | (apply Exists.intro; (repeat apply Exists.intro); refine And.intro rfl ?_) | (refine And.intro ?_ ?_; first | exact rfl | ((repeat (refine ay (aA h) ?_)); exact ae) | omega) | refine ai ?_ | refine aj ?_)
  rw [aU (by omega)]
  refine ⟨bs.length - (i + 1), by omega, i + 1, rfl, rfl, by omega, ?_⟩
  have := (h.eu bM b AG (by simp; omega)).b7 (T := L')
  rw [List.set_append_right _ _ (by simp; omega)] at this
  rw [cC hc, List.map_append, List.append_assoc]
  have e : (cs.drop i).set (i - ((cs.take i).map (·.drop g)).length) (c.drop g) = [c.drop g] ++ cs.drop (i + 1) := by
   rw [show i - ((cs.take i).map (·.drop g)).length = 0 from by simp; omega]
   obtain ⟨hi', e'⟩ := List.getElem?_eq_some_iff.1 hc
   rw [List.drop_eq_getElem_cons hi']; rfl
  rw [e] at this
  exact this
 ·obtain rfl : i = bs.length := by omega
  rw [hl, List.take_length, List.drop_length, List.append_nil] at h
  exact k _ h
theorem Hf {g : Int} {B A D : Option Addr} {m cc n ca r cr : Nat} {cases : List oG} {fQ : List Int} (h : Hp R L M) [o : fP bM L bs cs L'] (hB : Src R L' B (iB.cells cases)) (hA : Src R L' A (mz.cells bs)) (hD : Src R L' D (bl.cells fQ))
  (hm : m = cases.length) (hn : n = bs.length) (hr : r = 8) (hr8 : fQ.length = 8) (hb : cases.length ≤ 1000000) (hl : bs.length = cs.length) (hok : ∀ c ∈ cases, c.Ok cs.length) (hs : ∀ c ∈ cs, c.Small 1000000)
  (k : ∀ M', Hp R (bn bM bs (eF g fQ cases cs cases.length) :: L') M' → K (.tuple #[]) M') :
  aa Tryz.prog 157 #[.int .i64 g, .slice B m cc, .slice D r cr, .slice A n ca] M K Kp := by
 subst hm
 subst hn
 subst hr
 replace h := h.nZ bM
 refine Bc ⟨fun d ws M => ∃ (i : Nat), ws = [.int .i64 (i : Int)] ∧ d = cases.length - i ∧ i ≤ cases.length ∧ Hp R (bn bM bs (eF g fQ cases cs i) :: L') M, ⟨_, 0, rfl, rfl, by omega, h⟩, ?_⟩
 clear h
 rintro d _ ii M ⟨i, he, hd, hi, h⟩
 simp only [List.cons.injEq, Value.int.injEq, and_true, true_and] at he
 subst he
 refine aP.2 ⟨fun hlt => ?_, fun hge => ?_⟩
 ·obtain ⟨c, hc⟩ := aR (l := cases) (i := i) (by omega)
  obtain ⟨w1, w2, kk⟩ := hok c (List.mem_of_getElem? hc)
  obtain ⟨b, o, rfl⟩ := hB.cons.kY h (by omega) (by decide)
  by_cases hwe : c.way = 2
  ·have e : eF g fQ cases cs (i + 1) = eF g fQ cases cs i := by
    rw [eF, hc]; dsimp only; unfold kC; rw [if_neg (by omega), if_neg (by omega)]
   repeat (first | (refine aq h ?_; clear h; intro kb M h) | (refine av h ?_; clear h; intro M h) | refine St.to h ?_ | (apply Exists.intro; (repeat apply Exists.intro); refine And.intro rfl ?_) | (refine And.intro ?_ ?_; first | exact rfl | ((repeat (refine ay (aA h) ?_)); exact ae) | omega) | refine ai ?_ | refine aj ?_)
   simp only [Int.toNat_natCast]
   refine aZ (hB.cons.at h (i := i) (j := 0) hc rfl rfl) ?_
   refine aZ (hB.cons.at h (i := i) (j := 1) hc rfl rfl) ?_
   refine aZ (hB.cons.at h (i := i) (j := 2) hc rfl rfl) ?_
   repeat (first | (refine aq h ?_; clear h; intro kb M h) | (refine av h ?_; clear h; intro M h) | refine St.to h ?_ | (apply Exists.intro; (repeat apply Exists.intro); refine And.intro rfl ?_) | (refine And.intro ?_ ?_; first | exact rfl | ((repeat (refine ay (aA h) ?_)); exact ae) | omega) | refine ai ?_ | refine aj ?_)
   refine aY.2 ⟨fun e => by omega, fun _ => ?_⟩
   refine aY.2 ⟨fun e => by omega, fun _ => ?_⟩
   rw [aU (by omega)]
   refine ⟨cases.length - (i + 1), by omega, i + 1, rfl, rfl, by omega, ?_⟩
   rw [e]
   exact h.vS
  obtain ⟨k1, k2, k3, k4⟩ := kk hwe
  obtain ⟨b2, o2, rfl⟩ := hA.cons.kY h (by omega) (by decide)
  obtain ⟨b3, o3, rfl⟩ := hD.cons.kY h (by omega) (by decide)
  have hlen := lj g fQ cases cs i
  have Jo := oa (g := g) (fQ := fQ) hs hok i
  have e : eF g fQ cases cs (i + 1) = kC g fQ i c (eF g fQ cases cs i) := by rw [eF, hc]
  generalize hw : eF g fQ cases cs i = ws at h hlen Jo e
  obtain ⟨way, ch, bT⟩ := c
  dsimp only at k1 k2 k3 k4
  obtain ⟨q, rfl⟩ := Int.eq_ofNat_of_zero_le k1
  obtain ⟨q2, rfl⟩ := Int.eq_ofNat_of_zero_le k3
  obtain ⟨b1, AG⟩ := aR (l := bs) (i := q) (by omega)
  obtain ⟨x, hx⟩ := aR (l := ws) (i := q) (by omega)
  obtain ⟨v, hv⟩ := aR (l := fQ) (i := q2) (by omega)
  have YN : dX ws (q : Int) = x := by simp [dX, hx]
  have Uc : fQ.getD q2 0 = v := by simp [hv]
  have hxs := Jo x (List.mem_of_getElem? hx)
  simp only [kC, YN, Int.toNat_natCast, Uc] at e
  repeat (first | (refine aq h ?_; clear h; intro kb M h) | (refine av h ?_; clear h; intro M h) | refine St.to h ?_ | (apply Exists.intro; (repeat apply Exists.intro); refine And.intro rfl ?_) | (refine And.intro ?_ ?_; first | exact rfl | ((repeat (refine ay (aA h) ?_)); exact ae) | omega) | refine ai ?_ | refine aj ?_)
  simp only [Int.toNat_natCast]
  refine aZ (hB.cons.at h (i := i) (j := 0) hc rfl rfl) ?_
  refine aZ (hB.cons.at h (i := i) (j := 1) hc rfl rfl) ?_
  refine aZ (hB.cons.at h (i := i) (j := 2) hc rfl rfl) ?_
  dsimp only
  repeat (first | (refine aq h ?_; clear h; intro kb M h) | (refine av h ?_; clear h; intro M h) | refine St.to h ?_ | (apply Exists.intro; (repeat apply Exists.intro); refine And.intro rfl ?_) | (refine And.intro ?_ ?_; first | exact rfl | ((repeat (refine ay (aA h) ?_)); exact ae) | omega) | refine ai ?_ | refine aj ?_)
  refine aY.2 ⟨fun hw => ?_, fun hw => ?_⟩
  ·rw [if_pos hw] at e
   repeat (first | (refine aq h ?_; clear h; intro kb M h) | (refine av h ?_; clear h; intro M h) | refine St.to h ?_ | (apply Exists.intro; (repeat apply Exists.intro); refine And.intro rfl ?_) | (refine And.intro ?_ ?_; first | exact rfl | ((repeat (refine ay (aA h) ?_)); exact ae) | omega) | refine ai ?_ | refine aj ?_)
   refine lR (hA.cons.cons.at h (i := q) (j := 0) AG rfl (by simp [mz])) ?_
   have P0 := AG
   replace h := h.pick (.there .here)
   replace h := h.dn bM AG hx
   refine pS (w := ⟨g, i, 0⟩) h (hxs.mono (by omega)) ?_
   clear h
   intro M h
   repeat (first | (refine aq h ?_; clear h; intro kb M h) | (refine av h ?_; clear h; intro M h) | refine St.to h ?_ | (apply Exists.intro; (repeat apply Exists.intro); refine And.intro rfl ?_) | (refine And.intro ?_ ?_; first | exact rfl | ((repeat (refine ay (aA h) ?_)); exact ae) | omega) | refine ai ?_ | refine aj ?_)
   rw [aU (by omega)]
   refine ⟨cases.length - (i + 1), by omega, i + 1, rfl, rfl, by omega, ?_⟩
   rw [e]
   exact (h.eu bM b1 AG (by omega)).b7
  rw [if_neg hw] at e
  refine aY.2 ⟨fun hw => ?_, fun hw => ?_⟩
  ·rw [if_pos hw] at e
   repeat (first | (refine aq h ?_; clear h; intro kb M h) | (refine av h ?_; clear h; intro M h) | refine St.to h ?_ | (apply Exists.intro; (repeat apply Exists.intro); refine And.intro rfl ?_) | (refine And.intro ?_ ?_; first | exact rfl | ((repeat (refine ay (aA h) ?_)); exact ae) | omega) | refine ai ?_ | refine aj ?_)
   refine lR (hA.cons.cons.at h (i := q) (j := 0) AG rfl (by simp [mz])) ?_
   repeat (first | (refine aq h ?_; clear h; intro kb M h) | (refine av h ?_; clear h; intro M h) | refine St.to h ?_ | (apply Exists.intro; (repeat apply Exists.intro); refine And.intro rfl ?_) | (refine And.intro ?_ ?_; first | exact rfl | ((repeat (refine ay (aA h) ?_)); exact ae) | omega) | refine ai ?_ | refine aj ?_)
   refine aZ (hD.cons.cons.at h (i := q2) (j := 0) hv rfl (by simp [bl])) ?_
   replace h := h.pick (.there .here)
   replace h := h.dn bM AG hx
   refine pR (w := ⟨g, i, v⟩) h (hxs.mono (by omega)) ?_
   clear h
   intro M h
   repeat (first | (refine aq h ?_; clear h; intro kb M h) | (refine av h ?_; clear h; intro M h) | refine St.to h ?_ | (apply Exists.intro; (repeat apply Exists.intro); refine And.intro rfl ?_) | (refine And.intro ?_ ?_; first | exact rfl | ((repeat (refine ay (aA h) ?_)); exact ae) | omega) | refine ai ?_ | refine aj ?_)
   rw [aU (by omega)]
   refine ⟨cases.length - (i + 1), by omega, i + 1, rfl, rfl, by omega, ?_⟩
   rw [e]
   exact (h.eu bM b1 AG (by omega)).b7
  ·rw [if_neg hw] at e
   rw [aU (by omega)]
   refine ⟨cases.length - (i + 1), by omega, i + 1, rfl, rfl, by omega, ?_⟩
   rw [e]
   exact h.vS
 ·obtain rfl : i = cases.length := by omega
  exact k _ h
end
end Go.Proofs
namespace Go.Proofs
open Go.AF
structure cI where
 op : Int
 a : Int
 b : Int
 c : Int
 deriving DecidableEq
def cI.zero : cI := ⟨0, 0, 0, 0⟩
def jm : gp cI := ⟨4, fun x => [.int .i64 x.op, .int .i64 x.a, .int .i64 x.b, .int .i64 x.c], fun _ => rfl, fun w v hv => by
 simp only [List.mem_cons, List.not_mem_nil, or_false] at hv; obtain rfl | rfl | rfl | rfl := hv <;> rfl⟩
structure gM where
 fn : Int
 pc : Int
 r : List Int
 rm : Int
 deriving DecidableEq
def gM.bT (f : gM) (q : Int) : Int := f.r.getD q.toNat 0
def gM.set (f : gM) (q v : Int) : gM := { f with r := (List.range 8).map fun i => if i = q.toNat then v else f.r.getD i 0 }
def gM.next (f : gM) : gM := { f with pc := f.pc + 1 }
def gM.begin (fn v : Int) : gM := ⟨fn, 0, [v, 0, 0, 0, 0, 0, 0, 0], 0⟩
def YO (f : gM) : List Value := [.int .i64 f.fn, .int .i64 f.pc, .int .i64 (f.r.getD 0 0), .int .i64 (f.r.getD 1 0), .int .i64 (f.r.getD 2 0), .int .i64 (f.r.getD 3 0), .int .i64 (f.r.getD 4 0), .int .i64 (f.r.getD 5 0), .int .i64 (f.r.getD 6 0), .int .i64 (f.r.getD 7 0), .int .i64 f.rm]
def jn : gp gM := ⟨11, YO, fun _ => rfl, fun w v hv => by
 simp only [YO, List.mem_cons, List.not_mem_nil, or_false] at hv
 obtain rfl | rfl | rfl | rfl | rfl | rfl | rfl | rfl | rfl | rfl | rfl := hv <;> rfl⟩
theorem YP {q : Int} (h0 : 0 ≤ q) (h8 : q < 8) : q = 0 ∨ q = 1 ∨ q = 2 ∨ q = 3 ∨ q = 4 ∨ q = 5 ∨ q = 6 ∨ q = 7 := by omega
theorem Ud {f : gM} {q : Int} (h0 : 0 ≤ q) (h8 : q < 8) : (jn.f f)[2 + q.toNat]? = some (.int .i64 (f.bT q)) := by
 obtain rfl | rfl | rfl | rfl | rfl | rfl | rfl | rfl := YP h0 h8 <;> rfl
theorem QJ {f : gM} {q v : Int} (h0 : 0 ≤ q) (h8 : q < 8) : (jn.f f).set (2 + q.toNat) (.int .i64 v) = jn.f (f.set q v) := by
 obtain rfl | rfl | rfl | rfl | rfl | rfl | rfl | rfl := YP h0 h8 <;> rfl
theorem Ue {f : gM} {v : Int} : (jn.f f).set 1 (.int .i64 v) = jn.f { f with pc := v } := rfl
def gM.pure (f : gM) (x : cI) : gM :=
 if x.op = 0 then f
 else if x.op = 1 then f.set x.a x.b
 else if x.op = 2 then f.set x.a (f.bT x.b)
 else if x.op = 3 then f.set x.a (IntKind.wrap .i64 (f.bT x.b + f.bT x.c))
 else if x.op = 4 then f.set x.a (IntKind.wrap .i64 (f.bT x.b - f.bT x.c))
 else if x.op = 5 then f.set x.a (IntKind.wrap .i64 (f.bT x.b * f.bT x.c))
 else if x.op = 6 then f.set x.a (if f.bT x.b < f.bT x.c then 1 else 0)
 else if x.op = 7 then { f with pc := x.a }
 else if f.bT x.a ≠ 0 then { f with pc := x.b } else f
def bh (q : Int) : Prop := 0 ≤ q ∧ q < 8
instance (q : Int) : Decidable (bh q) := by unfold bh; infer_instance
def cI.cG (x : cI) : Prop :=
 (x.op ∈ [1, 8] → bh x.a) ∧ (x.op = 2 → bh x.a ∧ bh x.b) ∧ (x.op ∈ [3, 4, 5, 6] → bh x.a ∧ bh x.b ∧ bh x.c)
instance (x : cI) : Decidable x.cG := by unfold cI.cG; infer_instance
structure jh where
 st : Int
 fs : List gM
 wt : cI
 deriving DecidableEq
structure Lk where
 owner : Int
 waits : List Int
 deriving DecidableEq
structure bE where
 t : Int
 seq : Int
 id : Int
 deriving DecidableEq
def sF : gp bE := ⟨3, fun x => [.int .u64 x.t, .int .u64 x.seq, .int .i64 x.id], fun _ => rfl, fun w v hv => by
 simp only [List.mem_cons, List.not_mem_nil, or_false] at hv; obtain rfl | rfl | rfl := hv <;> rfl⟩
structure b6 where
 funcs : List (List cI)
 dI : List Int
 aL : Int
 cases : List oG
structure Wd where
 gs : List jh
 clock : Int
 aE : List aX
 aL : List Lk
 hl : List bE
 lp : Int
 out : List Int
 end_ : Int
 code : Int
 ready : List Int
 deriving DecidableEq
def au (x : Wd) (g : Int) : jh := x.gs.getD g.toNat ⟨0, [], .zero⟩
def Wd.bF (x : Wd) (g : Int) (y : jh) : Wd := { x with gs := x.gs.set g.toNat y }
def jh.top (y : jh) : gM := y.fs.getD (y.fs.length - 1) ⟨0, 0, [], 0⟩
def jh.cN (y : jh) (f : gM) : jh := { y with fs := y.fs.set (y.fs.length - 1) f }
def Wd.bA (x : Wd) (g q v : Int) : Wd := x.bF g ((au x g).cN ((au x g).top.set q v))
def Wd.fx (x : Wd) (g : Int) : Wd := { x.bF g { au x g with st := 1 } with ready := x.ready ++ [g] }
def Wd.block (x : Wd) (g : Int) (i : cI) : Wd := x.bF g { au x g with st := 2, wt := i }
def Wd.leave (x : Wd) (g : Int) : Wd := { x with aE := x.aE.map fun c => c.drop g }
def Wd.gD (x : Wd) (g k : Int) : Wd := (x.bA g (au x g).wt.c k).leave g
def pT (p : b6) (k : Int) : oG := p.cases.getD k.toNat ⟨0, 0, 0⟩
def Wd.received (p : b6) (x : Wd) (v : Wt) (some : Int) : Wd :=
 let i := (au x v.g).wt
 (if i.op = 16 then ((x.bA v.g (pT p (i.a + v.cs)).bT v.v).gD v.g v.cs)
  else (x.bA v.g i.b v.v).bA v.g i.c some).fx v.g
def Wd.sent (x : Wd) (v : Wt) : Wd := (if (au x v.g).wt.op = 16 then x.gD v.g v.cs else x).fx v.g
inductive Out (α : Type) where
 | on (a : α)
 | eR (code : Int) (x : Wd)
 | cO (l : List PanicEntry) (x : Wd)
def Wd.cw (x : Wd) (k : Int) (c : aX) : Wd := { x with aE := x.aE.set k.toNat c }
def Wd.put (p : b6) (x : Wd) (k v : Int) : Out (Wd × Bool) :=
 let s := (dX x.aE k).send v
 if s.2.2.2 = 10 then .eR (-1) (x.cw k s.1)
 else .on ((if s.2.2.1 then (x.cw k s.1).received p s.2.1 1 else x.cw k s.1), s.2.2.2 == 0)
def Wd.get (x : Wd) (k : Int) : Wd × Int × Int × Bool :=
 let s := (dX x.aE k).recv
 let y := if s.2.2.2.2.1 then (x.cw k s.1).sent s.2.2.2.1 else x.cw k s.1
 if s.2.2.1 then (y, s.2.1, 1, true) else (y, 0, 0, s.2.2.2.2.2 == 0)
def bp (x : Wd) (g : Int) : Prop := 0 ≤ g ∧ g < x.gs.length ∧ 0 < (au x g).fs.length ∧ (au x g).fs.length ≤ 1000
instance (x : Wd) (g : Int) : Decidable (bp x g) := by unfold bp; infer_instance
def pU (p : b6) (x : Wd) (v : Wt) : Prop := bp x v.g ∧
 if (au x v.g).wt.op = 16 then 0 ≤ (au x v.g).wt.a + v.cs ∧ (au x v.g).wt.a + v.cs < p.cases.length ∧ p.cases.length ≤ 1000 ∧ bh (pT p ((au x v.g).wt.a + v.cs)).bT ∧ bh (au x v.g).wt.c
 else bh (au x v.g).wt.b ∧ bh (au x v.g).wt.c
instance (p : b6) (x : Wd) (v : Wt) : Decidable (pU p x v) := by unfold pU; infer_instance
def xw (x : Wd) (v : Wt) : Prop := bp x v.g ∧ ((au x v.g).wt.op = 16 → bh (au x v.g).wt.c)
instance (x : Wd) (v : Wt) : Decidable (xw x v) := by unfold xw; infer_instance
def Wd.Sm (x : Wd) : Prop := (∀ c ∈ x.aE, c.Small 1000000) ∧ x.aE.length ≤ 1000 ∧ x.gs.length ≤ 1000 ∧ x.ready.length ≤ 1000000 ∧ x.out.length ≤ 1000000 ∧ (∀ l ∈ x.aL, l.waits.length ≤ 1000000) ∧ x.aL.length ≤ 1000 ∧ x.hl.length ≤ 1000000
instance (x : Wd) : Decidable x.Sm := by unfold Wd.Sm; infer_instance
theorem gN {x : Wd} {g : Int} {y : jh} (h0 : 0 ≤ g) (hg : g < x.gs.length) : au (x.bF g y) g = y := by
 have : g.toNat < x.gs.length := by omega
 simp [au, Wd.bF, this]
end Go.Proofs
namespace Go.Proofs
open Go.AF
set_option maxRecDepth 100000
variable {M : Mem} {K : Value → Mem → Prop} {Kp : List PanicEntry → Mem → Prop}
theorem sZ {B0 : Option Addr} {m0 c0 : Nat} (h :
aV (((m0 : Nat) : Int) == 0)
 (K (.pointer none) M)
 (((0 : Int) ≤ (IntKind.wrap .i64 (((m0 : Nat) : Int) - 1))) ∧
 (((IntKind.wrap .i64 (((m0 : Nat) : Int) - 1)) : Int) < ((m0 : Nat) : Int)) ∧
 aG B0 fun k1 k2 =>
 K (.pointer (some ⟨k1, (k2 + ((Int.toNat (IntKind.wrap .i64 (((m0 : Nat) : Int) - 1))) * 11)), none⟩)) M)) :
 aa Tryz.prog 120 ([.slice B0 m0 c0] : List Value).toArray M K Kp :=
 az (C := Cx) good [] Tryz.func120 (by kernel_rfl) (by kernel_rfl) h
theorem oQ {b0 o0 : Nat} {x1 : Int} (h :
aV (decide ((x1 : Int) < 0))
 (K (.int .i64 0) M)
 (aD (Mem.ld M ⟨b0, (o0 + 4), none⟩) fun A1 k2 k3 =>
 aV (decide ((x1 : Int) ≥ ((k2 : Nat) : Int)))
  (K (.int .i64 0) M)
  (aD (Mem.ld M ⟨b0, (o0 + 4), none⟩) fun A4 k5 k6 =>
  ((0 : Int) ≤ x1) ∧
  ((x1 : Int) < ((k5 : Nat) : Int)) ∧
  aG A4 fun k7 k8 =>
  bO (Mem.ld M ⟨k7, (k8 + (Int.toNat x1)), none⟩) fun A9 =>
  aG A9 fun dP eL =>
  aK (Mem.ld M ⟨dP, eL, none⟩) .i64 fun jf =>
  K (.int .i64 jf) M))) :
 aa Tryz.prog 65 ([.pointer (some ⟨b0, o0, none⟩), .int .i64 x1] : List Value).toArray M K Kp :=
 az (C := Cx) good [] Tryz.func65 (by kernel_rfl) (by kernel_rfl) h
theorem s9 {b0 o0 : Nat} (h :
rS M b0 (o0 + 4) fun A1 k2 k3 =>
K (iV ((k2 : Nat) : Int)) M) :
 aa Tryz.prog 64 ([.pointer (some ⟨b0, o0, none⟩)] : List Value).toArray M K Kp :=
 az (C := Cx) good [] Tryz.func64 (by kernel_rfl) (by kernel_rfl) h
theorem ta {b0 o0 : Nat} (h :
rI M b0 (o0 + 11) fun n1 =>
rI M b0 (o0 + 12) fun n2 =>
K (.tuple #[(iV n1), (iV n2)]) M) :
 aa Tryz.prog 60 ([.pointer (some ⟨b0, o0, none⟩)] : List Value).toArray M K Kp :=
 az (C := Cx) good [(1, .bT [0, 1, 3, 7, 0, 16, 48, 112, 15, 511] (.step 0 (.step 1 (.step 2 (.step 4 (.step 5 (.step 6 (.step 3 (.step 8 (.step 7 (.step 9 .done)))))))))))] Tryz.func60 (by kernel_rfl) (by kernel_rfl) h
theorem rq {b0 o0 : Nat} (h :
aK (Mem.ld M ⟨b0, (o0 + 11), none⟩) .i64 fun n1 =>
aV (n1 != 0)
 (K (.slice none 0 0) M)
 (aK (Mem.ld M ⟨b0, (o0 + 5), none⟩) .u64 fun n2 =>
 aO M ⟨b0, (o0 + 5), none⟩ (.int .u64 (IntKind.wrap .u64 (n2 + 1))) fun M3 =>
 aO M3 ⟨b0, (o0 + 13), none⟩ (.slice none 0 0) fun M4 =>
 aK (Mem.ld M4 ⟨b0, (o0 + 5), none⟩) .u64 fun n5 =>
 aa Tryz.prog 89 #[(.pointer (some ⟨b0, (o0 + 8), none⟩)), (.int .u64 n5)] M4 (fun v6 M7 =>
 aD (some v6) fun A8 k9 dP =>
 ∃ I11 : Nat → List Value → Mem → Prop, (∃ fU : Nat, I11 fU [(.int .i64 0)] M7) ∧
 ∀ dm : Nat, ∀ junk14 : Nat → Value, ∀ jY : Int, ∀ fh : Mem, (I11 dm [(.int .i64 jY)] fh) → aV (decide ((jY : Int) < ((k9 : Nat) : Int)))
  (((0 : Int) ≤ jY) ∧
  ((jY : Int) < ((k9 : Nat) : Int)) ∧
  aG A8 fun eT en =>
  aK (Mem.ld fh ⟨eT, (en + ((Int.toNat jY) * 3)), none⟩) .u64 fun xo =>
  aK (Mem.ld fh ⟨eT, ((en + ((Int.toNat jY) * 3)) + 1), none⟩) .u64 fun fI =>
  aK (Mem.ld fh ⟨eT, ((en + ((Int.toNat jY) * 3)) + 2), none⟩) .i64 fun nT =>
  be fh (.cells #[(.int .u64 0), (.int .u64 0), (.int .i64 0)] 205 (0, 0)) fun gJ lg =>
  aO lg ⟨gJ, 0, none⟩ (.int .u64 xo) fun iz =>
  aO iz ⟨gJ, (0 + 1), none⟩ (.int .u64 fI) fun B7 =>
  aO B7 ⟨gJ, (0 + 2), none⟩ (.int .i64 nT) fun xl =>
  aK (Mem.ld xl ⟨gJ, (0 + 2), none⟩) .i64 fun yp =>
  aa Tryz.prog 90 #[(.pointer (some ⟨b0, o0, none⟩)), (.int .i64 yp)] xl (fun NK mA =>
  (NK = (.tuple #[])) ∧
  ∃ lJ : Nat, (lJ < dm) ∧
  I11 lJ [(.int .i64 (IntKind.wrap .i64 (jY + 1)))] mA) Kp)
  (aD (Mem.ld fh ⟨b0, (o0 + 13), none⟩) fun QK tW jA =>
  K (.slice QK tW jA) fh)) Kp)) :
 aa Tryz.prog 43 ([.pointer (some ⟨b0, o0, none⟩)] : List Value).toArray M K Kp :=
 az (C := Cx) good [(5, .bT [0, 1, 3, 0, 8, 24, 56, 127, 255, 0] (.step 0 (.step 1 (.step 2 (.step 3 (.step 4 (.step 5 (.step 9 (.step 6 (.step 7 (.step 8 .done))))))))))), (2000000, .loop [(29, .c (.int .i64))])] Tryz.func43 (by kernel_rfl) (by kernel_rfl) h
theorem td {b0 o0 : Nat} (h :
be M (.cells #[] 2 (0, 0)) fun k1 M2 =>
rS M2 b0 (o0 + 10) fun A3 k4 k5 =>
aS Tryz.prog (Go.Builtin.append_ #[59, 59] 59 #[(.slice (some ⟨k1, 0, none⟩) 0 0), (.slice A3 k4 k5)]) M2 (fun v6 M7 =>
aD (some v6) fun A8 k9 dP =>
K (.slice A8 k9 dP) M7) Kp) :
 aa Tryz.prog 22 ([.pointer (some ⟨b0, o0, none⟩)] : List Value).toArray M K Kp :=
 az (C := Cx) good [] Tryz.func22 (by kernel_rfl) (by kernel_rfl) h
theorem zg {x0 : Int} {x1 : Int} (h :
be M (.cells #[(iV x0), (iV 0), (iV x1), (iV 0), (iV 0), (iV 0), (iV 0), (iV 0), (iV 0), (iV 0), (iV 0)] 234 (0, 0)) fun k1 M2 =>
K (.slice (some ⟨k1, 0, none⟩) 1 1) M2) :
 aa Tryz.prog 71 ([.int .i64 x0, .int .i64 x1] : List Value).toArray M K Kp :=
 az (C := Cx) good [] Tryz.func71 (by kernel_rfl) (by kernel_rfl) h
theorem Dj  (h :
be M (.cells #[(iV (-1)), (.slice none 0 0)] 238 (0, 0)) fun k1 M2 =>
K (.pointer (some ⟨k1, 0, none⟩)) M2) :
 aa Tryz.prog 73 ([] : List Value).toArray M K Kp :=
 az (C := Cx) good [] Tryz.func73 (by kernel_rfl) (by kernel_rfl) h
theorem uG {b0 o0 : Nat} {x1 : Int} (h :
∃ I1 : Nat → List Value → Mem → Prop, (∃ k2 : Nat, I1 k2 [(.slice none 0 0)] M) ∧
∀ k3 : Nat, ∀ uA : Nat → Value, ∀ A5 : Option Addr, ∀ k6 : Nat, ∀ k7 : Nat, ∀ M8 : Mem, (I1 k3 [(.slice A5 k6 k7)] M8) → aD (Mem.ld M8 ⟨b0, o0, none⟩) fun A9 dP eL =>
aV (decide ((((dP : Nat) : Int) : Int) > 0))
 (aD (Mem.ld M8 ⟨b0, o0, none⟩) fun sE dm gq =>
 ((0 : Int) ≤ 0) ∧
 ((0 : Int) < ((dm : Nat) : Int)) ∧
 aG sE fun gj dO =>
 aK (Mem.ld M8 ⟨gj, (dO + 0), none⟩) .u64 fun iw =>
 aV (decide ((iw : Int) ≤ x1))
  (aa Tryz.prog 106 #[(.pointer (some ⟨b0, o0, none⟩)), (.int .i64 0)] M8 (fun EW iq =>
  ∃ fI : Int, ∃ nT : Int, ∃ sC : Int, (EW = (.agg #[(.int .u64 fI), (.int .u64 nT), (.int .i64 sC)])) ∧
  be iq (.cells #[(.int .u64 fI), (.int .u64 nT), (.int .i64 sC)] 205 (0, 0)) fun iY iz =>
  aS Tryz.prog (Go.Builtin.append_ #[65, 65] 65 #[(.slice A5 k6 k7), (.slice (some ⟨iY, 0, none⟩) 1 1)]) iz (fun Uf xl =>
  aD (some Uf) fun SW lK kB =>
  ∃ lJ : Nat, (lJ < k3) ∧
  I1 lJ [(.slice SW lK kB)] xl) Kp) Kp)
  (K (.slice A5 k6 k7) M8))
 (K (.slice A5 k6 k7) M8)) :
 aa Tryz.prog 89 ([.pointer (some ⟨b0, o0, none⟩), .int .u64 x1] : List Value).toArray M K Kp :=
 az (C := Cx) good [(2000000, .loop [(5, .c .sl)])] Tryz.func89 (by kernel_rfl) (by kernel_rfl) h
theorem ru {b0 o0 : Nat} {x1 : Int} (h :
rS M b0 (o0 + 4) fun A1 k2 k3 =>
((0 : Int) ≤ x1) ∧
((x1 : Int) < ((k2 : Nat) : Int)) ∧
aG A1 fun k4 k5 =>
bO (Mem.ld M ⟨k4, (k5 + (Int.toNat x1)), none⟩) fun A6 =>
aG A6 fun k7 k8 =>
sT M k7 k8 (iV 1) fun M9 =>
rS M9 b0 (o0 + 13) fun BY eL fU =>
be M9 (.cells #[(iV x1)] 3 (0, 0)) fun dm iC =>
aS Tryz.prog (Go.Builtin.append_ #[38, 38] 38 #[(.slice BY eL fU), (.slice (some ⟨dm, 0, none⟩) 1 1)]) iC (fun Dh fh =>
aD (some Dh) fun Mk en jd =>
sT fh b0 (o0 + 13) (.slice Mk en jd) fun nU =>
K (.tuple #[]) nU) Kp) :
 aa Tryz.prog 90 ([.pointer (some ⟨b0, o0, none⟩), .int .i64 x1] : List Value).toArray M K Kp :=
 az (C := Cx) good [] Tryz.func90 (by kernel_rfl) (by kernel_rfl) h
theorem ry {b0 o0 : Nat} {dh : Int} {di : Int} {dk : Int} {eX : Int} (h :
be M (.cells #[(iV dh), (iV di), (iV dk), (iV eX)] 34 (0, 0)) fun k1 M2 =>
rI M2 k1 0 fun n3 =>
aa Tryz.prog 153 #[] M2 (fun v4 M5 =>
((Mem.ld M5 ⟨k1, 0, none⟩) = (some (iV n3))) ∧
aS Tryz.prog (Go.Instr.lookup 302 v4 (iV n3) true) M5 (fun v6 M7 =>
∃ v8 : Value, ∃ t9 : Bool, (v6 = (.tuple #[v8, (.bool t9)])) ∧
((Mem.ld M7 ⟨k1, 0, none⟩) = (some (iV n3))) ∧
aV t9
 (rI M7 b0 (o0 + 1) fun j9 =>
 sT M7 b0 (o0 + 1) (iV (IntKind.wrap .i64 (j9 + 1))) fun hH =>
 rI hH k1 0 fun jf =>
 rI hH k1 1 fun jg =>
 rI hH k1 2 fun jc =>
 rI hH k1 3 fun jY =>
 iF Cx v8 [(.pointer (some ⟨b0, o0, none⟩)), (.agg #[(iV jf), (iV jg), (iV jc), (iV jY)])] hH (fun QL j8 =>
 (QL = (.tuple #[])) ∧
 K (.bool t9) j8) Kp)
 (K (.bool t9) M7)) Kp) Kp) :
 aa Tryz.prog 121 ([.pointer (some ⟨b0, o0, none⟩), .agg #[.int .i64 dh, .int .i64 di, .int .i64 dk, .int .i64 eX]] : List Value).toArray M K Kp :=
 az (C := Cx) good [(1, .bT [0, 0, 2, 7, 15, 31, 31, 63, 255] (.step 1 (.dJ 2 (.step 0 (.step 3 (.step 4 (.step 5 (.step 6 (.step 7 (.step 8 .done))))))))))] Tryz.func121 (by kernel_rfl) (by kernel_rfl) h
theorem oR {b0 o0 : Nat} {x1 : Int} {b2 o2 : Nat} {fD : Int} {fE : Int} {fF : Int} {fG : Int} (h :
be M (.cells #[(iV fD), (iV fE), (iV fF), (iV fG)] 34 (0, 0)) fun k1 M2 =>
rI M2 k1 0 fun n3 =>
rI M2 k1 1 fun n4 =>
rI M2 k1 2 fun n5 =>
rI M2 k1 3 fun n6 =>
aa Tryz.prog 154 #[(.pointer (some ⟨b0, o0, none⟩)), (.agg #[(iV n3), (iV n4), (iV n5), (iV n6)])] M2 (fun v7 M8 =>
aD (some v7) fun A9 dP eL =>
rS M8 b0 (o0 + 6) fun sE dm gq =>
aa Tryz.prog 155 #[(.slice A9 dP eL), (.slice sE dm gq)] M8 (fun Dh fh =>
aD (some Dh) fun Mk en jd =>
aV (((en : Nat) : Int) == 0)
 (rI fh b2 (o2 + 1) fun fI =>
 sT fh b2 (o2 + 1) (iV (IntKind.wrap .i64 (fI + 1))) fun je =>
 aa Tryz.prog 156 #[(.slice A9 dP eL)] je (fun G3 lg =>
 ∃ xT : Int, ∃ t25 : Bool, (G3 = (.tuple #[(iV xT), (.bool t25)])) ∧
 aV t25
 (rI lg k1 3 fun oS =>
 ((0 : Int) ≤ oS) ∧
 ((oS : Int) < 8) ∧
 sT lg b2 ((o2 + 2) + (Int.toNat oS)) (iV xT) fun sD =>
 K (.tuple #[]) sD)
 (((0 : Int) ≤ 8) ∧
 ((8 : Int) ≤ 8) ∧
 ((0 : Int) ≤ 8) ∧
 ((8 : Int) ≤ 8) ∧
 ((0 : Int) ≤ 0) ∧
 ((0 : Int) ≤ 8) ∧
 rS lg b0 (o0 + 6) fun KP kB lJ =>
 aa Tryz.prog 157 #[(iV x1), (.slice A9 dP eL), (.slice (lM (some ⟨b2, (o2 + 2), none⟩) 0 8 1) 8 8), (.slice KP kB lJ)] lg (fun T6 mX =>
 (T6 = (.tuple #[])) ∧
 rI mX k1 0 fun lI =>
 rI mX k1 1 fun QM =>
 rI mX k1 2 fun Mm =>
 rI mX k1 3 fun yq =>
 aa Tryz.prog 158 #[(.pointer (some ⟨b0, o0, none⟩)), (iV x1), (.agg #[(iV lI), (iV QM), (iV Mm), (iV yq)])] mX (fun SX jZ =>
 (SX = (.tuple #[])) ∧
 K (.tuple #[]) jZ) Kp) Kp)) Kp)
 (fz (Mem.ld fh ⟨b0, (o0 + 14), none⟩) fun v39 =>
 iF Cx v39 [(iV 3), (iV ((en : Nat) : Int))] fh (fun Jp Bf =>
 aK (some Jp) .i64 fun QN =>
 ((0 : Int) ≤ QN) ∧
 ((QN : Int) < ((en : Nat) : Int)) ∧
 aG Mk fun lU KM =>
 rI Bf lU (KM + (Int.toNat QN)) fun xU =>
 rI Bf b2 (o2 + 1) fun E7 =>
 sT Bf b2 (o2 + 1) (iV (IntKind.wrap .i64 (E7 + 1))) fun qR =>
 ((0 : Int) ≤ xU) ∧
 ((xU : Int) < ((dP : Nat) : Int)) ∧
 aG A9 fun E8 Mn =>
 rI qR E8 (Mn + ((Int.toNat xU) * 3)) fun Ca =>
 rI qR E8 ((Mn + ((Int.toNat xU) * 3)) + 1) fun Bg =>
 rI qR E8 ((Mn + ((Int.toNat xU) * 3)) + 2) fun YQ =>
 be qR (.cells #[(iV 0), (iV 0), (iV 0)] 172 (0, 0)) fun jy EX =>
 sT EX jy 0 (iV Ca) fun oD =>
 sT oD jy 1 (iV Bg) fun G0 =>
 sT G0 jy 2 (iV YQ) fun vU =>
 rI vU jy 0 fun EY =>
 aV (EY == 1)
 (rI vU jy 1 fun Dd =>
 rI vU jy 2 fun Jl =>
 ((0 : Int) ≤ Jl) ∧
 ((Jl : Int) < 8) ∧
 rI vU b2 ((o2 + 2) + (Int.toNat Jl)) fun KN =>
 aa Tryz.prog 159 #[(.pointer (some ⟨b0, o0, none⟩)), (iV Dd), (iV KN)] vU (fun Ug xm =>
 cJ (some Ug) fun t64 =>
 rI xm k1 3 fun vV =>
 ((0 : Int) ≤ vV) ∧
 ((vV : Int) < 8) ∧
 sT xm b2 ((o2 + 2) + (Int.toNat vV)) (iV xU) fun SY =>
 K (.tuple #[]) SY) Kp)
 (rI vU jy 1 fun YR =>
 rI vU jy 2 fun Jq =>
 aa Tryz.prog 160 #[(.pointer (some ⟨b0, o0, none⟩)), (iV YR)] vU (fun YS AI =>
 ∃ XH : Int, ∃ YT : Int, ∃ t73 : Bool, (YS = (.tuple #[(iV XH), (iV YT), (.bool t73)])) ∧
 ((Mem.ld AI ⟨jy, 2, none⟩) = (some (iV Jq))) ∧
 ((0 : Int) ≤ Jq) ∧
 ((Jq : Int) < 8) ∧
 sT AI b2 ((o2 + 2) + (Int.toNat Jq)) (iV XH) fun Cb =>
 ((Mem.ld Cb ⟨jy, 2, none⟩) = (some (iV Jq))) ∧
 rI Cb k1 3 fun NG =>
 ((0 : Int) ≤ NG) ∧
 ((NG : Int) < 8) ∧
 sT Cb b2 ((o2 + 2) + (Int.toNat NG)) (iV xU) fun M76 =>
 K (.tuple #[]) M76) Kp)) Kp)) Kp) Kp) :
 aa Tryz.prog 122 ([.pointer (some ⟨b0, o0, none⟩), .int .i64 x1, .pointer (some ⟨b2, o2, none⟩), .agg #[.int .i64 fD, .int .i64 fE, .int .i64 fF, .int .i64 fG]] : List Value).toArray M K Kp :=
 az (C := Cx) good [(7, .bT [0, 0, 2, 0, 1, 17, 63, 127] (.step 0 (.step 1 (.step 3 (.step 4 (.step 5 (.step 2 (.step 6 (.step 7 .done))))))))), (8, .bT [0, 0, 0, 4, 12, 28, 0, 64, 192, 448, 1023] (.step 0 (.step 1 (.step 2 (.step 3 (.step 4 (.step 5 (.step 6 (.step 7 (.step 8 (.step 9 (.step 10 .done)))))))))))), (14, .bT [0, 0, 2, 0, 0, 16, 8, 72, 248, 504, 1023] (.step 0 (.step 1 (.step 3 (.step 4 (.step 6 (.step 7 (.step 2 (.step 5 (.step 8 (.step 9 (.step 10 .done)))))))))))), (15, .bT [0, 0, 2, 0, 0, 16, 56, 120, 248, 248, 248, 1, 2049, 6655, 14847] (.step 0 (.step 1 (.step 3 (.step 4 (.step 11 (.step 12 (.step 5 (.dJ 2 (.step 6 (.step 7 (.step 8 (.step 9 (.step 10 (.step 13 (.step 14 .done)))))))))))))))), (16, .bT [0, 0, 2, 0, 1, 17, 63, 127] (.step 0 (.step 1 (.step 3 (.step 4 (.step 5 (.step 2 (.step 6 (.step 7 .done)))))))))] Tryz.func122 (by kernel_rfl) (by kernel_rfl) h
theorem rz {b0 o0 : Nat} {x1 : Int} {b2 o2 : Nat} {fD : Int} {fE : Int} {fF : Int} {fG : Int} (h :
be M (.cells #[(iV fD), (iV fE), (iV fF), (iV fG)] 34 (0, 0)) fun k1 M2 =>
fz (Mem.ld M2 ⟨b0, (o0 + 14), none⟩) fun v3 =>
rI M2 k1 2 fun n4 =>
iF Cx v3 [(iV 4), (iV n4)] M2 (fun v5 M6 =>
aK (some v5) .i64 fun n7 =>
rI M6 b2 (o2 + 1) fun n8 =>
sT M6 b2 (o2 + 1) (iV (IntKind.wrap .i64 (n8 + 1))) fun M9 =>
rI M9 k1 1 fun j9 =>
((0 : Int) ≤ j9) ∧
((j9 : Int) < 8) ∧
sT M9 b2 ((o2 + 2) + (Int.toNat j9)) (iV n7) fun hH =>
K (.tuple #[]) hH) Kp) :
 aa Tryz.prog 123 ([.pointer (some ⟨b0, o0, none⟩), .int .i64 x1, .pointer (some ⟨b2, o2, none⟩), .agg #[.int .i64 fD, .int .i64 fE, .int .i64 fF, .int .i64 fG]] : List Value).toArray M K Kp :=
 az (C := Cx) good [(1, .bT [0, 1, 3, 7, 0, 16, 63, 127] (.step 0 (.step 1 (.step 2 (.step 4 (.step 3 (.step 5 (.step 6 (.step 7 .done))))))))), (3, .bT [0, 0, 2, 0, 1, 17, 63, 127] (.step 0 (.step 1 (.step 3 (.step 4 (.step 5 (.step 2 (.step 6 (.step 7 .done)))))))))] Tryz.func123 (by kernel_rfl) (by kernel_rfl) h
theorem zh  (h :
be M (.map #[] 0) fun k1 M2 =>
bJ Tryz.prog (Go.Instr.mapUpdate 261 (.map (some k1)) (iV 9) (.func (.func 161) #[] #[])) M2 (fun M3 =>
bJ Tryz.prog (Go.Instr.mapUpdate 261 (.map (some k1)) (iV 10) (.func (.func 162) #[] #[])) M3 (fun M4 =>
bJ Tryz.prog (Go.Instr.mapUpdate 261 (.map (some k1)) (iV 11) (.func (.func 163) #[] #[])) M4 (fun M5 =>
bJ Tryz.prog (Go.Instr.mapUpdate 261 (.map (some k1)) (iV 12) (.func (.func 164) #[] #[])) M5 (fun M6 =>
bJ Tryz.prog (Go.Instr.mapUpdate 261 (.map (some k1)) (iV 13) (.func (.func 165) #[] #[])) M6 (fun M7 =>
bJ Tryz.prog (Go.Instr.mapUpdate 261 (.map (some k1)) (iV 14) (.func (.func 166) #[] #[])) M7 (fun M8 =>
bJ Tryz.prog (Go.Instr.mapUpdate 261 (.map (some k1)) (iV 15) (.func (.func 167) #[] #[])) M8 (fun M9 =>
bJ Tryz.prog (Go.Instr.mapUpdate 261 (.map (some k1)) (iV 17) (.func (.func 168) #[] #[])) M9 (fun gV =>
bJ Tryz.prog (Go.Instr.mapUpdate 261 (.map (some k1)) (iV 18) (.func (.func 169) #[] #[])) gV (fun hH =>
bJ Tryz.prog (Go.Instr.mapUpdate 261 (.map (some k1)) (iV 19) (.func (.func 170) #[] #[])) hH (fun ja =>
bJ Tryz.prog (Go.Instr.mapUpdate 261 (.map (some k1)) (iV 20) (.func (.func 171) #[] #[])) ja (fun j7 =>
bJ Tryz.prog (Go.Instr.mapUpdate 261 (.map (some k1)) (iV 22) (.func (.func 172) #[] #[])) j7 (fun iC =>
K (.map (some k1)) iC) Kp) Kp) Kp) Kp) Kp) Kp) Kp) Kp) Kp) Kp) Kp) Kp) :
 aa Tryz.prog 124 ([] : List Value).toArray M K Kp :=
 az (C := Cx) good [] Tryz.func124 (by kernel_rfl) (by kernel_rfl) h
theorem rD {b0 o0 : Nat} {x1 : Int} (h :
be M (.cells #[(.int .u64 0), (.int .u64 0), (.int .i64 0)] 205 (0, 0)) fun k1 M2 =>
aD (Mem.ld M2 ⟨b0, o0, none⟩) fun A3 k4 k5 =>
((0 : Int) ≤ x1) ∧
((x1 : Int) < ((k4 : Nat) : Int)) ∧
aG A3 fun k6 k7 =>
aK (Mem.ld M2 ⟨k6, (k7 + ((Int.toNat x1) * 3)), none⟩) .u64 fun n8 =>
aK (Mem.ld M2 ⟨k6, ((k7 + ((Int.toNat x1) * 3)) + 1), none⟩) .u64 fun n9 =>
aK (Mem.ld M2 ⟨k6, ((k7 + ((Int.toNat x1) * 3)) + 2), none⟩) .i64 fun j9 =>
be M2 (.cells #[(.int .u64 0), (.int .u64 0), (.int .i64 0)] 205 (0, 0)) fun eL ja =>
aO ja ⟨eL, 0, none⟩ (.int .u64 n8) fun j7 =>
aO j7 ⟨eL, (0 + 1), none⟩ (.int .u64 n9) fun iC =>
aO iC ⟨eL, (0 + 2), none⟩ (.int .i64 j9) fun oE =>
aD (Mem.ld oE ⟨b0, o0, none⟩) fun SZ eT en =>
aa Tryz.prog 136 #[(.pointer (some ⟨b0, o0, none⟩)), (.int .i64 x1), (.int .i64 (IntKind.wrap .i64 (((eT : Nat) : Int) - 1)))] oE (fun QO nU =>
(QO = (.tuple #[])) ∧
aD (Mem.ld nU ⟨b0, o0, none⟩) fun Dg gJ iY =>
((0 : Int) ≤ ((iY : Nat) : Int)) ∧
((((iY : Nat) : Int) : Int) ≤ ((iY : Nat) : Int)) ∧
((0 : Int) ≤ (IntKind.wrap .i64 (((eT : Nat) : Int) - 1))) ∧
(((IntKind.wrap .i64 (((eT : Nat) : Int) - 1)) : Int) ≤ ((iY : Nat) : Int)) ∧
((0 : Int) ≤ 0) ∧
((0 : Int) ≤ (IntKind.wrap .i64 (((eT : Nat) : Int) - 1))) ∧
aO nU ⟨b0, o0, none⟩ (.slice (lM Dg 0 (Int.toNat ((iY : Nat) : Int)) 3) ((Int.toNat (IntKind.wrap .i64 (((eT : Nat) : Int) - 1))) - 0) ((Int.toNat ((iY : Nat) : Int)) - 0)) fun iz =>
aV (decide ((x1 : Int) < (IntKind.wrap .i64 (((eT : Nat) : Int) - 1))))
 (aa Tryz.prog 137 #[(.pointer (some ⟨b0, o0, none⟩)), (.int .i64 x1)] iz (fun Uf xl =>
 (Uf = (.tuple #[])) ∧
 aa Tryz.prog 138 #[(.pointer (some ⟨b0, o0, none⟩)), (.int .i64 x1)] xl (fun NJ y7 =>
 (NJ = (.tuple #[])) ∧
 aK (Mem.ld y7 ⟨eL, 0, none⟩) .u64 fun xu =>
 aK (Mem.ld y7 ⟨eL, (0 + 1), none⟩) .u64 fun Hg =>
 aK (Mem.ld y7 ⟨eL, (0 + 2), none⟩) .i64 fun tV =>
 aO y7 ⟨k1, 0, none⟩ (.int .u64 xu) fun mX =>
 aO mX ⟨k1, (0 + 1), none⟩ (.int .u64 Hg) fun uz =>
 aO uz ⟨k1, (0 + 2), none⟩ (.int .i64 tV) fun mI =>
 aK (Mem.ld mI ⟨k1, 0, none⟩) .u64 fun Mm =>
 aK (Mem.ld mI ⟨k1, (0 + 1), none⟩) .u64 fun yq =>
 aK (Mem.ld mI ⟨k1, (0 + 2), none⟩) .i64 fun NB =>
 K (.agg #[(.int .u64 Mm), (.int .u64 yq), (.int .i64 NB)]) mI) Kp) Kp)
 (aK (Mem.ld iz ⟨eL, 0, none⟩) .u64 fun KJ =>
 aK (Mem.ld iz ⟨eL, (0 + 1), none⟩) .u64 fun Ji =>
 aK (Mem.ld iz ⟨eL, (0 + 2), none⟩) .i64 fun P8 =>
 aO iz ⟨k1, 0, none⟩ (.int .u64 KJ) fun Bf =>
 aO Bf ⟨k1, (0 + 1), none⟩ (.int .u64 Ji) fun KR =>
 aO KR ⟨k1, (0 + 2), none⟩ (.int .i64 P8) fun vZ =>
 aK (Mem.ld vZ ⟨k1, 0, none⟩) .u64 fun Dk =>
 aK (Mem.ld vZ ⟨k1, (0 + 1), none⟩) .u64 fun xU =>
 aK (Mem.ld vZ ⟨k1, (0 + 2), none⟩) .i64 fun E7 =>
 K (.agg #[(.int .u64 Dk), (.int .u64 xU), (.int .i64 E7)]) vZ)) Kp) :
 aa Tryz.prog 106 ([.pointer (some ⟨b0, o0, none⟩), .int .i64 x1] : List Value).toArray M K Kp :=
 az (C := Cx) good [] Tryz.func106 (by kernel_rfl) (by kernel_rfl) h
theorem zi  (h :
be M (.map #[] 0) fun k1 M2 =>
bJ Tryz.prog (Go.Instr.mapUpdate 302 (.map (some k1)) (iV 0) (.func (.func 195) #[] #[])) M2 (fun M3 =>
bJ Tryz.prog (Go.Instr.mapUpdate 302 (.map (some k1)) (iV 1) (.func (.func 196) #[] #[])) M3 (fun M4 =>
bJ Tryz.prog (Go.Instr.mapUpdate 302 (.map (some k1)) (iV 2) (.func (.func 197) #[] #[])) M4 (fun M5 =>
bJ Tryz.prog (Go.Instr.mapUpdate 302 (.map (some k1)) (iV 3) (.func (.func 198) #[] #[])) M5 (fun M6 =>
bJ Tryz.prog (Go.Instr.mapUpdate 302 (.map (some k1)) (iV 4) (.func (.func 199) #[] #[])) M6 (fun M7 =>
bJ Tryz.prog (Go.Instr.mapUpdate 302 (.map (some k1)) (iV 5) (.func (.func 200) #[] #[])) M7 (fun M8 =>
bJ Tryz.prog (Go.Instr.mapUpdate 302 (.map (some k1)) (iV 6) (.func (.func 201) #[] #[])) M8 (fun M9 =>
bJ Tryz.prog (Go.Instr.mapUpdate 302 (.map (some k1)) (iV 7) (.func (.func 202) #[] #[])) M9 (fun gV =>
bJ Tryz.prog (Go.Instr.mapUpdate 302 (.map (some k1)) (iV 8) (.func (.func 203) #[] #[])) gV (fun hH =>
K (.map (some k1)) hH) Kp) Kp) Kp) Kp) Kp) Kp) Kp) Kp) Kp) :
 aa Tryz.prog 153 ([] : List Value).toArray M K Kp :=
 az (C := Cx) good [] Tryz.func153 (by kernel_rfl) (by kernel_rfl) h
theorem pV {b0 o0 : Nat} {dh : Int} {di : Int} {dk : Int} {eX : Int} (h :
be M (.cells #[(iV dh), (iV di), (iV dk), (iV eX)] 34 (0, 0)) fun k1 M2 =>
rS M2 b0 (o0 + 3) fun A3 k4 k5 =>
rI M2 k1 1 fun n6 =>
rI M2 k1 1 fun n7 =>
rI M2 k1 2 fun n8 =>
((0 : Int) ≤ ((k5 : Nat) : Int)) ∧
((((k5 : Nat) : Int) : Int) ≤ ((k5 : Nat) : Int)) ∧
((0 : Int) ≤ (IntKind.wrap .i64 (n7 + n8))) ∧
(((IntKind.wrap .i64 (n7 + n8)) : Int) ≤ ((k5 : Nat) : Int)) ∧
((0 : Int) ≤ n6) ∧
((n6 : Int) ≤ (IntKind.wrap .i64 (n7 + n8))) ∧
K (.slice (lM A3 (Int.toNat n6) (Int.toNat ((k5 : Nat) : Int)) 3) ((Int.toNat (IntKind.wrap .i64 (n7 + n8))) - (Int.toNat n6)) ((Int.toNat ((k5 : Nat) : Int)) - (Int.toNat n6))) M2) :
 aa Tryz.prog 154 ([.pointer (some ⟨b0, o0, none⟩), .agg #[.int .i64 dh, .int .i64 di, .int .i64 dk, .int .i64 eX]] : List Value).toArray M K Kp :=
 az (C := Cx) good [(1, .bT [0, 1, 3, 7, 15, 0, 32, 0, 128, 0, 512, 1920, 4095, 8191] (.step 0 (.step 1 (.step 2 (.step 3 (.step 5 (.step 7 (.step 9 (.step 4 (.step 6 (.step 8 (.step 10 (.step 11 (.step 12 (.step 13 .done)))))))))))))))] Tryz.func154 (by kernel_rfl) (by kernel_rfl) h
theorem pW {b0 o0 : Nat} {x1 : Int} {NO : Int} {NP : Int} {NQ : Int} {NR : Int} (h :
be M (.cells #[(iV NO), (iV NP), (iV NQ), (iV NR)] 34 (0, 0)) fun k1 M2 =>
rS M2 b0 (o0 + 4) fun A3 k4 k5 =>
((0 : Int) ≤ x1) ∧
((x1 : Int) < ((k4 : Nat) : Int)) ∧
aG A3 fun k6 k7 =>
bO (Mem.ld M2 ⟨k6, (k7 + (Int.toNat x1)), none⟩) fun A8 =>
rS M2 b0 (o0 + 4) fun A9 dP eL =>
((0 : Int) ≤ x1) ∧
((x1 : Int) < ((dP : Nat) : Int)) ∧
aG A9 fun fU dm =>
bO (Mem.ld M2 ⟨fU, (dm + (Int.toNat x1)), none⟩) fun oF =>
aG A8 fun gj dO =>
rI M2 k1 0 fun iw =>
rI M2 k1 1 fun kL =>
rI M2 k1 2 fun xo =>
rI M2 k1 3 fun fI =>
sT M2 gj dO (iV 2) fun je =>
((Mem.fm je ⟨k1, 0, none⟩ 0 4) = some [(iV iw), (iV kL), (iV xo), (iV fI)]) ∧
aG oF fun gJ iY =>
sT je gJ (iY + 2) (iV iw) fun iz =>
sT iz gJ ((iY + 2) + 1) (iV kL) fun B7 =>
sT B7 gJ ((iY + 2) + 2) (iV xo) fun xl =>
sT xl gJ ((iY + 2) + 3) (iV fI) fun sD =>
((Mem.fm sD ⟨k1, 0, none⟩ 0 4) = some [(iV iw), (iV kL), (iV xo), (iV fI)]) ∧
K (.tuple #[]) sD) :
 aa Tryz.prog 158 ([.pointer (some ⟨b0, o0, none⟩), .int .i64 x1, .agg #[.int .i64 NO, .int .i64 NP, .int .i64 NQ, .int .i64 NR]] : List Value).toArray M K Kp :=
 az (C := Cx) good [(1, .bT [0, 1, 3, 7, 0, 31, 63, 0, 128, 384, 896, 0, 3968, 8064, 0, 16383, 49151, 114687, 262143, 524287, 1048575] (.step 0 (.step 1 (.step 2 (.step 4 (.step 7 (.step 8 (.step 9 (.step 11 (.step 3 (.step 5 (.step 6 (.step 10 (.step 12 (.step 13 (.step 15 (.step 16 (.dJ 14 (.step 17 (.step 18 (.step 19 (.step 20 .done))))))))))))))))))))))] Tryz.func158 (by kernel_rfl) (by kernel_rfl) h
theorem tf {b0 o0 : Nat} {x1 : Int} {x2 : Int} (h :
rS M b0 (o0 + 6) fun A1 k2 k3 =>
((0 : Int) ≤ x1) ∧
((x1 : Int) < ((k2 : Nat) : Int)) ∧
aG A1 fun k4 k5 =>
bO (Mem.ld M ⟨k4, (k5 + (Int.toNat x1)), none⟩) fun A6 =>
aa Tryz.prog 207 #[(.pointer A6), (iV x2)] M (fun v7 M8 =>
∃ n9 : Int, ∃ j9 : Int, ∃ fA : Int, ∃ t12 : Bool, ∃ jg : Int, (v7 = (.tuple #[(.agg #[(iV n9), (iV j9), (iV fA)]), (.bool t12), (iV jg)])) ∧
be M8 (.cells #[(iV 0), (iV 0), (iV 0)] 298 (0, 0)) fun gq oE =>
sT oE gq 0 (iV n9) fun fh =>
sT fh gq 1 (iV j9) fun j8 =>
sT j8 gq 2 (iV fA) fun mZ =>
aV (jg == 10)
 (Kp [{ v := (.iface 256 (iV (-1))), recovered := false }] mZ)
 (aV t12
 (rI mZ gq 0 fun xo =>
 rI mZ gq 1 fun fI =>
 rI mZ gq 2 fun nT =>
 aa Tryz.prog 208 #[(.pointer (some ⟨b0, o0, none⟩)), (.agg #[(iV xo), (iV fI), (iV nT)]), (iV 1)] mZ (fun G3 lg =>
 (G3 = (.tuple #[])) ∧
 K (.bool (jg == 0)) lg) Kp)
 (K (.bool (jg == 0)) mZ))) Kp) :
 aa Tryz.prog 159 ([.pointer (some ⟨b0, o0, none⟩), .int .i64 x1, .int .i64 x2] : List Value).toArray M K Kp :=
 az (C := Cx) good [] Tryz.func159 (by kernel_rfl) (by kernel_rfl) h
theorem tg {b0 o0 : Nat} {x1 : Int} (h :
rS M b0 (o0 + 6) fun A1 k2 k3 =>
((0 : Int) ≤ x1) ∧
((x1 : Int) < ((k2 : Nat) : Int)) ∧
aG A1 fun k4 k5 =>
bO (Mem.ld M ⟨k4, (k5 + (Int.toNat x1)), none⟩) fun A6 =>
aa Tryz.prog 209 #[(.pointer A6)] M (fun v7 M8 =>
∃ n9 : Int, ∃ t10 : Bool, ∃ fA : Int, ∃ jf : Int, ∃ jg : Int, ∃ t14 : Bool, ∃ jY : Int, (v7 = (.tuple #[(.agg #[(iV n9), (.bool t10), (iV fA), (iV jf), (iV jg), (.bool t14)]), (iV jY)])) ∧
be M8 (.cells #[(iV 0), (.bool false), (iV 0), (iV 0), (iV 0), (.bool false)] 335 (0, 0)) fun dO j8 =>
sT j8 dO 0 (iV n9) fun mZ =>
sT mZ dO 1 (.bool t10) fun iq =>
sT iq dO 2 (iV fA) fun nU =>
sT nU dO 3 (iV jf) fun je =>
sT je dO 4 (iV jg) fun cZ =>
sT cZ dO 5 (.bool t14) fun lg =>
cJ (Mem.ld lg ⟨dO, 5, none⟩) fun t24 =>
aV t24
 (rI lg dO 2 fun mJ =>
 rI lg dO (2 + 1) fun oS =>
 rI lg dO (2 + 2) fun yp =>
 aa Tryz.prog 210 #[(.pointer (some ⟨b0, o0, none⟩)), (.agg #[(iV mJ), (iV oS), (iV yp)])] lg (fun NK mA =>
 (NK = (.tuple #[])) ∧
 cJ (Mem.ld mA ⟨dO, 1, none⟩) fun t30 =>
 aV t30
 (rI mA dO 0 fun tV =>
 K (.tuple #[(iV tV), (iV 1), (.bool true)]) mA)
 (K (.tuple #[(iV 0), (iV 0), (.bool (jY == 0))]) mA)) Kp)
 (cJ (Mem.ld lg ⟨dO, 1, none⟩) fun t32 =>
 aV t32
 (rI lg dO 0 fun lI =>
 K (.tuple #[(iV lI), (iV 1), (.bool true)]) lg)
 (K (.tuple #[(iV 0), (iV 0), (.bool (jY == 0))]) lg))) Kp) :
 aa Tryz.prog 160 ([.pointer (some ⟨b0, o0, none⟩), .int .i64 x1] : List Value).toArray M K Kp :=
 az (C := Cx) good [] Tryz.func160 (by kernel_rfl) (by kernel_rfl) h
theorem rE {b0 o0 : Nat} {x1 : Int} {b2 o2 : Nat} {fD : Int} {fE : Int} {fF : Int} {fG : Int} (h :
be M (.cells #[(iV fD), (iV fE), (iV fF), (iV fG)] 34 (0, 0)) fun k1 M2 =>
rS M2 b0 (o0 + 4) fun A3 k4 k5 =>
((0 : Int) ≤ x1) ∧
((x1 : Int) < ((k4 : Nat) : Int)) ∧
aG A3 fun k6 k7 =>
bO (Mem.ld M2 ⟨k6, (k7 + (Int.toNat x1)), none⟩) fun A8 =>
aG A8 fun k9 dP =>
rS M2 k9 (dP + 1) fun Jr fU dm =>
rI M2 k1 1 fun jc =>
rI M2 k1 2 fun jY =>
((0 : Int) ≤ jY) ∧
((jY : Int) < 8) ∧
rI M2 b2 ((o2 + 2) + (Int.toNat jY)) fun mB =>
rI M2 k1 3 fun iw =>
aa Tryz.prog 211 #[(.slice Jr fU dm), (iV jc), (iV mB), (iV iw)] M2 (fun EW iq =>
∃ A20 : Option Addr, ∃ fC : Nat, ∃ gJ : Nat, ∃ t23 : Bool, (EW = (.tuple #[(.slice A20 fC gJ), (.bool t23)])) ∧
aV (!t23)
 (Kp [{ v := (.iface 256 (iV (-4))), recovered := false }] iq)
 (rS iq b0 (o0 + 4) fun G4 sU lT =>
 ((0 : Int) ≤ x1) ∧
 ((x1 : Int) < ((sU : Nat) : Int)) ∧
 aG G4 fun oN lK =>
 bO (Mem.ld iq ⟨oN, (lK + (Int.toNat x1)), none⟩) fun SR =>
 aG SR fun lJ nW =>
 sT iq lJ (nW + 1) (.slice A20 fC gJ) fun mX =>
 K (.tuple #[]) mX)) Kp) :
 aa Tryz.prog 161 ([.pointer (some ⟨b0, o0, none⟩), .int .i64 x1, .pointer (some ⟨b2, o2, none⟩), .agg #[.int .i64 fD, .int .i64 fE, .int .i64 fF, .int .i64 fG]] : List Value).toArray M K Kp :=
 az (C := Cx) good [(1, .bT [0, 1, 3, 7, 0, 31, 63, 127, 255, 511, 0, 1024, 0, 0, 8192, 4096, 36864, 126976, 258048, 0, 524288, 2097151, 4194303, 8388607, 8388607, 16777215, 67108863] (.step 0 (.step 1 (.step 2 (.step 4 (.step 10 (.step 12 (.step 13 (.step 15 (.step 16 (.step 19 (.step 3 (.step 5 (.step 6 (.step 7 (.step 8 (.step 9 (.step 11 (.step 14 (.step 17 (.step 18 (.step 20 (.step 21 (.step 22 (.step 23 (.step 24 (.step 25 (.step 26 .done))))))))))))))))))))))))))))] Tryz.func161 (by kernel_rfl) (by kernel_rfl) h
theorem rF {b0 o0 : Nat} {x1 : Int} {b2 o2 : Nat} {fD : Int} {fE : Int} {fF : Int} {fG : Int} (h :
be M (.cells #[(iV fD), (iV fE), (iV fF), (iV fG)] 34 (0, 0)) fun k1 M2 =>
rS M2 b0 (o0 + 4) fun A3 k4 k5 =>
((0 : Int) ≤ x1) ∧
((x1 : Int) < ((k4 : Nat) : Int)) ∧
aG A3 fun k6 k7 =>
bO (Mem.ld M2 ⟨k6, (k7 + (Int.toNat x1)), none⟩) fun A8 =>
aG A8 fun k9 dP =>
rS M2 k9 (dP + 1) fun Jr fU dm =>
rI M2 k1 1 fun jc =>
((0 : Int) ≤ jc) ∧
((jc : Int) < 8) ∧
rI M2 b2 ((o2 + 2) + (Int.toNat jc)) fun jY =>
aa Tryz.prog 212 #[(.slice Jr fU dm), (iV jY)] M2 (fun QL j8 =>
∃ Js : Option Addr, ∃ jd : Nat, ∃ iA : Nat, ∃ t21 : Bool, (QL = (.tuple #[(.slice Js jd iA), (.bool t21)])) ∧
aV t21
 (rS j8 b0 (o0 + 4) fun QS iY ri =>
 ((0 : Int) ≤ x1) ∧
 ((x1 : Int) < ((iY : Nat) : Int)) ∧
 aG QS fun sU lT =>
 bO (Mem.ld j8 ⟨sU, (lT + (Int.toNat x1)), none⟩) fun SW =>
 aG SW fun lK kB =>
 sT j8 lK (kB + 1) (.slice Js jd iA) fun oM =>
 K (.tuple #[]) oM)
 (rS j8 b0 (o0 + 4) fun QK tW jA =>
 ((0 : Int) ≤ x1) ∧
 ((x1 : Int) < ((tW : Nat) : Int)) ∧
 aG QK fun uw sW =>
 bO (Mem.ld j8 ⟨uw, (sW + (Int.toNat x1)), none⟩) fun S0 =>
 aG S0 fun yu gZ =>
 sT j8 yu gZ (iV 4) fun XI =>
 aV (x1 == 0)
 (sT XI b0 (o0 + 11) (iV 1) fun QT =>
 K (.tuple #[]) QT)
 (K (.tuple #[]) XI))) Kp) :
 aa Tryz.prog 162 ([.pointer (some ⟨b0, o0, none⟩), .int .i64 x1, .pointer (some ⟨b2, o2, none⟩), .agg #[.int .i64 fD, .int .i64 fE, .int .i64 fF, .int .i64 fG]] : List Value).toArray M K Kp :=
 az (C := Cx) good [(1, .bT [0, 1, 3, 7, 0, 31, 63, 127, 255, 511, 0, 0, 2048, 1024, 9216, 31744, 64512, 131071, 262143, 524287, 524287, 1048575, 4194303] (.step 0 (.step 1 (.step 2 (.step 4 (.step 10 (.step 11 (.step 13 (.step 14 (.step 3 (.step 5 (.step 6 (.step 7 (.step 8 (.step 9 (.step 12 (.step 15 (.step 16 (.step 17 (.step 18 (.step 19 (.step 20 (.step 21 (.step 22 .done))))))))))))))))))))))))] Tryz.func162 (by kernel_rfl) (by kernel_rfl) h
theorem pX {b0 o0 : Nat} {x1 : Int} {b2 o2 : Nat} {fD : Int} {fE : Int} {fF : Int} {fG : Int} (h :
be M (.cells #[(iV fD), (iV fE), (iV fF), (iV fG)] 34 (0, 0)) fun k1 M2 =>
rS M2 b0 (o0 + 4) fun A3 k4 k5 =>
aV (decide ((((k4 : Nat) : Int) : Int) ≥ 100))
 (Kp [{ v := (.iface 256 (iV (-5))), recovered := false }] M2)
 (rS M2 b0 (o0 + 4) fun A6 k7 k8 =>
 ∃ J9 : List Value → Mem → Prop, (rI M2 k1 1 fun j9 =>
 rI M2 k1 2 fun fA =>
 ((0 : Int) ≤ fA) ∧
 ((fA : Int) < 8) ∧
 rI M2 b2 ((o2 + 2) + (Int.toNat fA)) fun jf =>
 (rS M2 b0 (o0 + 4) fun Mh gq gj =>
 aa Tryz.prog 71 #[(iV j9), (iV jf)] M2 (fun QL j8 =>
 aD (some QL) fun Js jd iA =>
 be j8 (.cells #[(iV 0), (.slice Js jd iA), (iV 0), (iV 0), (iV 0), (iV 0)] 182 (0, 0)) fun fC cZ =>
 be cZ (.cells #[(.pointer (some ⟨fC, 0, none⟩))] 177 (0, 0)) fun iY iz =>
 aS Tryz.prog (Go.Builtin.append_ #[158, 158] 158 #[(.slice Mh gq gj), (.slice (some ⟨iY, 0, none⟩) 1 1)]) iz (fun Uf xl =>
 aD (some Uf) fun SW lK kB =>
 sT xl b0 (o0 + 4) (.slice SW lK kB) fun oM =>
 J9 [] oM) Kp) Kp) ∧
 (aa Tryz.prog 71 #[(iV j9), (iV jf)] M2 (fun T6 mX =>
 aD (some T6) fun KL uw sW =>
 rS mX b0 (o0 + 4) fun S0 yu gZ =>
 be mX (.cells #[(iV 0), (.slice KL uw sW), (iV 0), (iV 0), (iV 0), (iV 0)] 182 (0, 0)) fun tX QT =>
 be QT (.cells #[(.pointer (some ⟨tX, 0, none⟩))] 177 (0, 0)) fun NC KR =>
 aS Tryz.prog (Go.Builtin.append_ #[158, 158] 158 #[(.slice S0 yu gZ), (.slice (some ⟨NC, 0, none⟩) 1 1)]) KR (fun v43 xy =>
 aD (some v43) fun A45 Jj Mj =>
 sT xy b0 (o0 + 4) (.slice A45 Jj Mj) fun ND =>
 J9 [] ND) Kp) Kp) ∧
 True) ∧
 ∀ junk49 : Nat → Value, ∀ AH : Mem, (J9 [] AH) → aa Tryz.prog 90 #[(.pointer (some ⟨b0, o0, none⟩)), (iV ((k7 : Nat) : Int))] AH (fun v51 Uh =>
 (v51 = (.tuple #[])) ∧
 rI Uh k1 3 fun YU =>
 ((0 : Int) ≤ YU) ∧
 ((YU : Int) < 8) ∧
 sT Uh b2 ((o2 + 2) + (Int.toNat YU)) (iV ((k7 : Nat) : Int)) fun EX =>
 K (.tuple #[]) EX) Kp)) :
 aa Tryz.prog 163 ([.pointer (some ⟨b0, o0, none⟩), .int .i64 x1, .pointer (some ⟨b2, o2, none⟩), .agg #[.int .i64 fD, .int .i64 fE, .int .i64 fF, .int .i64 fG]] : List Value).toArray M K Kp :=
 az (C := Cx) good [(4, .EK [0, 0, 2, 6, 14, 0, 32, 0, 0, 256, 128, 1152, 3968, 8064, 16352, 32736, 65504, 131040, 262142, 524287, 1048575, 2097151] (.step 0 (.step 1 (.step 2 (.step 3 (.step 5 (.step 7 (.step 8 (.step 10 (.step 11 (.step 6 (.step 9 (.step 12 (.step 13 (.fork 4 (.step 14 (.step 15 (.step 16 (.step 17 (.step 18 (.step 19 (.step 20 (.step 21 .done)))))))) (.fork 14 (.step 15 (.step 4 (.step 16 (.step 17 (.step 18 (.step 19 (.step 20 (.step 21 .done)))))))) .dead))))))))))))))) []), (6, .bT [0, 0, 2, 0, 1, 17, 63, 127] (.step 0 (.step 1 (.step 3 (.step 4 (.step 5 (.step 2 (.step 6 (.step 7 .done)))))))))] Tryz.func163 (by kernel_rfl) (by kernel_rfl) h
theorem pY {b0 o0 : Nat} {x1 : Int} {b2 o2 : Nat} {fD : Int} {fE : Int} {fF : Int} {fG : Int} (h :
be M (.cells #[(iV fD), (iV fE), (iV fF), (iV fG)] 34 (0, 0)) fun k1 M2 =>
K (.tuple #[]) M2) :
 aa Tryz.prog 164 ([.pointer (some ⟨b0, o0, none⟩), .int .i64 x1, .pointer (some ⟨b2, o2, none⟩), .agg #[.int .i64 fD, .int .i64 fE, .int .i64 fF, .int .i64 fG]] : List Value).toArray M K Kp :=
 az (C := Cx) good [] Tryz.func164 (by kernel_rfl) (by kernel_rfl) h
theorem rG {b0 o0 : Nat} {x1 : Int} {b2 o2 : Nat} {fD : Int} {fE : Int} {fF : Int} {fG : Int} (h :
be M (.cells #[(iV fD), (iV fE), (iV fF), (iV fG)] 34 (0, 0)) fun k1 M2 =>
rI M2 k1 1 fun n3 =>
rI M2 k1 2 fun n4 =>
((0 : Int) ≤ n4) ∧
((n4 : Int) < 8) ∧
rI M2 b2 ((o2 + 2) + (Int.toNat n4)) fun n5 =>
aa Tryz.prog 159 #[(.pointer (some ⟨b0, o0, none⟩)), (iV n3), (iV n5)] M2 (fun v6 M7 =>
cJ (some v6) fun t8 =>
aV (!t8)
 (rS M7 b0 (o0 + 6) fun A9 dP eL =>
 rI M7 k1 1 fun jf =>
 ((0 : Int) ≤ jf) ∧
 ((jf : Int) < ((dP : Nat) : Int)) ∧
 aG A9 fun dm gq =>
 bO (Mem.ld M7 ⟨dm, (gq + (Int.toNat jf)), none⟩) fun qO =>
 rI M7 k1 2 fun mB =>
 ((0 : Int) ≤ mB) ∧
 ((mB : Int) < 8) ∧
 rI M7 b2 ((o2 + 2) + (Int.toNat mB)) fun iw =>
 aa Tryz.prog 206 #[(.pointer qO), (.agg #[(iV x1), (iV 0), (iV iw)])] M7 (fun EW iq =>
 (EW = (.tuple #[])) ∧
 rI iq k1 0 fun fI =>
 rI iq k1 1 fun nT =>
 rI iq k1 2 fun sC =>
 rI iq k1 3 fun nX =>
 aa Tryz.prog 158 #[(.pointer (some ⟨b0, o0, none⟩)), (iV x1), (.agg #[(iV fI), (iV nT), (iV sC), (iV nX)])] iq (fun Ui B7 =>
 (Ui = (.tuple #[])) ∧
 K (.tuple #[]) B7) Kp) Kp)
 (K (.tuple #[]) M7)) Kp) :
 aa Tryz.prog 165 ([.pointer (some ⟨b0, o0, none⟩), .int .i64 x1, .pointer (some ⟨b2, o2, none⟩), .agg #[.int .i64 fD, .int .i64 fE, .int .i64 fF, .int .i64 fG]] : List Value).toArray M K Kp :=
 az (C := Cx) good [(1, .bT [0, 0, 2, 0, 0, 16, 8, 72, 248, 504, 1023, 2047] (.step 0 (.step 1 (.step 3 (.step 4 (.step 6 (.step 7 (.step 2 (.step 5 (.step 8 (.step 9 (.step 10 (.step 11 .done))))))))))))), (2, .bT [0, 1, 3, 7, 0, 16, 63, 127, 0, 0, 0, 1024, 512, 4608, 15872, 32256, 65280, 131071] (.step 0 (.step 1 (.step 2 (.step 4 (.step 8 (.step 9 (.step 10 (.step 12 (.step 13 (.step 3 (.step 5 (.step 6 (.step 7 (.step 11 (.step 14 (.step 15 (.step 16 (.step 17 .done)))))))))))))))))))] Tryz.func165 (by kernel_rfl) (by kernel_rfl) h
theorem rH {b0 o0 : Nat} {x1 : Int} {b2 o2 : Nat} {fD : Int} {fE : Int} {fF : Int} {fG : Int} (h :
be M (.cells #[(iV fD), (iV fE), (iV fF), (iV fG)] 34 (0, 0)) fun k1 M2 =>
rI M2 k1 1 fun n3 =>
aa Tryz.prog 160 #[(.pointer (some ⟨b0, o0, none⟩)), (iV n3)] M2 (fun v4 M5 =>
∃ n6 : Int, ∃ n7 : Int, ∃ t8 : Bool, (v4 = (.tuple #[(iV n6), (iV n7), (.bool t8)])) ∧
aV (!t8)
 (rS M5 b0 (o0 + 6) fun A9 dP eL =>
 rI M5 k1 1 fun jf =>
 ((0 : Int) ≤ jf) ∧
 ((jf : Int) < ((dP : Nat) : Int)) ∧
 aG A9 fun dm gq =>
 bO (Mem.ld M5 ⟨dm, (gq + (Int.toNat jf)), none⟩) fun qO =>
 aa Tryz.prog 205 #[(.pointer qO), (.agg #[(iV x1), (iV 0), (iV 0)])] M5 (fun QL j8 =>
 (QL = (.tuple #[])) ∧
 rI j8 k1 0 fun kL =>
 rI j8 k1 1 fun xo =>
 rI j8 k1 2 fun fI =>
 rI j8 k1 3 fun nT =>
 aa Tryz.prog 158 #[(.pointer (some ⟨b0, o0, none⟩)), (iV x1), (.agg #[(iV kL), (iV xo), (iV fI), (iV nT)])] j8 (fun G3 lg =>
 (G3 = (.tuple #[])) ∧
 K (.tuple #[]) lg) Kp) Kp)
 (rI M5 k1 2 fun xT =>
 ((0 : Int) ≤ xT) ∧
 ((xT : Int) < 8) ∧
 rI M5 k1 3 fun mJ =>
 sT M5 b2 ((o2 + 2) + (Int.toNat xT)) (iV n6) fun xl =>
 ((Mem.ld xl ⟨k1, 3, none⟩) = (some (iV mJ))) ∧
 ((0 : Int) ≤ mJ) ∧
 ((mJ : Int) < 8) ∧
 sT xl b2 ((o2 + 2) + (Int.toNat mJ)) (iV n7) fun sD =>
 ((Mem.ld sD ⟨k1, 3, none⟩) = (some (iV mJ))) ∧
 K (.tuple #[]) sD)) Kp) :
 aa Tryz.prog 166 ([.pointer (some ⟨b0, o0, none⟩), .int .i64 x1, .pointer (some ⟨b2, o2, none⟩), .agg #[.int .i64 fD, .int .i64 fE, .int .i64 fF, .int .i64 fG]] : List Value).toArray M K Kp :=
 az (C := Cx) good [(3, .bT [0, 1, 3, 7, 0, 16, 63, 127, 0, 256, 1023] (.step 0 (.step 1 (.step 2 (.step 4 (.step 8 (.step 9 (.step 3 (.step 5 (.step 6 (.step 7 (.step 10 .done)))))))))))), (5, .bT [0, 0, 2, 0, 0, 16, 0, 0, 1, 257, 839, 1863, 8, 4104, 16383, 32767] (.step 0 (.step 1 (.step 3 (.step 4 (.step 6 (.step 7 (.step 8 (.step 9 (.step 12 (.step 13 (.step 2 (.step 10 (.dJ 5 (.step 11 (.step 14 (.step 15 .done)))))))))))))))))] Tryz.func166 (by kernel_rfl) (by kernel_rfl) h
theorem rJ {b0 o0 : Nat} {x1 : Int} {b2 o2 : Nat} {fD : Int} {fE : Int} {fF : Int} {fG : Int} (h :
be M (.cells #[(iV fD), (iV fE), (iV fF), (iV fG)] 34 (0, 0)) fun k1 M2 =>
rS M2 b0 (o0 + 6) fun A3 k4 k5 =>
rI M2 k1 1 fun n6 =>
((0 : Int) ≤ n6) ∧
((n6 : Int) < ((k4 : Nat) : Int)) ∧
aG A3 fun k7 k8 =>
bO (Mem.ld M2 ⟨k7, (k8 + (Int.toNat n6)), none⟩) fun A9 =>
aa Tryz.prog 213 #[(.pointer A9)] M2 (fun v10 hH =>
∃ sE : Option Addr, ∃ dm : Nat, ∃ gq : Nat, ∃ qO : Option Addr, ∃ dO : Nat, ∃ eT : Nat, ∃ kL : Int, (v10 = (.tuple #[(.slice sE dm gq), (.slice qO dO eT), (iV kL)])) ∧
aV (kL != 0)
 (Kp [{ v := (.iface 256 (iV (-2))), recovered := false }] hH)
 (aV (decide ((((dO : Nat) : Int) : Int) > 0))
 (Kp [{ v := (.iface 256 (iV (-1))), recovered := false }] hH)
 (∃ I19 : Nat → List Value → Mem → Prop, (∃ iA : Nat, I19 iA [(iV 0)] hH) ∧
 ∀ fC : Nat, ∀ junk22 : Nat → Value, ∀ nX : Int, ∀ iz : Mem, (I19 fC [(iV nX)] iz) → aV (decide ((nX : Int) < ((dm : Nat) : Int)))
 (((0 : Int) ≤ nX) ∧
 ((nX : Int) < ((dm : Nat) : Int)) ∧
 aG sE fun sU lT =>
 rI iz sU (lT + ((Int.toNat nX) * 3)) fun yp =>
 rI iz sU ((lT + ((Int.toNat nX) * 3)) + 1) fun xn =>
 rI iz sU ((lT + ((Int.toNat nX) * 3)) + 2) fun xu =>
 be iz (.cells #[(iV 0), (iV 0), (iV 0)] 298 (0, 0)) fun lJ Cc =>
 sT Cc lJ 0 (iV yp) fun mX =>
 sT mX lJ 1 (iV xn) fun uz =>
 sT uz lJ 2 (iV xu) fun mI =>
 rS mI b0 (o0 + 4) fun A35 Ec yu =>
 rI mI lJ 0 fun KJ =>
 ((0 : Int) ≤ KJ) ∧
 ((KJ : Int) < ((Ec : Nat) : Int)) ∧
 aG A35 fun tX AX =>
 bO (Mem.ld mI ⟨tX, (AX + (Int.toNat KJ)), none⟩) fun KS =>
 aG KS fun D9 lU =>
 rI mI D9 lU fun Dk =>
 aV (Dk == 2)
 (sT mI lJ 2 (iV 0) fun lW =>
 rI lW lJ 0 fun E7 =>
 rI lW lJ 1 fun BZ =>
 rI lW lJ 2 fun xV =>
 aa Tryz.prog 208 #[(.pointer (some ⟨b0, o0, none⟩)), (.agg #[(iV E7), (iV BZ), (iV xV)]), (iV 0)] lW (fun Jk AH =>
 (Jk = (.tuple #[])) ∧
 ∃ Hh : Nat, (Hh < fC) ∧
 I19 Hh [(iV (IntKind.wrap .i64 (nX + 1)))] AH) Kp)
 (∃ jX : Nat, (jX < fC) ∧
 I19 jX [(iV (IntKind.wrap .i64 (nX + 1)))] mI))
 (K (.tuple #[]) iz)))) Kp) :
 aa Tryz.prog 167 ([.pointer (some ⟨b0, o0, none⟩), .int .i64 x1, .pointer (some ⟨b2, o2, none⟩), .agg #[.int .i64 fD, .int .i64 fE, .int .i64 fF, .int .i64 fG]] : List Value).toArray M K Kp :=
 az (C := Cx) good [(1, .bT [0, 1, 3, 7, 0, 16, 63, 127, 255, 511, 1023, 1023, 1023, 2047, 12287, 32767] (.step 0 (.step 1 (.step 2 (.step 4 (.step 3 (.step 5 (.step 6 (.step 7 (.step 8 (.step 9 (.step 10 (.step 11 (.step 12 (.step 13 (.step 14 (.step 15 .done))))))))))))))))), (2000001, .loop [(37, .c (.int .i64))]), (9, .bT [0, 1, 3, 7, 0, 16, 63, 127, 255, 511, 1023, 2047] (.step 0 (.step 1 (.step 2 (.step 4 (.step 3 (.step 5 (.step 6 (.step 7 (.step 8 (.step 9 (.step 10 (.step 11 .done)))))))))))))] Tryz.func167 (by kernel_rfl) (by kernel_rfl) h
theorem pZ {b0 o0 : Nat} {x1 : Int} {b2 o2 : Nat} {fD : Int} {fE : Int} {fF : Int} {fG : Int} (h :
be M (.cells #[(iV fD), (iV fE), (iV fF), (iV fG)] 34 (0, 0)) fun k1 M2 =>
rI M2 k1 1 fun n3 =>
((0 : Int) ≤ n3) ∧
((n3 : Int) < 8) ∧
rI M2 b2 ((o2 + 2) + (Int.toNat n3)) fun n4 =>
aV (decide (((if (1048576 : Int) < n4 then 1048576 else n4) : Int) > 0))
 (aK (Mem.ld M2 ⟨b0, (o0 + 5), none⟩) .u64 fun n5 =>
 aa Tryz.prog 214 #[(.pointer (some ⟨b0, (o0 + 8), none⟩)), (.int .u64 (IntKind.wrap .u64 (n5 + (IntKind.wrap .u64 (if (1048576 : Int) < n4 then 1048576 else n4))))), (iV x1)] M2 (fun v6 M7 =>
 aK (some v6) .u64 fun n8 =>
 rS M7 b0 (o0 + 4) fun A9 dP eL =>
 ((0 : Int) ≤ x1) ∧
 ((x1 : Int) < ((dP : Nat) : Int)) ∧
 aG A9 fun fU dm =>
 bO (Mem.ld M7 ⟨fU, (dm + (Int.toNat x1)), none⟩) fun oF =>
 aG oF fun gj dO =>
 sT M7 gj dO (iV 3) fun j8 =>
 K (.tuple #[]) j8) Kp)
 (K (.tuple #[]) M2)) :
 aa Tryz.prog 168 ([.pointer (some ⟨b0, o0, none⟩), .int .i64 x1, .pointer (some ⟨b2, o2, none⟩), .agg #[.int .i64 fD, .int .i64 fE, .int .i64 fF, .int .i64 fG]] : List Value).toArray M K Kp :=
 az (C := Cx) good [(1, .bT [0, 0, 2, 1, 9, 31, 63, 127, 255] (.step 0 (.step 1 (.step 3 (.step 4 (.step 2 (.step 5 (.step 6 (.step 7 (.step 8 .done)))))))))), (3, .bT [0, 1, 3, 0, 8, 24, 56, 0, 128, 504, 0, 2047] (.step 0 (.step 1 (.step 2 (.step 3 (.step 4 (.step 5 (.step 7 (.step 8 (.step 10 (.step 6 (.step 9 (.step 11 .done)))))))))))))] Tryz.func168 (by kernel_rfl) (by kernel_rfl) h
theorem rK {b0 o0 : Nat} {x1 : Int} {b2 o2 : Nat} {fD : Int} {fE : Int} {fF : Int} {fG : Int} (h :
be M (.cells #[(iV fD), (iV fE), (iV fF), (iV fG)] 34 (0, 0)) fun k1 M2 =>
rS M2 b0 (o0 + 7) fun A3 k4 k5 =>
rI M2 k1 1 fun n6 =>
((0 : Int) ≤ n6) ∧
((n6 : Int) < ((k4 : Nat) : Int)) ∧
aG A3 fun k7 k8 =>
bO (Mem.ld M2 ⟨k7, (k8 + (Int.toNat n6)), none⟩) fun A9 =>
aa Tryz.prog 215 #[(.pointer A9), (iV x1)] M2 (fun v10 hH =>
cJ (some v10) fun t12 =>
aV (!t12)
 (rI hH k1 0 fun jg =>
 rI hH k1 1 fun jc =>
 rI hH k1 2 fun jY =>
 rI hH k1 3 fun mB =>
 aa Tryz.prog 158 #[(.pointer (some ⟨b0, o0, none⟩)), (iV x1), (.agg #[(iV jg), (iV jc), (iV jY), (iV mB)])] hH (fun Uj mZ =>
 (Uj = (.tuple #[])) ∧
 K (.tuple #[]) mZ) Kp)
 (K (.tuple #[]) hH)) Kp) :
 aa Tryz.prog 169 ([.pointer (some ⟨b0, o0, none⟩), .int .i64 x1, .pointer (some ⟨b2, o2, none⟩), .agg #[.int .i64 fD, .int .i64 fE, .int .i64 fF, .int .i64 fG]] : List Value).toArray M K Kp :=
 az (C := Cx) good [(1, .bT [0, 1, 3, 7, 0, 16, 63, 127, 0, 511, 1023] (.step 0 (.step 1 (.step 2 (.step 4 (.step 8 (.step 3 (.step 5 (.step 6 (.step 7 (.step 9 (.step 10 .done))))))))))))] Tryz.func169 (by kernel_rfl) (by kernel_rfl) h
theorem oT {b0 o0 : Nat} {x1 : Int} {b2 o2 : Nat} {fD : Int} {fE : Int} {fF : Int} {fG : Int} (h :
be M (.cells #[(iV fD), (iV fE), (iV fF), (iV fG)] 34 (0, 0)) fun k1 M2 =>
rS M2 b0 (o0 + 7) fun A3 k4 k5 =>
rI M2 k1 1 fun n6 =>
((0 : Int) ≤ n6) ∧
((n6 : Int) < ((k4 : Nat) : Int)) ∧
aG A3 fun k7 k8 =>
bO (Mem.ld M2 ⟨k7, (k8 + (Int.toNat n6)), none⟩) fun A9 =>
aa Tryz.prog 216 #[(.pointer A9), (iV x1)] M2 (fun v10 hH =>
∃ jf : Int, ∃ jg : Int, (v10 = (.tuple #[(iV jf), (iV jg)])) ∧
aV (jg != 0)
 (Kp [{ v := (.iface 256 (iV (-3))), recovered := false }] hH)
 (aV (jf != (-1))
 (aa Tryz.prog 90 #[(.pointer (some ⟨b0, o0, none⟩)), (iV jf)] hH (fun v14 oE =>
 (v14 = (.tuple #[])) ∧
 K (.tuple #[]) oE) Kp)
 (K (.tuple #[]) hH))) Kp) :
 aa Tryz.prog 170 ([.pointer (some ⟨b0, o0, none⟩), .int .i64 x1, .pointer (some ⟨b2, o2, none⟩), .agg #[.int .i64 fD, .int .i64 fE, .int .i64 fF, .int .i64 fG]] : List Value).toArray M K Kp :=
 az (C := Cx) good [(1, .bT [0, 1, 3, 7, 0, 16, 63, 127, 0, 511, 1023, 2047, 2047, 4095, 16383] (.step 0 (.step 1 (.step 2 (.step 4 (.step 8 (.step 3 (.step 5 (.step 6 (.step 7 (.step 9 (.step 10 (.step 11 (.step 12 (.step 13 (.step 14 .done))))))))))))))))] Tryz.func170 (by kernel_rfl) (by kernel_rfl) h
theorem rL {b0 o0 : Nat} {x1 : Int} {b2 o2 : Nat} {fD : Int} {fE : Int} {fF : Int} {fG : Int} (h :
be M (.cells #[(iV fD), (iV fE), (iV fF), (iV fG)] 34 (0, 0)) fun k1 M2 =>
rS M2 b0 (o0 + 10) fun A3 k4 k5 =>
aV (decide ((((k4 : Nat) : Int) : Int) ≥ 1000))
 (Kp [{ v := (.iface 256 (iV (-6))), recovered := false }] M2)
 (rS M2 b0 (o0 + 10) fun A6 k7 k8 =>
 rI M2 k1 1 fun n9 =>
 ((0 : Int) ≤ n9) ∧
 ((n9 : Int) < 8) ∧
 rI M2 b2 ((o2 + 2) + (Int.toNat n9)) fun j9 =>
 be M2 (.cells #[(iV j9)] 2 (0, 0)) fun eL ja =>
 aS Tryz.prog (Go.Builtin.append_ #[59, 59] 59 #[(.slice A6 k7 k8), (.slice (some ⟨eL, 0, none⟩) 1 1)]) ja (fun QU iC =>
 aD (some QU) fun qO dO eT =>
 sT iC b0 (o0 + 10) (.slice qO dO eT) fun mZ =>
 K (.tuple #[]) mZ) Kp)) :
 aa Tryz.prog 171 ([.pointer (some ⟨b0, o0, none⟩), .int .i64 x1, .pointer (some ⟨b2, o2, none⟩), .agg #[.int .i64 fD, .int .i64 fE, .int .i64 fF, .int .i64 fG]] : List Value).toArray M K Kp :=
 az (C := Cx) good [(3, .bT [0, 0, 2, 6, 14, 0, 0, 64, 32, 288, 992, 2016, 4064, 8190, 16383, 32767, 65535] (.step 0 (.step 1 (.step 2 (.step 3 (.step 5 (.step 6 (.step 8 (.step 9 (.step 4 (.step 7 (.step 10 (.step 11 (.step 12 (.step 13 (.step 14 (.step 15 (.step 16 .done))))))))))))))))))] Tryz.func171 (by kernel_rfl) (by kernel_rfl) h
theorem rM {b0 o0 : Nat} {x1 : Int} {b2 o2 : Nat} {fD : Int} {fE : Int} {fF : Int} {fG : Int} (h :
be M (.cells #[(iV fD), (iV fE), (iV fF), (iV fG)] 34 (0, 0)) fun k1 M2 =>
rI M2 k1 1 fun n3 =>
Kp [{ v := (.iface 256 (iV n3)), recovered := false }] M2) :
 aa Tryz.prog 172 ([.pointer (some ⟨b0, o0, none⟩), .int .i64 x1, .pointer (some ⟨b2, o2, none⟩), .agg #[.int .i64 fD, .int .i64 fE, .int .i64 fF, .int .i64 fG]] : List Value).toArray M K Kp :=
 az (C := Cx) good [] Tryz.func172 (by kernel_rfl) (by kernel_rfl) h
theorem uH {b0 o0 : Nat} {x1 : Int} {x2 : Int} (h :
aD (Mem.ld M ⟨b0, o0, none⟩) fun A1 k2 k3 =>
aD (Mem.ld M ⟨b0, o0, none⟩) fun A4 k5 k6 =>
aD (Mem.ld M ⟨b0, o0, none⟩) fun A7 k8 k9 =>
((0 : Int) ≤ x2) ∧
((x2 : Int) < ((k8 : Nat) : Int)) ∧
aG A7 fun dP eL =>
aK (Mem.ld M ⟨dP, (eL + ((Int.toNat x2) * 3)), none⟩) .u64 fun jf =>
aK (Mem.ld M ⟨dP, ((eL + ((Int.toNat x2) * 3)) + 1), none⟩) .u64 fun jg =>
aK (Mem.ld M ⟨dP, ((eL + ((Int.toNat x2) * 3)) + 2), none⟩) .i64 fun jc =>
aD (Mem.ld M ⟨b0, o0, none⟩) fun qO dO eT =>
((0 : Int) ≤ x1) ∧
((x1 : Int) < ((dO : Nat) : Int)) ∧
aG qO fun en jd =>
aK (Mem.ld M ⟨en, (jd + ((Int.toNat x1) * 3)), none⟩) .u64 fun fI =>
aK (Mem.ld M ⟨en, ((jd + ((Int.toNat x1) * 3)) + 1), none⟩) .u64 fun nT =>
aK (Mem.ld M ⟨en, ((jd + ((Int.toNat x1) * 3)) + 2), none⟩) .i64 fun sC =>
((0 : Int) ≤ x1) ∧
((x1 : Int) < ((k2 : Nat) : Int)) ∧
aG A1 fun iY ri =>
aO M ⟨iY, (ri + ((Int.toNat x1) * 3)), none⟩ (.int .u64 jf) fun B7 =>
aO B7 ⟨iY, ((ri + ((Int.toNat x1) * 3)) + 1), none⟩ (.int .u64 jg) fun xl =>
aO xl ⟨iY, ((ri + ((Int.toNat x1) * 3)) + 2), none⟩ (.int .i64 jc) fun sD =>
((0 : Int) ≤ x2) ∧
((x2 : Int) < ((k5 : Nat) : Int)) ∧
aG A4 fun lK kB =>
aO sD ⟨lK, (kB + ((Int.toNat x2) * 3)), none⟩ (.int .u64 fI) fun oM =>
aO oM ⟨lK, ((kB + ((Int.toNat x2) * 3)) + 1), none⟩ (.int .u64 nT) fun Cc =>
aO Cc ⟨lK, ((kB + ((Int.toNat x2) * 3)) + 2), none⟩ (.int .i64 sC) fun mX =>
K (.tuple #[]) mX) :
 aa Tryz.prog 136 ([.pointer (some ⟨b0, o0, none⟩), .int .i64 x1, .int .i64 x2] : List Value).toArray M K Kp :=
 az (C := Cx) good [(0, .bT [0, 1, 3, 7, 0, 0, 32, 96, 224, 0, 0, 1024, 3072, 7168, 0, 31744, 64512, 0, 131072, 393216, 917504, 0, 4063232, 8257536, 16776703, 33553919, 67108863, 134217727] (.step 0 (.step 1 (.step 2 (.step 4 (.step 5 (.step 6 (.step 7 (.step 9 (.step 10 (.step 11 (.step 12 (.step 14 (.step 17 (.step 18 (.step 19 (.step 21 (.step 3 (.step 8 (.step 13 (.step 15 (.step 16 (.step 20 (.step 22 (.step 23 (.step 24 (.step 25 (.step 26 (.step 27 .done)))))))))))))))))))))))))))))] Tryz.func136 (by kernel_rfl) (by kernel_rfl) h
theorem uI {b0 o0 : Nat} {x1 : Int} (h :
aa Tryz.prog 185 #[(.pointer (some ⟨b0, o0, none⟩)), (iV x1)] M (fun v1 M2 =>
aK (some v1) .i64 fun n3 =>
∃ I4 : Nat → List Value → Mem → Prop, (∃ k5 : Nat, I4 k5 [(iV x1), (iV n3)] M2) ∧
∀ k6 : Nat, ∀ S1 : Nat → Value, ∀ n8 : Int, ∀ n9 : Int, ∀ gV : Mem, (I4 k6 [(iV n8), (iV n9)] gV) → aV (n9 != n8)
 (aa Tryz.prog 136 #[(.pointer (some ⟨b0, o0, none⟩)), (iV n8), (iV n9)] gV (fun v11 ja =>
 (v11 = (.tuple #[])) ∧
 aa Tryz.prog 185 #[(.pointer (some ⟨b0, o0, none⟩)), (iV n9)] ja (fun QU iC =>
 aK (some QU) .i64 fun jY =>
 ∃ dO : Nat, (dO < k6) ∧
 I4 dO [(iV n9), (iV jY)] iC) Kp) Kp)
 (K (.tuple #[]) gV)) Kp) :
 aa Tryz.prog 137 ([.pointer (some ⟨b0, o0, none⟩), .int .i64 x1] : List Value).toArray M K Kp :=
 az (C := Cx) good [(2000000, .loop [(1, .c (.int .i64)), (4, .c (.int .i64))])] Tryz.func137 (by kernel_rfl) (by kernel_rfl) h
theorem xW {b0 o0 : Nat} {x1 : Int} (h :
∃ I1 : Nat → List Value → Mem → Prop, (∃ k2 : Nat, I1 k2 [(.int .i64 x1)] M) ∧
∀ k3 : Nat, ∀ uA : Nat → Value, ∀ n5 : Int, ∀ M6 : Mem, (I1 k3 [(.int .i64 n5)] M6) → aV (decide ((n5 : Int) > 0))
 (((4 : Int) ≠ 0) ∧
 aD (Mem.ld M6 ⟨b0, o0, none⟩) fun A7 k8 k9 =>
 ((0 : Int) ≤ n5) ∧
 ((n5 : Int) < ((k8 : Nat) : Int)) ∧
 aG A7 fun dP eL =>
 aK (Mem.ld M6 ⟨dP, (eL + ((Int.toNat n5) * 3)), none⟩) .u64 fun jf =>
 aK (Mem.ld M6 ⟨dP, ((eL + ((Int.toNat n5) * 3)) + 1), none⟩) .u64 fun jg =>
 aK (Mem.ld M6 ⟨dP, ((eL + ((Int.toNat n5) * 3)) + 2), none⟩) .i64 fun jc =>
 aD (Mem.ld M6 ⟨b0, o0, none⟩) fun qO dO eT =>
 ((0 : Int) ≤ (IntKind.wrap .i64 (Int.tdiv (IntKind.wrap .i64 (n5 - 1)) 4))) ∧
 (((IntKind.wrap .i64 (Int.tdiv (IntKind.wrap .i64 (n5 - 1)) 4)) : Int) < ((dO : Nat) : Int)) ∧
 aG qO fun en jd =>
 aK (Mem.ld M6 ⟨en, (jd + ((Int.toNat (IntKind.wrap .i64 (Int.tdiv (IntKind.wrap .i64 (n5 - 1)) 4))) * 3)), none⟩) .u64 fun fI =>
 aK (Mem.ld M6 ⟨en, ((jd + ((Int.toNat (IntKind.wrap .i64 (Int.tdiv (IntKind.wrap .i64 (n5 - 1)) 4))) * 3)) + 1), none⟩) .u64 fun nT =>
 aK (Mem.ld M6 ⟨en, ((jd + ((Int.toNat (IntKind.wrap .i64 (Int.tdiv (IntKind.wrap .i64 (n5 - 1)) 4))) * 3)) + 2), none⟩) .i64 fun sC =>
 aa Tryz.prog 186 #[(.agg #[(.int .u64 jf), (.int .u64 jg), (.int .i64 jc)]), (.agg #[(.int .u64 fI), (.int .u64 nT), (.int .i64 sC)])] M6 (fun Ub iz =>
 cJ (some Ub) fun t25 =>
 aV t25
  (((4 : Int) ≠ 0) ∧
  aa Tryz.prog 136 #[(.pointer (some ⟨b0, o0, none⟩)), (.int .i64 n5), (.int .i64 (IntKind.wrap .i64 (Int.tdiv (IntKind.wrap .i64 (n5 - 1)) 4)))] iz (fun YL sD =>
  (YL = (.tuple #[])) ∧
  ((4 : Int) ≠ 0) ∧
  ∃ lK : Nat, (lK < k3) ∧
  I1 lK [(.int .i64 (IntKind.wrap .i64 (Int.tdiv (IntKind.wrap .i64 (n5 - 1)) 4)))] sD) Kp)
  (K (.tuple #[]) iz)) Kp)
 (K (.tuple #[]) M6)) :
 aa Tryz.prog 138 ([.pointer (some ⟨b0, o0, none⟩), .int .i64 x1] : List Value).toArray M K Kp :=
 az (C := Cx) good [(2000000, .loop [(1, .c (.int .i64))]), (0, .bT [0, 1, 3, 7, 15, 31, 63, 7, 255, 511, 7, 1031, 3079, 7175, 7, 16391, 49159, 130055, 261127, 524287, 1048575] (.step 0 (.step 1 (.step 2 (.step 3 (.step 4 (.step 5 (.step 7 (.step 10 (.step 11 (.step 12 (.step 14 (.step 15 (.step 16 (.step 6 (.step 8 (.step 9 (.step 13 (.step 17 (.step 18 (.step 19 (.step 20 .done))))))))))))))))))))))] Tryz.func138 (by kernel_rfl) (by kernel_rfl) h
theorem th {b0 o0 : Nat} {dh : Int} {di : Int} {dk : Int} {eX : Int} (h :
be M (.cells #[(iV dh), (iV di), (iV dk), (iV eX)] 34 (0, 0)) fun k1 M2 =>
K (.tuple #[]) M2) :
 aa Tryz.prog 195 ([.pointer (some ⟨b0, o0, none⟩), .agg #[.int .i64 dh, .int .i64 di, .int .i64 dk, .int .i64 eX]] : List Value).toArray M K Kp :=
 az (C := Cx) good [] Tryz.func195 (by kernel_rfl) (by kernel_rfl) h
theorem m5 {b0 o0 : Nat} {dh : Int} {di : Int} {dk : Int} {eX : Int} (h :
be M (.cells #[(iV dh), (iV di), (iV dk), (iV eX)] 34 (0, 0)) fun k1 M2 =>
rI M2 k1 1 fun n3 =>
rI M2 k1 2 fun n4 =>
((0 : Int) ≤ n3) ∧
((n3 : Int) < 8) ∧
sT M2 b0 ((o0 + 2) + (Int.toNat n3)) (iV n4) fun M5 =>
K (.tuple #[]) M5) :
 aa Tryz.prog 196 ([.pointer (some ⟨b0, o0, none⟩), .agg #[.int .i64 dh, .int .i64 di, .int .i64 dk, .int .i64 eX]] : List Value).toArray M K Kp :=
 az (C := Cx) good [(1, .bT [0, 0, 2, 0, 8, 1, 33, 127, 255] (.step 0 (.step 1 (.step 3 (.step 5 (.step 6 (.step 2 (.step 4 (.step 7 (.step 8 .done))))))))))] Tryz.func196 (by kernel_rfl) (by kernel_rfl) h
theorem rN {b0 o0 : Nat} {dh : Int} {di : Int} {dk : Int} {eX : Int} (h :
be M (.cells #[(iV dh), (iV di), (iV dk), (iV eX)] 34 (0, 0)) fun k1 M2 =>
rI M2 k1 1 fun n3 =>
rI M2 k1 2 fun n4 =>
((0 : Int) ≤ n4) ∧
((n4 : Int) < 8) ∧
rI M2 b0 ((o0 + 2) + (Int.toNat n4)) fun n5 =>
((0 : Int) ≤ n3) ∧
((n3 : Int) < 8) ∧
sT M2 b0 ((o0 + 2) + (Int.toNat n3)) (iV n5) fun M6 =>
K (.tuple #[]) M6) :
 aa Tryz.prog 197 ([.pointer (some ⟨b0, o0, none⟩), .agg #[.int .i64 dh, .int .i64 di, .int .i64 dk, .int .i64 eX]] : List Value).toArray M K Kp :=
 az (C := Cx) good [(1, .bT [0, 0, 2, 0, 0, 16, 8, 72, 248, 504, 1, 1025, 4095, 8191] (.step 0 (.step 1 (.step 3 (.step 4 (.step 6 (.step 7 (.step 10 (.step 11 (.step 2 (.step 5 (.step 8 (.step 9 (.step 12 (.step 13 .done)))))))))))))))] Tryz.func197 (by kernel_rfl) (by kernel_rfl) h
theorem tj {b0 o0 : Nat} {dh : Int} {di : Int} {dk : Int} {eX : Int} (h :
be M (.cells #[(iV dh), (iV di), (iV dk), (iV eX)] 34 (0, 0)) fun k1 M2 =>
rI M2 k1 1 fun n3 =>
rI M2 k1 2 fun n4 =>
((0 : Int) ≤ n4) ∧
((n4 : Int) < 8) ∧
rI M2 b0 ((o0 + 2) + (Int.toNat n4)) fun n5 =>
rI M2 k1 3 fun n6 =>
((0 : Int) ≤ n6) ∧
((n6 : Int) < 8) ∧
rI M2 b0 ((o0 + 2) + (Int.toNat n6)) fun n7 =>
((0 : Int) ≤ n3) ∧
((n3 : Int) < 8) ∧
sT M2 b0 ((o0 + 2) + (Int.toNat n3)) (iV (IntKind.wrap .i64 (n5 + n7))) fun M8 =>
K (.tuple #[]) M8) :
 aa Tryz.prog 198 ([.pointer (some ⟨b0, o0, none⟩), .agg #[.int .i64 dh, .int .i64 di, .int .i64 dk, .int .i64 eX]] : List Value).toArray M K Kp :=
 az (C := Cx) good [(1, .bT [0, 0, 2, 0, 0, 16, 8, 72, 248, 504, 0, 0, 2048, 1024, 9216, 31744, 64512, 131064, 1, 262145, 1048575, 2097151] (.step 0 (.step 1 (.step 3 (.step 4 (.step 6 (.step 7 (.step 10 (.step 11 (.step 13 (.step 14 (.step 18 (.step 19 (.step 2 (.step 5 (.step 8 (.step 9 (.step 12 (.step 15 (.step 16 (.step 17 (.step 20 (.step 21 .done)))))))))))))))))))))))] Tryz.func198 (by kernel_rfl) (by kernel_rfl) h
theorem tq {b0 o0 : Nat} {dh : Int} {di : Int} {dk : Int} {eX : Int} (h :
be M (.cells #[(iV dh), (iV di), (iV dk), (iV eX)] 34 (0, 0)) fun k1 M2 =>
rI M2 k1 1 fun n3 =>
rI M2 k1 2 fun n4 =>
((0 : Int) ≤ n4) ∧
((n4 : Int) < 8) ∧
rI M2 b0 ((o0 + 2) + (Int.toNat n4)) fun n5 =>
rI M2 k1 3 fun n6 =>
((0 : Int) ≤ n6) ∧
((n6 : Int) < 8) ∧
rI M2 b0 ((o0 + 2) + (Int.toNat n6)) fun n7 =>
((0 : Int) ≤ n3) ∧
((n3 : Int) < 8) ∧
sT M2 b0 ((o0 + 2) + (Int.toNat n3)) (iV (IntKind.wrap .i64 (n5 - n7))) fun M8 =>
K (.tuple #[]) M8) :
 aa Tryz.prog 199 ([.pointer (some ⟨b0, o0, none⟩), .agg #[.int .i64 dh, .int .i64 di, .int .i64 dk, .int .i64 eX]] : List Value).toArray M K Kp :=
 az (C := Cx) good [(1, .bT [0, 0, 2, 0, 0, 16, 8, 72, 248, 504, 0, 0, 2048, 1024, 9216, 31744, 64512, 131064, 1, 262145, 1048575, 2097151] (.step 0 (.step 1 (.step 3 (.step 4 (.step 6 (.step 7 (.step 10 (.step 11 (.step 13 (.step 14 (.step 18 (.step 19 (.step 2 (.step 5 (.step 8 (.step 9 (.step 12 (.step 15 (.step 16 (.step 17 (.step 20 (.step 21 .done)))))))))))))))))))))))] Tryz.func199 (by kernel_rfl) (by kernel_rfl) h
theorem tr {b0 o0 : Nat} {dh : Int} {di : Int} {dk : Int} {eX : Int} (h :
be M (.cells #[(iV dh), (iV di), (iV dk), (iV eX)] 34 (0, 0)) fun k1 M2 =>
rI M2 k1 1 fun n3 =>
rI M2 k1 2 fun n4 =>
((0 : Int) ≤ n4) ∧
((n4 : Int) < 8) ∧
rI M2 b0 ((o0 + 2) + (Int.toNat n4)) fun n5 =>
rI M2 k1 3 fun n6 =>
((0 : Int) ≤ n6) ∧
((n6 : Int) < 8) ∧
rI M2 b0 ((o0 + 2) + (Int.toNat n6)) fun n7 =>
((0 : Int) ≤ n3) ∧
((n3 : Int) < 8) ∧
sT M2 b0 ((o0 + 2) + (Int.toNat n3)) (iV (IntKind.wrap .i64 (n5 * n7))) fun M8 =>
K (.tuple #[]) M8) :
 aa Tryz.prog 200 ([.pointer (some ⟨b0, o0, none⟩), .agg #[.int .i64 dh, .int .i64 di, .int .i64 dk, .int .i64 eX]] : List Value).toArray M K Kp :=
 az (C := Cx) good [(1, .bT [0, 0, 2, 0, 0, 16, 8, 72, 248, 504, 0, 0, 2048, 1024, 9216, 31744, 64512, 131064, 1, 262145, 1048575, 2097151] (.step 0 (.step 1 (.step 3 (.step 4 (.step 6 (.step 7 (.step 10 (.step 11 (.step 13 (.step 14 (.step 18 (.step 19 (.step 2 (.step 5 (.step 8 (.step 9 (.step 12 (.step 15 (.step 16 (.step 17 (.step 20 (.step 21 .done)))))))))))))))))))))))] Tryz.func200 (by kernel_rfl) (by kernel_rfl) h
theorem rO {b0 o0 : Nat} {dh : Int} {di : Int} {dk : Int} {eX : Int} (h :
be M (.cells #[(iV dh), (iV di), (iV dk), (iV eX)] 34 (0, 0)) fun k1 M2 =>
rI M2 k1 2 fun n3 =>
((0 : Int) ≤ n3) ∧
((n3 : Int) < 8) ∧
rI M2 b0 ((o0 + 2) + (Int.toNat n3)) fun n4 =>
rI M2 k1 3 fun n5 =>
((0 : Int) ≤ n5) ∧
((n5 : Int) < 8) ∧
rI M2 b0 ((o0 + 2) + (Int.toNat n5)) fun n6 =>
rI M2 k1 1 fun n7 =>
((0 : Int) ≤ n7) ∧
((n7 : Int) < 8) ∧
sT M2 b0 ((o0 + 2) + (Int.toNat n7)) (iV 0) fun M8 =>
aV (decide ((n4 : Int) < n6))
 (rI M8 k1 1 fun n9 =>
 ((0 : Int) ≤ n9) ∧
 ((n9 : Int) < 8) ∧
 sT M8 b0 ((o0 + 2) + (Int.toNat n9)) (iV 1) fun gV =>
 K (.tuple #[]) gV)
 (K (.tuple #[]) M8)) :
 aa Tryz.prog 201 ([.pointer (some ⟨b0, o0, none⟩), .agg #[.int .i64 dh, .int .i64 di, .int .i64 dk, .int .i64 eX]] : List Value).toArray M K Kp :=
 az (C := Cx) good [(1, .bT [0, 0, 2, 1, 9, 31, 63, 0, 0, 256, 128, 1152, 3968, 8064, 16383, 32767] (.step 0 (.step 1 (.step 3 (.step 4 (.step 7 (.step 8 (.step 10 (.step 11 (.step 2 (.step 5 (.step 6 (.step 9 (.step 12 (.step 13 (.step 14 (.step 15 .done))))))))))))))))), (2, .bT [0, 0, 2, 1, 9, 31, 63] (.step 0 (.step 1 (.step 3 (.step 4 (.step 2 (.step 5 (.step 6 .done)))))))), (4, .bT [0, 0, 2, 1, 9, 31, 63] (.step 0 (.step 1 (.step 3 (.step 4 (.step 2 (.step 5 (.step 6 .done))))))))] Tryz.func201 (by kernel_rfl) (by kernel_rfl) h
theorem rP {b0 o0 : Nat} {dh : Int} {di : Int} {dk : Int} {eX : Int} (h :
be M (.cells #[(iV dh), (iV di), (iV dk), (iV eX)] 34 (0, 0)) fun k1 M2 =>
rI M2 k1 1 fun n3 =>
sT M2 b0 (o0 + 1) (iV n3) fun M4 =>
K (.tuple #[]) M4) :
 aa Tryz.prog 202 ([.pointer (some ⟨b0, o0, none⟩), .agg #[.int .i64 dh, .int .i64 di, .int .i64 dk, .int .i64 eX]] : List Value).toArray M K Kp :=
 az (C := Cx) good [] Tryz.func202 (by kernel_rfl) (by kernel_rfl) h
theorem oU {b0 o0 : Nat} {dh : Int} {di : Int} {dk : Int} {eX : Int} (h :
be M (.cells #[(iV dh), (iV di), (iV dk), (iV eX)] 34 (0, 0)) fun k1 M2 =>
rI M2 k1 1 fun n3 =>
((0 : Int) ≤ n3) ∧
((n3 : Int) < 8) ∧
rI M2 b0 ((o0 + 2) + (Int.toNat n3)) fun n4 =>
aV (n4 != 0)
 (rI M2 k1 2 fun n5 =>
 sT M2 b0 (o0 + 1) (iV n5) fun M6 =>
 K (.tuple #[]) M6)
 (K (.tuple #[]) M2)) :
 aa Tryz.prog 203 ([.pointer (some ⟨b0, o0, none⟩), .agg #[.int .i64 dh, .int .i64 di, .int .i64 dk, .int .i64 eX]] : List Value).toArray M K Kp :=
 az (C := Cx) good [(1, .bT [0, 0, 2, 1, 9, 31, 63, 127] (.step 0 (.step 1 (.step 3 (.step 4 (.step 2 (.step 5 (.step 6 (.step 7 .done)))))))))] Tryz.func203 (by kernel_rfl) (by kernel_rfl) h
theorem m6 {b0 o0 : Nat} {dh : Int} {di : Int} {dk : Int} {x2 : Int} (h :
be M (.cells #[(iV dh), (iV di), (iV dk)] 298 (0, 0)) fun k1 M2 =>
rS M2 b0 (o0 + 4) fun A3 k4 k5 =>
rI M2 k1 0 fun n6 =>
((0 : Int) ≤ n6) ∧
((n6 : Int) < ((k4 : Nat) : Int)) ∧
aG A3 fun k7 k8 =>
bO (Mem.ld M2 ⟨k7, (k8 + (Int.toNat n6)), none⟩) fun A9 =>
aG A9 fun dP eL =>
rS M2 dP (eL + 1) fun sE dm gq =>
rS M2 b0 (o0 + 4) fun qO dO eT =>
rI M2 k1 0 fun kL =>
((0 : Int) ≤ kL) ∧
((kL : Int) < ((dO : Nat) : Int)) ∧
aG qO fun jd iA =>
bO (Mem.ld M2 ⟨jd, (iA + (Int.toNat kL)), none⟩) fun Dg =>
aG Dg fun gJ iY =>
rI M2 gJ (iY + 2) fun xT =>
rI M2 gJ ((iY + 2) + 1) fun mJ =>
rI M2 gJ ((iY + 2) + 2) fun oS =>
rI M2 gJ ((iY + 2) + 3) fun yp =>
(True) ∧
aa Tryz.prog 120 #[(.slice sE dm gq)] M2 (fun NK mA =>
bO (some NK) fun Gg =>
((Mem.fm mA ⟨gJ, (iY + 2), none⟩ 0 4) = some [(iV xT), (iV mJ), (iV oS), (iV yp)]) ∧
((Mem.ld mA ⟨jd, (iA + (Int.toNat kL)), none⟩) = (some (.pointer Dg))) ∧
((Mem.ld mA ⟨k1, 0, none⟩) = (some (iV kL))) ∧
((Mem.ld mA ⟨b0, (o0 + 4), none⟩) = (some (.slice qO dO eT))) ∧
aG Gg fun nW tW =>
be mA (.cells #[(iV 0), (iV 0), (iV 0), (iV 0)] 34 (0, 0)) fun jA mI =>
sT mI jA 0 (iV xT) fun qP =>
sT qP jA 1 (iV mJ) fun pA =>
sT pA jA 2 (iV oS) fun Dl =>
sT Dl jA 3 (iV yp) fun jZ =>
((Mem.fm jZ ⟨gJ, (iY + 2), none⟩ 0 4) = some [(iV xT), (iV mJ), (iV oS), (iV yp)]) ∧
((Mem.ld jZ ⟨jd, (iA + (Int.toNat kL)), none⟩) = (some (.pointer Dg))) ∧
((Mem.ld jZ ⟨k1, 0, none⟩) = (some (iV kL))) ∧
((Mem.ld jZ ⟨b0, (o0 + 4), none⟩) = (some (.slice qO dO eT))) ∧
rI jZ jA 0 fun Ji =>
aV (Ji == 16)
 (rS jZ b0 (o0 + 3) fun A40 NC D9 =>
 rI jZ jA 1 fun Ea =>
 rI jZ k1 1 fun Dk =>
 ((0 : Int) ≤ (IntKind.wrap .i64 (Ea + Dk))) ∧
 (((IntKind.wrap .i64 (Ea + Dk)) : Int) < ((NC : Nat) : Int)) ∧
 aG A40 fun Mi Jj =>
 rI jZ Mi ((Jj + ((Int.toNat (IntKind.wrap .i64 (Ea + Dk))) * 3)) + 2) fun BZ =>
 rI jZ k1 2 fun xV =>
 ((0 : Int) ≤ BZ) ∧
 ((BZ : Int) < 8) ∧
 sT jZ nW ((tW + 2) + (Int.toNat BZ)) (iV xV) fun yn =>
 rI yn k1 0 fun Ca =>
 rI yn k1 1 fun Bg =>
 aa Tryz.prog 223 #[(.pointer (some ⟨b0, o0, none⟩)), (iV Ca), (iV Bg)] yn (fun v52 E9 =>
 (v52 = (.tuple #[])) ∧
 rI E9 k1 0 fun S2 =>
 aa Tryz.prog 90 #[(.pointer (some ⟨b0, o0, none⟩)), (iV S2)] E9 (fun YI G0 =>
 (YI = (.tuple #[])) ∧
 K (.tuple #[]) G0) Kp) Kp)
 (rI jZ jA 2 fun Uk =>
 rI jZ k1 2 fun EY =>
 ((0 : Int) ≤ Uk) ∧
 ((Uk : Int) < 8) ∧
 rI jZ jA 3 fun Dd =>
 sT jZ nW ((tW + 2) + (Int.toNat Uk)) (iV EY) fun pQ =>
 ((Mem.ld pQ ⟨jA, 3, none⟩) = (some (iV Dd))) ∧
 ((0 : Int) ≤ Dd) ∧
 ((Dd : Int) < 8) ∧
 sT pQ nW ((tW + 2) + (Int.toNat Dd)) (iV x2) fun ym =>
 ((Mem.ld ym ⟨jA, 3, none⟩) = (some (iV Dd))) ∧
 rI ym k1 0 fun Mo =>
 aa Tryz.prog 90 #[(.pointer (some ⟨b0, o0, none⟩)), (iV Mo)] ym (fun v63 Ed =>
 (v63 = (.tuple #[])) ∧
 K (.tuple #[]) Ed) Kp)) Kp) :
 aa Tryz.prog 208 ([.pointer (some ⟨b0, o0, none⟩), .agg #[.int .i64 dh, .int .i64 di, .int .i64 dk], .int .i64 x2] : List Value).toArray M K Kp :=
 az (C := Cx) good [(1, .bT [0, 1, 3, 7, 0, 16, 63, 127, 255, 511, 1023, 0, 2048, 6144, 14336, 0, 32768, 129024, 260096, 522240, 1046528, 2095104, 4192256, 8386560, 16775168, 0, 41943039, 134217727] (.step 0 (.step 1 (.step 2 (.step 4 (.step 11 (.step 12 (.step 13 (.step 15 (.step 14 (.step 16 (.step 17 (.step 18 (.step 19 (.step 20 (.step 21 (.dJ 3 (.dJ 5 (.step 6 (.dJ 7 (.step 8 (.step 9 (.dJ 10 (.late 22 (.step 23 (.step 24 (.step 25 (.step 26 (.step 27 .done))))))))))))))))))))))))))))), (3, .bT [0, 0, 2, 6, 14, 30, 0, 64, 0, 256, 960, 2046, 4094, 8190, 0, 16384, 1, 131071, 262143] (.step 0 (.step 1 (.step 2 (.step 3 (.step 4 (.step 6 (.step 8 (.step 14 (.step 16 (.step 5 (.step 7 (.step 9 (.step 10 (.step 11 (.step 12 (.step 13 (.step 15 (.step 17 (.step 18 .done)))))))))))))))))))), (5, .bT [0, 0, 2, 0, 0, 16, 0, 64, 0, 1, 711, 1735, 8, 8191, 16383] (.step 0 (.step 1 (.step 3 (.step 4 (.step 6 (.step 8 (.step 9 (.step 12 (.step 2 (.step 7 (.step 10 (.dJ 5 (.step 11 (.step 13 (.step 14 .done))))))))))))))))] Tryz.func208 (by kernel_rfl) (by kernel_rfl) h
theorem rQ {b0 o0 : Nat} {dh : Int} {di : Int} {dk : Int} (h :
be M (.cells #[(iV dh), (iV di), (iV dk)] 298 (0, 0)) fun k1 M2 =>
rS M2 b0 (o0 + 4) fun A3 k4 k5 =>
rI M2 k1 0 fun n6 =>
((0 : Int) ≤ n6) ∧
((n6 : Int) < ((k4 : Nat) : Int)) ∧
aG A3 fun k7 k8 =>
bO (Mem.ld M2 ⟨k7, (k8 + (Int.toNat n6)), none⟩) fun A9 =>
aG A9 fun dP eL =>
rI M2 dP (eL + 2) fun jf =>
aV (jf == 16)
 (rI M2 k1 0 fun jg =>
 rI M2 k1 1 fun jc =>
 aa Tryz.prog 223 #[(.pointer (some ⟨b0, o0, none⟩)), (iV jg), (iV jc)] M2 (fun Dh fh =>
 (Dh = (.tuple #[])) ∧
 rI fh k1 0 fun iw =>
 aa Tryz.prog 90 #[(.pointer (some ⟨b0, o0, none⟩)), (iV iw)] fh (fun EW iq =>
 (EW = (.tuple #[])) ∧
 K (.tuple #[]) iq) Kp) Kp)
 (rI M2 k1 0 fun fI =>
 aa Tryz.prog 90 #[(.pointer (some ⟨b0, o0, none⟩)), (iV fI)] M2 (fun YV cZ =>
 (YV = (.tuple #[])) ∧
 K (.tuple #[]) cZ) Kp)) :
 aa Tryz.prog 210 ([.pointer (some ⟨b0, o0, none⟩), .agg #[.int .i64 dh, .int .i64 di, .int .i64 dk]] : List Value).toArray M K Kp :=
 az (C := Cx) good [(1, .bT [0, 1, 3, 7, 0, 16, 63, 127, 255, 511, 1023, 2047, 4095] (.step 0 (.step 1 (.step 2 (.step 4 (.step 3 (.step 5 (.step 6 (.step 7 (.step 8 (.step 9 (.step 10 (.step 11 (.step 12 .done))))))))))))))] Tryz.func210 (by kernel_rfl) (by kernel_rfl) h
theorem rR {B0 : Option Addr} {m0 c0 : Nat} {x1 : Int} {x2 : Int} {x3 : Int} (h :
aV (decide ((((m0 : Nat) : Int) : Int) ≥ 16))
 (K (.tuple #[(.slice B0 m0 c0), (.bool false)]) M)
 (((0 : Int) ≤ ((m0 : Nat) : Int)) ∧
 ((((m0 : Nat) : Int) : Int) ≤ ((c0 : Nat) : Int)) ∧
 ((0 : Int) ≤ ((m0 : Nat) : Int)) ∧
 ((((m0 : Nat) : Int) : Int) ≤ ((m0 : Nat) : Int)) ∧
 ((0 : Int) ≤ 0) ∧
 ((0 : Int) ≤ ((m0 : Nat) : Int)) ∧
 be M (.cells #[(iV x1), (iV 0), (iV x2), (iV 0), (iV 0), (iV 0), (iV 0), (iV 0), (iV 0), (iV 0), (iV x3)] 234 (0, 0)) fun k1 M2 =>
 aS Tryz.prog (Go.Builtin.append_ #[179, 179] 179 #[(.slice (lM B0 0 (Int.toNat ((m0 : Nat) : Int)) 11) ((Int.toNat ((m0 : Nat) : Int)) - 0) ((Int.toNat ((m0 : Nat) : Int)) - 0)), (.slice (some ⟨k1, 0, none⟩) 1 1)]) M2 (fun v3 M4 =>
 aD (some v3) fun A5 k6 k7 =>
 K (.tuple #[(.slice A5 k6 k7), (.bool true)]) M4) Kp)) :
 aa Tryz.prog 211 ([.slice B0 m0 c0, .int .i64 x1, .int .i64 x2, .int .i64 x3] : List Value).toArray M K Kp :=
 az (C := Cx) good [] Tryz.func211 (by kernel_rfl) (by kernel_rfl) h
theorem oV {B0 : Option Addr} {m0 c0 : Nat} {x1 : Int} (h :
aV (decide ((((m0 : Nat) : Int) : Int) < 2))
 (K (.tuple #[(.slice none 0 0), (.bool false)]) M)
 (be M (.cells #[] 234 (0, 0)) fun k1 M2 =>
 ((0 : Int) ≤ ((c0 : Nat) : Int)) ∧
 ((((c0 : Nat) : Int) : Int) ≤ ((c0 : Nat) : Int)) ∧
 ((0 : Int) ≤ (IntKind.wrap .i64 (((m0 : Nat) : Int) - 1))) ∧
 (((IntKind.wrap .i64 (((m0 : Nat) : Int) - 1)) : Int) ≤ ((c0 : Nat) : Int)) ∧
 ((0 : Int) ≤ 0) ∧
 ((0 : Int) ≤ (IntKind.wrap .i64 (((m0 : Nat) : Int) - 1))) ∧
 aS Tryz.prog (Go.Builtin.append_ #[179, 179] 179 #[(.slice (some ⟨k1, 0, none⟩) 0 0), (.slice (lM B0 0 (Int.toNat ((c0 : Nat) : Int)) 11) ((Int.toNat (IntKind.wrap .i64 (((m0 : Nat) : Int) - 1))) - 0) ((Int.toNat ((c0 : Nat) : Int)) - 0))]) M2 (fun v3 M4 =>
 aD (some v3) fun A5 k6 k7 =>
 aa Tryz.prog 120 #[(.slice A5 k6 k7)] M4 (fun v8 M9 =>
 bO (some v8) fun BY =>
 aG BY fun eL fU =>
 aa Tryz.prog 120 #[(.slice B0 m0 c0)] M9 (fun QU iC =>
 bO (some QU) fun qO =>
 aG qO fun dO eT =>
 rI iC dO (eT + 10) fun kL =>
 ((0 : Int) ≤ kL) ∧
 ((kL : Int) < 8) ∧
 sT iC eL ((fU + 2) + (Int.toNat kL)) (iV x1) fun iq =>
 K (.tuple #[(.slice A5 k6 k7), (.bool true)]) iq) Kp) Kp) Kp)) :
 aa Tryz.prog 212 ([.slice B0 m0 c0, .int .i64 x1] : List Value).toArray M K Kp :=
 az (C := Cx) good [(4, .bT [0, 1, 0, 7, 15, 31, 63, 0, 3, 259, 1023, 2047] (.step 0 (.step 2 (.step 7 (.step 1 (.step 8 (.step 9 (.step 3 (.step 4 (.step 5 (.step 6 (.step 10 (.step 11 .done)))))))))))))] Tryz.func212 (by kernel_rfl) (by kernel_rfl) h
theorem uJ {b0 o0 : Nat} {x1 : Int} {x2 : Int} (h :
aD (Mem.ld M ⟨b0, o0, none⟩) fun A1 k2 k3 =>
aK (Mem.ld M ⟨b0, (o0 + 1), none⟩) .u64 fun n4 =>
be M (.cells #[(.int .u64 x1), (.int .u64 n4), (.int .i64 x2)] 205 (0, 0)) fun k5 M6 =>
aS Tryz.prog (Go.Builtin.append_ #[65, 65] 65 #[(.slice A1 k2 k3), (.slice (some ⟨k5, 0, none⟩) 1 1)]) M6 (fun v7 M8 =>
aD (some v7) fun A9 dP eL =>
aO M8 ⟨b0, o0, none⟩ (.slice A9 dP eL) fun ja =>
aK (Mem.ld ja ⟨b0, (o0 + 1), none⟩) .u64 fun jg =>
aO ja ⟨b0, (o0 + 1), none⟩ (.int .u64 (IntKind.wrap .u64 (jg + 1))) fun iC =>
aD (Mem.ld iC ⟨b0, o0, none⟩) fun qO dO eT =>
aa Tryz.prog 138 #[(.pointer (some ⟨b0, o0, none⟩)), (.int .i64 (IntKind.wrap .i64 (((dO : Nat) : Int) - 1)))] iC (fun EW iq =>
(EW = (.tuple #[])) ∧
aK (Mem.ld iq ⟨b0, (o0 + 1), none⟩) .u64 fun fI =>
K (.int .u64 (IntKind.wrap .u64 (fI - 1))) iq) Kp) Kp) :
 aa Tryz.prog 214 ([.pointer (some ⟨b0, o0, none⟩), .int .u64 x1, .int .i64 x2] : List Value).toArray M K Kp :=
 az (C := Cx) good [(1, .bT [0, 0, 2, 6, 14, 0, 0, 64, 192, 448, 0, 2016, 4064, 8190, 16383, 32767, 65535] (.step 0 (.step 1 (.step 2 (.step 3 (.step 5 (.step 6 (.step 7 (.step 8 (.step 10 (.step 4 (.step 9 (.step 11 (.step 12 (.step 13 (.step 14 (.step 15 (.step 16 .done))))))))))))))))))] Tryz.func214 (by kernel_rfl) (by kernel_rfl) h
theorem tu {b0 o0 : Nat} {x1 : Int} (h :
rI M b0 o0 fun n1 =>
aV (n1 != (-1))
 (rS M b0 (o0 + 1) fun A2 k3 k4 =>
 be M (.cells #[(iV x1)] 3 (0, 0)) fun k5 M6 =>
 aS Tryz.prog (Go.Builtin.append_ #[38, 38] 38 #[(.slice A2 k3 k4), (.slice (some ⟨k5, 0, none⟩) 1 1)]) M6 (fun v7 M8 =>
 aD (some v7) fun A9 dP eL =>
 sT M8 b0 (o0 + 1) (.slice A9 dP eL) fun ja =>
 K (.bool false) ja) Kp)
 (sT M b0 o0 (iV x1) fun j7 =>
 K (.bool true) j7)) :
 aa Tryz.prog 215 ([.pointer (some ⟨b0, o0, none⟩), .int .i64 x1] : List Value).toArray M K Kp :=
 az (C := Cx) good [] Tryz.func215 (by kernel_rfl) (by kernel_rfl) h
theorem tv {b0 o0 : Nat} {x1 : Int} (h :
rI M b0 o0 fun n1 =>
aV (n1 == (-1))
 (K (.tuple #[(iV (-1)), (iV 5)]) M)
 (rI M b0 o0 fun n2 =>
 aV (n2 != x1)
 (K (.tuple #[(iV (-1)), (iV 5)]) M)
 (sT M b0 o0 (iV (-1)) fun M3 =>
 rS M3 b0 (o0 + 1) fun A4 k5 k6 =>
 aV (decide ((((k5 : Nat) : Int) : Int) > 0))
 (rS M3 b0 (o0 + 1) fun A7 k8 k9 =>
 ((0 : Int) ≤ 0) ∧
 ((0 : Int) < ((k8 : Nat) : Int)) ∧
 aG A7 fun dP eL =>
 rI M3 dP (eL + 0) fun jf =>
 sT M3 b0 o0 (iV jf) fun j7 =>
 be j7 (.cells #[] 3 (0, 0)) fun gq oE =>
 rS oE b0 (o0 + 1) fun SZ eT en =>
 ((0 : Int) ≤ ((en : Nat) : Int)) ∧
 ((((en : Nat) : Int) : Int) ≤ ((en : Nat) : Int)) ∧
 ((0 : Int) ≤ ((eT : Nat) : Int)) ∧
 ((((eT : Nat) : Int) : Int) ≤ ((en : Nat) : Int)) ∧
 ((0 : Int) ≤ 1) ∧
 ((1 : Int) ≤ ((eT : Nat) : Int)) ∧
 aS Tryz.prog (Go.Builtin.append_ #[38, 38] 38 #[(.slice (some ⟨gq, 0, none⟩) 0 0), (.slice (lM SZ 1 (Int.toNat ((en : Nat) : Int)) 1) ((Int.toNat ((eT : Nat) : Int)) - 1) ((Int.toNat ((en : Nat) : Int)) - 1))]) oE (fun QO nU =>
 aD (some QO) fun Dg gJ iY =>
 sT nU b0 (o0 + 1) (.slice Dg gJ iY) fun iz =>
 rI iz b0 o0 fun mJ =>
 K (.tuple #[(iV mJ), (iV 0)]) iz) Kp)
 (rI M3 b0 o0 fun oS =>
 K (.tuple #[(iV oS), (iV 0)]) M3)))) :
 aa Tryz.prog 216 ([.pointer (some ⟨b0, o0, none⟩), .int .i64 x1] : List Value).toArray M K Kp :=
 az (C := Cx) good [] Tryz.func216 (by kernel_rfl) (by kernel_rfl) h
theorem tw {b0 o0 : Nat} {x1 : Int} (h :
∃ I1 : Nat → List Value → Mem → Prop, (∃ k2 : Nat, I1 k2 [(.int .i64 x1), (.int .i64 (IntKind.wrap .i64 ((IntKind.wrap .i64 (4 * x1)) + 1)))] M) ∧
∀ k3 : Nat, ∀ uA : Nat → Value, ∀ n5 : Int, ∀ n6 : Int, ∀ M7 : Mem, (I1 k3 [(.int .i64 n5), (.int .i64 n6)] M7) → aV (decide ((n6 : Int) ≤ (IntKind.wrap .i64 ((IntKind.wrap .i64 (4 * x1)) + 4))))
 (aD (Mem.ld M7 ⟨b0, o0, none⟩) fun A8 k9 dP =>
 aV (decide ((n6 : Int) < ((k9 : Nat) : Int)))
  (aD (Mem.ld M7 ⟨b0, o0, none⟩) fun Jr fU dm =>
  ((0 : Int) ≤ n6) ∧
  ((n6 : Int) < ((fU : Nat) : Int)) ∧
  aG Jr fun gq gj =>
  aK (Mem.ld M7 ⟨gq, (gj + ((Int.toNat n6) * 3)), none⟩) .u64 fun mB =>
  aK (Mem.ld M7 ⟨gq, ((gj + ((Int.toNat n6) * 3)) + 1), none⟩) .u64 fun iw =>
  aK (Mem.ld M7 ⟨gq, ((gj + ((Int.toNat n6) * 3)) + 2), none⟩) .i64 fun kL =>
  aD (Mem.ld M7 ⟨b0, o0, none⟩) fun AK iA fC =>
  ((0 : Int) ≤ n5) ∧
  ((n5 : Int) < ((iA : Nat) : Int)) ∧
  aG AK fun gJ iY =>
  aK (Mem.ld M7 ⟨gJ, (iY + ((Int.toNat n5) * 3)), none⟩) .u64 fun xT =>
  aK (Mem.ld M7 ⟨gJ, ((iY + ((Int.toNat n5) * 3)) + 1), none⟩) .u64 fun mJ =>
  aK (Mem.ld M7 ⟨gJ, ((iY + ((Int.toNat n5) * 3)) + 2), none⟩) .i64 fun oS =>
  aa Tryz.prog 186 #[(.agg #[(.int .u64 mB), (.int .u64 iw), (.int .i64 kL)]), (.agg #[(.int .u64 xT), (.int .u64 mJ), (.int .i64 oS)])] M7 (fun NJ y7 =>
  cJ (some NJ) fun t29 =>
  aV t29
   (∃ lJ : Nat, (lJ < k3) ∧
   I1 lJ [(.int .i64 n6), (.int .i64 (IntKind.wrap .i64 (n6 + 1)))] y7)
   (∃ nW : Nat, (nW < k3) ∧
   I1 nW [(.int .i64 n5), (.int .i64 (IntKind.wrap .i64 (n6 + 1)))] y7)) Kp)
  (K (.int .i64 n5) M7))
 (K (.int .i64 n5) M7)) :
 aa Tryz.prog 185 ([.pointer (some ⟨b0, o0, none⟩), .int .i64 x1] : List Value).toArray M K Kp :=
 az (C := Cx) good [(2000000, .loop [(5, .c (.int .i64)), (6, .c (.int .i64))]), (5, .bT [0, 1, 3, 7, 0, 31, 63, 0, 128, 384, 896, 0, 3968, 8064, 16383] (.step 0 (.step 1 (.step 2 (.step 4 (.step 7 (.step 8 (.step 9 (.step 11 (.step 3 (.step 5 (.step 6 (.step 10 (.step 12 (.step 13 (.step 14 .done))))))))))))))))] Tryz.func185 (by kernel_rfl) (by kernel_rfl) h
theorem zj {zd : Int} {ze : Int} {fV : Int} {dh : Int} {di : Int} {dk : Int} (h :
be M (.cells #[(.int .u64 zd), (.int .u64 ze), (iV fV)] 205 (0, 0)) fun k1 M2 =>
be M2 (.cells #[(.int .u64 dh), (.int .u64 di), (iV dk)] 205 (0, 0)) fun k3 M4 =>
aK (Mem.ld M4 ⟨k1, 0, none⟩) .u64 fun n5 =>
aK (Mem.ld M4 ⟨k3, 0, none⟩) .u64 fun n6 =>
aV (decide ((n5 : Int) < n6))
 (K (.bool true) M4)
 (aK (Mem.ld M4 ⟨k1, 0, none⟩) .u64 fun n7 =>
 aK (Mem.ld M4 ⟨k3, 0, none⟩) .u64 fun n8 =>
 aV (n7 == n8)
 (aK (Mem.ld M4 ⟨k1, 1, none⟩) .u64 fun n9 =>
 aK (Mem.ld M4 ⟨k3, 1, none⟩) .u64 fun j9 =>
 K (.bool (decide ((n9 : Int) < j9))) M4)
 (K (.bool false) M4))) :
 aa Tryz.prog 186 ([.agg #[.int .u64 zd, .int .u64 ze, .int .i64 fV], .agg #[.int .u64 dh, .int .u64 di, .int .i64 dk]] : List Value).toArray M K Kp :=
 az (C := Cx) good [] Tryz.func186 (by kernel_rfl) (by kernel_rfl) h
theorem oW {b0 o0 : Nat} {x1 : Int} {x2 : Int} (h :
rS M b0 (o0 + 4) fun A1 k2 k3 =>
((0 : Int) ≤ x1) ∧
((x1 : Int) < ((k2 : Nat) : Int)) ∧
aG A1 fun k4 k5 =>
bO (Mem.ld M ⟨k4, (k5 + (Int.toNat x1)), none⟩) fun A6 =>
aG A6 fun k7 k8 =>
rI M k7 (k8 + 2) fun n9 =>
rI M k7 ((k8 + 2) + 1) fun j9 =>
rI M k7 ((k8 + 2) + 2) fun fA =>
rI M k7 ((k8 + 2) + 3) fun jf =>
be M (.cells #[(iV 0), (iV 0), (iV 0), (iV 0)] 34 (0, 0)) fun dm iC =>
sT iC dm 0 (iV n9) fun oE =>
sT oE dm 1 (iV j9) fun fh =>
sT fh dm 2 (iV fA) fun j8 =>
sT j8 dm 3 (iV jf) fun mZ =>
rS mZ b0 (o0 + 4) fun AK iA fC =>
((0 : Int) ≤ x1) ∧
((x1 : Int) < ((iA : Nat) : Int)) ∧
aG AK fun gJ iY =>
bO (Mem.ld mZ ⟨gJ, (iY + (Int.toNat x1)), none⟩) fun G4 =>
aG G4 fun sU lT =>
rS mZ sU (lT + 1) fun SW lK kB =>
rI mZ dm 3 fun Hg =>
aa Tryz.prog 120 #[(.slice SW lK kB)] mZ (fun T6 mX =>
bO (some T6) fun KL =>
((Mem.ld mX ⟨dm, 3, none⟩) = (some (iV Hg))) ∧
aG KL fun uw sW =>
((0 : Int) ≤ Hg) ∧
((Hg : Int) < 8) ∧
sT mX uw ((sW + 2) + (Int.toNat Hg)) (iV x2) fun pA =>
((Mem.ld pA ⟨dm, 3, none⟩) = (some (iV Hg))) ∧
rS pA b0 (o0 + 6) fun Mp gZ tX =>
aa Tryz.prog 225 #[(iV x1), (.slice Mp gZ tX)] pA (fun Jp Bf =>
(Jp = (.tuple #[])) ∧
K (.tuple #[]) Bf) Kp) Kp) :
 aa Tryz.prog 223 ([.pointer (some ⟨b0, o0, none⟩), .int .i64 x1, .int .i64 x2] : List Value).toArray M K Kp :=
 az (C := Cx) good [(1, .bT [0, 1, 3, 7, 0, 31, 63, 127, 255, 511, 1023, 0, 2048, 0, 2047, 18431, 65535, 131071] (.step 0 (.step 1 (.step 2 (.step 4 (.step 11 (.step 13 (.step 3 (.step 5 (.step 6 (.step 7 (.step 8 (.step 9 (.dJ 12 (.step 10 (.step 14 (.step 15 (.step 16 (.step 17 .done)))))))))))))))))))] Tryz.func223 (by kernel_rfl) (by kernel_rfl) h
end Go.Proofs
namespace Go.Proofs
open Go.AF
set_option maxRecDepth 100000
theorem Dm {jE : Option Addr} {jF jG : Nat} {jH : Option Addr} {jI jJ : Nat} {fV : Int} {jK : Option Addr} {jL jM : Nat} {M : Mem} {K : Value → Mem → Prop} {Kp : List PanicEntry → Mem → Prop} (h :
be M (.cells #[(.slice jE jF jG), (.slice jH jI jJ), (iV fV), (.slice jK jL jM)] 41 (0, 0)) fun k1 M2 =>
rS M2 k1 0 fun A3 k4 k5 =>
rS M2 k1 1 fun A6 k7 k8 =>
rI M2 k1 2 fun n9 =>
rS M2 k1 3 fun BY eL fU =>
aa Tryz.prog 71 #[(iV 0), (iV 0)] M2 (fun QU iC =>
aD (some QU) fun qO dO eT =>
((Mem.fm iC ⟨k1, 0, none⟩ 0 4) = some [(.slice A3 k4 k5), (.slice A6 k7 k8), (iV n9), (.slice BY eL fU)]) ∧
be iC (.cells #[(iV 1), (.slice qO dO eT), (iV 0), (iV 0), (iV 0), (iV 0)] 182 (0, 0)) fun en iq =>
be iq (.cells #[(.pointer (some ⟨en, 0, none⟩))] 177 (0, 0)) fun iA je =>
be je (.cells #[(.slice A3 k4 k5), (.slice A6 k7 k8), (iV n9), (.slice BY eL fU), (.slice (some ⟨iA, 0, none⟩) 1 1), (.int .u64 0), (.slice none 0 0), (.slice none 0 0), (.slice none 0 0), (.int .u64 0), (.slice none 0 0), (iV 0), (iV 0), (.slice none 0 0), .nilFunc] 164 (0, 0)) fun gJ lg =>
rS lg k1 1 fun G4 sU lT =>
∃ I27 : Nat → List Value → Mem → Prop, (∃ lK : Nat, I27 lK [(iV 0)] lg) ∧
∀ kB : Nat, ∀ junk30 : Nat → Value, ∀ tV : Int, ∀ mX : Mem, (I27 kB [(iV tV)] mX) → aV (decide ((tV : Int) < ((sU : Nat) : Int)))
 (((0 : Int) ≤ tV) ∧
 ((tV : Int) < ((sU : Nat) : Int)) ∧
 aG G4 fun jA uw =>
 rI mX jA (uw + (Int.toNat tV)) fun Mm =>
 ∃ S3 : List Value → Mem → Prop, ((rS mX gJ 6 fun Mp gZ tX =>
 aa Tryz.prog 72 #[(iV Mm)] mX (fun Jp Bf =>
 bO (some Jp) fun Ml =>
 be Bf (.cells #[(.pointer Ml)] 183 (0, 0)) fun lU xy =>
 aS Tryz.prog (Go.Builtin.append_ #[159, 159] 159 #[(.slice Mp gZ tX), (.slice (some ⟨lU, 0, none⟩) 1 1)]) xy (fun XJ xz =>
 aD (some XJ) fun A47 E8 Mn =>
 sT xz gJ 6 (.slice A47 E8 Mn) fun AH =>
 S3 [] AH) Kp) Kp) ∧
 (aa Tryz.prog 72 #[(iV Mm)] mX (fun v51 Uh =>
 bO (some v51) fun A53 =>
 rS Uh gJ 6 fun A54 AM Mq =>
 be Uh (.cells #[(.pointer A53)] 183 (0, 0)) fun sG Hi =>
 aS Tryz.prog (Go.Builtin.append_ #[159, 159] 159 #[(.slice A54 AM Mq), (.slice (some ⟨sG, 0, none⟩) 1 1)]) Hi (fun v59 pQ =>
 aD (some v59) fun YW QV P9 =>
 sT pQ gJ 6 (.slice YW QV P9) fun Ed =>
 S3 [] Ed) Kp) Kp) ∧
 True) ∧
 ∀ junk65 : Nat → Value, ∀ SY : Mem, (S3 [] SY) → ∃ xX : Nat, (xX < kB) ∧
 I27 xX [(iV (IntKind.wrap .i64 (tV + 1)))] SY)
 (rI mX k1 2 fun Jq =>
 ∃ I69 : Nat → List Value → Mem → Prop, (∃ zk : Nat, I69 zk [(iV 0)] mX) ∧
 ∀ KT : Nat, ∀ junk72 : Nat → Value, ∀ P7 : Int, ∀ Cb : Mem, (I69 KT [(iV P7)] Cb) → aV (decide ((P7 : Int) < Jq))
 (∃ J75 : List Value → Mem → Prop, ((rS Cb gJ 7 fun A76 Mr KU =>
 aa Tryz.prog 73 #[] Cb (fun v79 yw =>
 bO (some v79) fun Ul =>
 be yw (.cells #[(.pointer Ul)] 185 (0, 0)) fun Hj Gi =>
 aS Tryz.prog (Go.Builtin.append_ #[160, 160] 160 #[(.slice A76 Mr KU), (.slice (some ⟨Hj, 0, none⟩) 1 1)]) Gi (fun v84 YX =>
 aD (some v84) fun A86 Ms Dp =>
 sT YX gJ 7 (.slice A86 Ms Dp) fun Df =>
 J75 [] Df) Kp) Kp) ∧
 (aa Tryz.prog 73 #[] Cb (fun NS j0 =>
 bO (some NS) fun Um =>
 rS j0 gJ 7 fun A93 QW k95 =>
 be j0 (.cells #[(.pointer Um)] 185 (0, 0)) fun k96 Mt =>
 aS Tryz.prog (Go.Builtin.append_ #[160, 160] 160 #[(.slice A93 QW k95), (.slice (some ⟨k96, 0, none⟩) 1 1)]) Mt (fun v98 Un =>
 aD (some v98) fun A100 QX Hl =>
 sT Un gJ 7 (.slice A100 QX Hl) fun Ho =>
 J75 [] Ho) Kp) Kp) ∧
 True) ∧
 ∀ QY : Nat → Value, ∀ mY : Mem, (J75 [] mY) → ∃ xY : Nat, (xY < KT) ∧
 I69 xY [(iV (IntKind.wrap .i64 (P7 + 1)))] mY)
 (K (.pointer (some ⟨gJ, 0, none⟩)) Cb))) Kp) :
 aa Tryz.prog 36 ([.agg #[.slice jE jF jG, .slice jH jI jJ, .int .i64 fV, .slice jK jL jM]] : List Value).toArray M K Kp :=
 az (C := Cx) good [(1, .bT [0, 0, 2, 6, 14, 31, 63, 127] (.dJ 0 (.step 1 (.step 2 (.step 3 (.step 4 (.step 5 (.step 6 (.step 7 .done))))))))), (2000000, .loop [(16, .c (.int .i64))]), (5, .EK [0, 0, 2, 6, 14, 0, 32, 96, 254, 511, 1023, 2047] (.step 0 (.step 1 (.step 2 (.step 3 (.step 5 (.fork 4 (.step 6 (.step 7 (.step 8 (.step 9 (.step 10 (.step 11 .done)))))) (.fork 6 (.step 4 (.step 7 (.step 8 (.step 9 (.step 10 (.step 11 .done)))))) .dead))))))) []), (2000002, .loop [(34, .c (.int .i64))]), (9, .EK [0, 0, 2, 6, 14, 0, 32, 126, 255, 511, 1023] (.step 0 (.step 1 (.step 2 (.step 3 (.fork 4 (.step 5 (.step 6 (.step 7 (.step 8 (.step 9 (.step 10 .done)))))) (.fork 5 (.step 4 (.step 6 (.step 7 (.step 8 (.step 9 (.step 10 .done)))))) .dead)))))) [])] Tryz.func36 (by kernel_rfl) (by kernel_rfl) h
theorem ke {b0 o0 : Nat} {x1 : Int} {u2 : Value} {M : Mem} {K : Value → Mem → Prop} {Kp : List PanicEntry → Mem → Prop} (h :
be M (.cells #[(.bool false), (.slice none 0 0)] 120 (0, 0)) fun k1 M2 =>
aV (decide ((x1 : Int) < 0))
 (aO M2 ⟨k1, 0, none⟩ (.bool false) fun M3 =>
 aO M3 ⟨k1, (0 + 1), none⟩ (.slice none 0 0) fun M4 =>
 cJ (Mem.ld M4 ⟨k1, 0, none⟩) fun t5 =>
 aD (Mem.ld M4 ⟨k1, (0 + 1), none⟩) fun A6 k7 k8 =>
 K (.agg #[(.bool t5), (.slice A6 k7 k8)]) M4)
 (aD (Mem.ld M2 ⟨b0, (o0 + 4), none⟩) fun A9 dP eL =>
 aV (decide ((x1 : Int) ≥ ((dP : Nat) : Int)))
  (aO M2 ⟨k1, 0, none⟩ (.bool false) fun ja =>
  aO ja ⟨k1, (0 + 1), none⟩ (.slice none 0 0) fun j7 =>
  cJ (Mem.ld j7 ⟨k1, 0, none⟩) fun t14 =>
  aD (Mem.ld j7 ⟨k1, (0 + 1), none⟩) fun qO dO eT =>
  K (.agg #[(.bool t14), (.slice qO dO eT)]) j7)
  (aK (Mem.ld M2 ⟨b0, (o0 + 11), none⟩) .i64 fun kL =>
  aV (kL != 0)
   (aO M2 ⟨k1, 0, none⟩ (.bool false) fun iq =>
   aO iq ⟨k1, (0 + 1), none⟩ (.slice none 0 0) fun nU =>
   cJ (Mem.ld nU ⟨k1, 0, none⟩) fun t21 =>
   aD (Mem.ld nU ⟨k1, (0 + 1), none⟩) fun QS iY ri =>
   K (.agg #[(.bool t21), (.slice QS iY ri)]) nU)
   (aD (Mem.ld M2 ⟨b0, (o0 + 4), none⟩) fun KK lT oN =>
   ((0 : Int) ≤ x1) ∧
   ((x1 : Int) < ((lT : Nat) : Int)) ∧
   aG KK fun lK kB =>
   bO (Mem.ld M2 ⟨lK, (kB + (Int.toNat x1)), none⟩) fun Gg =>
   aG Gg fun nW tW =>
   aK (Mem.ld M2 ⟨nW, tW, none⟩) .i64 fun lI =>
   aV (lI != 1)
    (aO M2 ⟨k1, 0, none⟩ (.bool false) fun mI =>
    aO mI ⟨k1, (0 + 1), none⟩ (.slice none 0 0) fun qP =>
    cJ (Mem.ld qP ⟨k1, 0, none⟩) fun t36 =>
    aD (Mem.ld qP ⟨k1, (0 + 1), none⟩) fun Mp gZ tX =>
    K (.agg #[(.bool t36), (.slice Mp gZ tX)]) qP)
    (aO M2 ⟨b0, (o0 + 13), none⟩ (.slice none 0 0) fun QT =>
    BC u2 <|
    aO QT ⟨b0, (o0 + 14), none⟩ u2 fun Bf =>
    aa Tryz.prog 88 #[(.pointer (some ⟨b0, o0, none⟩)), (.int .i64 x1)] Bf (fun v42 vZ =>
    cJ (some v42) fun t44 =>
    aV (!t44)
     (aK (Mem.ld vZ ⟨b0, (o0 + 11), none⟩) .i64 fun xU =>
     aV (xU == 0)
      (aD (Mem.ld vZ ⟨b0, (o0 + 4), none⟩) fun A46 Mj E8 =>
      ((0 : Int) ≤ x1) ∧
      ((x1 : Int) < ((Mj : Nat) : Int)) ∧
      aG A46 fun Mn y8 =>
      bO (Mem.ld vZ ⟨Mn, (y8 + (Int.toNat x1)), none⟩) fun P5 =>
      aG P5 fun jX jy =>
      aK (Mem.ld vZ ⟨jX, jy, none⟩) .i64 fun S2 =>
      aD (Mem.ld vZ ⟨b0, (o0 + 13), none⟩) fun Uo Mq sG =>
      aO vZ ⟨k1, 0, none⟩ (.bool (S2 == 1)) fun Hi =>
      aO Hi ⟨k1, (0 + 1), none⟩ (.slice Uo Mq sG) fun xA =>
      cJ (Mem.ld xA ⟨k1, 0, none⟩) fun t60 =>
      aD (Mem.ld xA ⟨k1, (0 + 1), none⟩) fun YW QV P9 =>
      K (.agg #[(.bool t60), (.slice YW QV P9)]) xA)
      (aD (Mem.ld vZ ⟨b0, (o0 + 13), none⟩) fun A64 XK Gj =>
      aO vZ ⟨k1, 0, none⟩ (.bool false) fun P6 =>
      aO P6 ⟨k1, (0 + 1), none⟩ (.slice A64 XK Gj) fun NF =>
      cJ (Mem.ld NF ⟨k1, 0, none⟩) fun t69 =>
      aD (Mem.ld NF ⟨k1, (0 + 1), none⟩) fun A70 KT Jt =>
      K (.agg #[(.bool t69), (.slice A70 KT Jt)]) NF))
     (aD (Mem.ld vZ ⟨b0, (o0 + 13), none⟩) fun A73 S4 S5 =>
     aO vZ ⟨k1, 0, none⟩ (.bool false) fun M76 =>
     aO M76 ⟨k1, (0 + 1), none⟩ (.slice A73 S4 S5) fun NT =>
     cJ (Mem.ld NT ⟨k1, 0, none⟩) fun t78 =>
     aD (Mem.ld NT ⟨k1, (0 + 1), none⟩) fun Qa Ee QZ =>
     K (.agg #[(.bool t78), (.slice Qa Ee QZ)]) NT)) Kp))))) :
 aa Tryz.prog 41 ([.pointer (some ⟨b0, o0, none⟩), .int .i64 x1, u2] : List Value).toArray M K Kp :=
 az (C := Cx) good [(5, .bT [0, 1, 3, 7, 15, 31, 63, 127, 255, 511, 1023, 2047, 4095, 8191, 1023, 32767, 65535, 131071, 262143, 524287, 1048575, 2097151, 0, 4194304, 12582912, 29360128, 67108863, 134217727] (.step 0 (.step 1 (.step 2 (.step 3 (.step 4 (.step 5 (.step 22 (.step 23 (.step 24 (.step 6 (.step 7 (.step 8 (.step 9 (.step 10 (.step 11 (.step 12 (.step 14 (.step 13 (.step 15 (.step 16 (.step 17 (.step 18 (.step 19 (.step 20 (.step 21 (.step 25 (.step 26 (.step 27 .done)))))))))))))))))))))))))))))] Tryz.func41 (by kernel_rfl) (by kernel_rfl) h
theorem qb {b0 o0 : Nat} {M : Mem} {K : Value → Mem → Prop} {Kp : List PanicEntry → Mem → Prop} (h :
aK (Mem.ld M ⟨b0, (o0 + 11), none⟩) .i64 fun n1 =>
aV (n1 != 0)
 (K (.bool false) M)
 (aD (Mem.ld M ⟨b0, (o0 + 4), none⟩) fun A2 k3 k4 =>
 ∃ I5 : Nat → List Value → Mem → Prop, (∃ k6 : Nat, I5 k6 [(.int .i64 0)] M) ∧
 ∀ k7 : Nat, ∀ junk8 : Nat → Value, ∀ n9 : Int, ∀ gV : Mem, (I5 k7 [(.int .i64 n9)] gV) → aV (decide ((n9 : Int) < ((k3 : Nat) : Int)))
  (((0 : Int) ≤ n9) ∧
  ((n9 : Int) < ((k3 : Nat) : Int)) ∧
  aG A2 fun eL fU =>
  bO (Mem.ld gV ⟨eL, (fU + (Int.toNat n9)), none⟩) fun Mh =>
  aG Mh fun gq gj =>
  aK (Mem.ld gV ⟨gq, gj, none⟩) .i64 fun mB =>
  aV (mB == 1)
   (K (.bool false) gV)
   (aG Mh fun eT en =>
   aK (Mem.ld gV ⟨eT, en, none⟩) .i64 fun xo =>
   aV (xo == 3)
    (K (.bool false) gV)
    (∃ iA : Nat, (iA < k7) ∧
    I5 iA [(.int .i64 (IntKind.wrap .i64 (n9 + 1)))] gV)))
  (K (.bool true) gV))) :
 aa Tryz.prog 44 ([.pointer (some ⟨b0, o0, none⟩)] : List Value).toArray M K Kp :=
 az (C := Cx) good [(2000000, .loop [(15, .c (.int .i64))])] Tryz.func44 (by kernel_rfl) (by kernel_rfl) h
variable {M : Mem} {K : Value → Mem → Prop} {Kp : List PanicEntry → Mem → Prop}
theorem we {B0 : Option Addr} {m0 c0 : Nat} (h :
be M (.cells #[] 36 (0, 0)) fun k1 M2 =>
aS Tryz.prog (Go.Builtin.append_ #[35, 35] 35 #[(.slice (some ⟨k1, 0, none⟩) 0 0), (.slice B0 m0 c0)]) M2 (fun v3 M4 =>
aD (some v3) fun A5 k6 k7 =>
be M4 (.cells #[(.slice A5 k6 k7), (iV 0)] 147 (0, 0)) fun k8 M9 =>
be M9 (.cells #[(.func (.func 54) #[(.pointer (some ⟨k8, 0, none⟩))] #[]), (.func (.func 55) #[(.pointer (some ⟨k8, 0, none⟩))] #[]), (.slice none 0 0), .nilFunc] 151 (0, 0)) fun dP hH =>
K (.pointer (some ⟨dP, 0, none⟩)) hH) Kp) :
 aa Tryz.prog 17 ([.slice B0 m0 c0] : List Value).toArray M K Kp :=
 az (C := Cx) good [] Tryz.func17 (by kernel_rfl) (by kernel_rfl) h
theorem zl {B0 : Option Addr} {m0 c0 : Nat} (h :
be M (.cells #[] 153 (0, 0)) fun k1 M2 =>
aS Tryz.prog (Go.Builtin.append_ #[97, 97] 97 #[(.slice (some ⟨k1, 0, none⟩) 0 0), (.slice B0 m0 c0)]) M2 (fun v3 M4 =>
aD (some v3) fun A5 k6 k7 =>
be M4 (.cells #[(.slice A5 k6 k7), (iV 0)] 175 (0, 0)) fun k8 M9 =>
be M9 (.cells #[(.func (.func 66) #[(.pointer (some ⟨k8, 0, none⟩))] #[]), (.func (.func 67) #[(.pointer (some ⟨k8, 0, none⟩))] #[]), (.slice none 0 0), .nilFunc] 151 (0, 0)) fun dP hH =>
K (.pointer (some ⟨dP, 0, none⟩)) hH) Kp) :
 aa Tryz.prog 31 ([.slice B0 m0 c0] : List Value).toArray M K Kp :=
 az (C := Cx) good [] Tryz.func31 (by kernel_rfl) (by kernel_rfl) h
theorem oc {b0 o0 : Nat} (h :
be M (.cells #[] 153 (0, 0)) fun k1 M2 =>
rS M2 b0 (o0 + 2) fun A3 k4 k5 =>
aS Tryz.prog (Go.Builtin.append_ #[97, 97] 97 #[(.slice (some ⟨k1, 0, none⟩) 0 0), (.slice A3 k4 k5)]) M2 (fun v6 M7 =>
aD (some v6) fun A8 k9 dP =>
K (.slice A8 k9 dP) M7) Kp) :
 aa Tryz.prog 32 ([.pointer (some ⟨b0, o0, none⟩)] : List Value).toArray M K Kp :=
 az (C := Cx) good [] Tryz.func32 (by kernel_rfl) (by kernel_rfl) h
theorem oX {b0 o0 : Nat} {x1 : Int} {x2 : Int} (h :
rI M b0 (o0 + 1) fun n1 =>
rS M b0 o0 fun A2 k3 k4 =>
aV (decide ((n1 : Int) ≥ ((k3 : Nat) : Int)))
 (Kp [{ v := (.iface 227 (.agg #[])), recovered := false }] M)
 (rI M b0 (o0 + 1) fun n5 =>
 sT M b0 (o0 + 1) (iV (IntKind.wrap .i64 (n5 + 1))) fun M6 =>
 rS M6 b0 o0 fun A7 k8 k9 =>
 rI M6 b0 (o0 + 1) fun j9 =>
 ((0 : Int) ≤ (IntKind.wrap .i64 (j9 - 1))) ∧
 (((IntKind.wrap .i64 (j9 - 1)) : Int) < ((k8 : Nat) : Int)) ∧
 aG A7 fun eL fU =>
 aK (Mem.ld M6 ⟨eL, (fU + (Int.toNat (IntKind.wrap .i64 (j9 - 1)))), none⟩) .u64 fun jg =>
 (((IntKind.wrap .u64 x2) : Int) ≠ 0) ∧
 K (.int .u64 (Int.tmod jg (IntKind.wrap .u64 x2))) M6)) :
 aa Tryz.prog 54 ([.pointer (some ⟨b0, o0, none⟩), .int .i64 x1, .int .i64 x2] : List Value).toArray M K Kp :=
 az (C := Cx) good [(1, .bT [0, 1, 3, 7, 0, 16, 48, 112, 240, 511] (.step 0 (.step 1 (.step 2 (.step 4 (.step 5 (.step 6 (.step 3 (.step 7 (.step 8 (.step 9 .done))))))))))), (4, .bT [0, 1, 3, 7, 0, 16, 48, 112, 240, 511, 1023, 0, 2048, 8191, 16383] (.step 0 (.step 1 (.step 2 (.step 4 (.step 5 (.step 6 (.step 11 (.step 12 (.step 3 (.step 7 (.step 8 (.step 9 (.step 10 (.step 13 (.step 14 .done))))))))))))))))] Tryz.func54 (by kernel_rfl) (by kernel_rfl) h
theorem xZ {u0 : Value} (h :
be M (.cells #[(iV 0), (iV 0), (iV 0), (iV 0), (.int .u64 0)] 155 (0, 0)) fun k1 M2 =>
be M2 (.cells #[(iV 0)] 3 (0, 0)) fun k3 M4 =>
be M4 (.cells #[(iV 0), (iV 0), (iV 0), (iV 0), (.int .u64 0)] 155 (0, 0)) fun k5 M6 =>
sT M6 k3 0 (iV 0) fun M7 =>
sT M7 k5 0 (iV 0) fun M8 =>
sT M8 k5 1 (iV 0) fun M9 =>
sT M9 k5 2 (iV 0) fun gV =>
sT gV k5 3 (iV 0) fun hH =>
sT hH k5 4 (.int .u64 0) fun ja =>
aa Tryz.prog 104 #[u0, (.pointer (some ⟨k3, 0, none⟩)), (.pointer (some ⟨k5, 0, none⟩))] ja (fun QU iC =>
(QU = (.tuple #[])) ∧
rI iC k3 0 fun jY =>
rI iC k5 0 fun mB =>
rI iC k5 1 fun iw =>
rI iC k5 2 fun kL =>
rI iC k5 3 fun xo =>
aK (Mem.ld iC ⟨k5, 4, none⟩) .u64 fun fI =>
sT iC k1 0 (iV mB) fun je =>
sT je k1 1 (iV iw) fun cZ =>
sT cZ k1 2 (iV kL) fun lg =>
sT lg k1 3 (iV xo) fun iz =>
sT iz k1 4 (.int .u64 fI) fun B7 =>
rI B7 k1 0 fun oS =>
rI B7 k1 1 fun yp =>
rI B7 k1 2 fun xn =>
rI B7 k1 3 fun xu =>
aK (Mem.ld B7 ⟨k1, 4, none⟩) .u64 fun Hg =>
K (.tuple #[(iV jY), (.agg #[(iV oS), (iV yp), (iV xn), (iV xu), (.int .u64 Hg)])]) B7) Kp) :
 aa Tryz.prog 56 ([u0] : List Value).toArray M K Kp :=
 az (C := Cx) good [(3, .bT [0, 0, 1, 7] (.step 0 (.step 2 (.step 1 (.step 3 .done)))))] Tryz.func56 (by kernel_rfl) (by kernel_rfl) h
theorem rT {b0 o0 : Nat} {x1 : Int} {x2 : Int} (h :
rI M b0 (o0 + 1) fun n1 =>
rS M b0 o0 fun A2 k3 k4 =>
aV (decide ((n1 : Int) ≥ ((k3 : Nat) : Int)))
 (Kp [{ v := (.iface 227 (.agg #[])), recovered := false }] M)
 (rS M b0 o0 fun A5 k6 k7 =>
 rI M b0 (o0 + 1) fun n8 =>
 ((0 : Int) ≤ n8) ∧
 ((n8 : Int) < ((k6 : Nat) : Int)) ∧
 aG A5 fun k9 dP =>
 rI M k9 (dP + ((Int.toNat n8) * 2)) fun fA =>
 aK (Mem.ld M ⟨k9, ((dP + ((Int.toNat n8) * 2)) + 1), none⟩) .u64 fun jf =>
 be M (.cells #[(iV 0), (.int .u64 0)] 153 (0, 0)) fun dm iC =>
 sT iC dm 0 (iV fA) fun oE =>
 sT oE dm 1 (.int .u64 jf) fun fh =>
 rI fh dm 0 fun iw =>
 aV (iw != x1)
 (rI fh b0 (o0 + 1) fun kL =>
 rI fh dm 0 fun xo =>
 aK (Mem.ld fh ⟨dm, 1, none⟩) .u64 fun fI =>
 Kp [{ v := (.iface 155 (.agg #[(iV kL), (iV x1), (iV x2), (iV xo), (.int .u64 fI)])), recovered := false }] fh)
 (aK (Mem.ld fh ⟨dm, 1, none⟩) .u64 fun nT =>
 aV (decide ((nT : Int) ≥ (IntKind.wrap .u64 x2)))
 (rI fh b0 (o0 + 1) fun sC =>
 rI fh dm 0 fun nX =>
 aK (Mem.ld fh ⟨dm, 1, none⟩) .u64 fun xT =>
 Kp [{ v := (.iface 155 (.agg #[(iV sC), (iV x1), (iV x2), (iV nX), (.int .u64 xT)])), recovered := false }] fh)
 (rI fh b0 (o0 + 1) fun mJ =>
 sT fh b0 (o0 + 1) (iV (IntKind.wrap .i64 (mJ + 1))) fun xl =>
 aK (Mem.ld xl ⟨dm, 1, none⟩) .u64 fun yp =>
 K (.int .u64 yp) xl)))) :
 aa Tryz.prog 66 ([.pointer (some ⟨b0, o0, none⟩), .int .i64 x1, .int .i64 x2] : List Value).toArray M K Kp :=
 az (C := Cx) good [(1, .bT [0, 1, 3, 7, 0, 16, 48, 112, 240, 511] (.step 0 (.step 1 (.step 2 (.step 4 (.step 5 (.step 6 (.step 3 (.step 7 (.step 8 (.step 9 .done))))))))))), (3, .bT [0, 1, 3, 7, 0, 16, 48, 112, 255, 511, 0, 2047] (.step 0 (.step 1 (.step 2 (.step 4 (.step 5 (.step 6 (.step 3 (.step 7 (.step 8 (.step 9 (.step 10 (.step 11 .done))))))))))))), (5, .bT [0, 1, 3, 7, 0, 0, 0, 127, 255, 511] (.step 0 (.step 1 (.step 2 (.step 4 (.step 5 (.step 3 (.step 6 (.step 7 (.step 8 (.step 9 .done)))))))))))] Tryz.func66 (by kernel_rfl) (by kernel_rfl) h
theorem oY {b0 o0 : Nat} {x1 : Int} {x2 : Int} (h :
fz (Mem.ld M ⟨b0, o0, none⟩) fun v1 =>
iF Cx v1 [(iV x1), (iV (if (1 : Int) > x2 then 1 else x2))] M (fun v2 M3 =>
aK (some v2) .u64 fun n4 =>
be M3 (.cells #[(iV 0), (.int .u64 0)] 153 (0, 0)) fun k5 M6 =>
sT M6 k5 0 (iV x1) fun M7 =>
sT M7 k5 1 (.int .u64 n4) fun M8 =>
rS M8 b0 (o0 + 2) fun A9 dP eL =>
rI M8 k5 0 fun jf =>
aK (Mem.ld M8 ⟨k5, 1, none⟩) .u64 fun jg =>
be M8 (.cells #[(iV jf), (.int .u64 jg)] 153 (0, 0)) fun gq oE =>
aS Tryz.prog (Go.Builtin.append_ #[97, 97] 97 #[(.slice A9 dP eL), (.slice (some ⟨gq, 0, none⟩) 1 1)]) oE (fun QL j8 =>
aD (some QL) fun Js jd iA =>
sT j8 b0 (o0 + 2) (.slice Js jd iA) fun je =>
fz (Mem.ld je ⟨b0, (o0 + 3), none⟩) fun G3 =>
IW G3 fun t23 =>
aV (!t23)
 (fz (Mem.ld je ⟨b0, (o0 + 3), none⟩) fun Ui =>
 rI je k5 0 fun mJ =>
 aK (Mem.ld je ⟨k5, 1, none⟩) .u64 fun oS =>
 iF Cx Ui [(.agg #[(iV mJ), (.int .u64 oS)])] je (fun NJ y7 =>
 (NJ = (.tuple #[])) ∧
 aK (Mem.ld y7 ⟨k5, 1, none⟩) .u64 fun xu =>
 K (iV (IntKind.wrap .i64 xu)) y7) Kp)
 (aK (Mem.ld je ⟨k5, 1, none⟩) .u64 fun Hg =>
 K (iV (IntKind.wrap .i64 Hg)) je)) Kp) Kp) :
 aa Tryz.prog 98 ([.pointer (some ⟨b0, o0, none⟩), .int .i64 x1, .int .i64 x2] : List Value).toArray M K Kp :=
 az (C := Cx) good [(2, .bT [0, 0, 2, 6, 14, 0, 32, 126, 255, 511, 1023] (.step 0 (.step 1 (.step 2 (.step 3 (.step 4 (.step 5 (.step 6 (.step 7 (.step 8 (.step 9 (.step 10 .done)))))))))))), (4, .bT [0, 1, 3, 7, 0, 31] (.step 0 (.step 1 (.step 2 (.step 3 (.step 4 (.step 5 .done)))))))] Tryz.func98 (by kernel_rfl) (by kernel_rfl) h
end Go.Proofs
namespace Go.Proofs
open Go.AF
set_option maxRecDepth 100000
variable {M : Mem} {K : Value → Mem → Prop} {Kp : List PanicEntry → Mem → Prop}
theorem Dq {x0 : Int} (h :
aa Tryz.prog 103 #[(iV x0)] M (fun v1 M2 =>
bO (some v1) fun A3 =>
be M2 (.cells #[(iV (-1)), (.pointer A3)] 224 (0, 0)) fun k4 M5 =>
K (.pointer (some ⟨k4, 0, none⟩)) M5) Kp) :
 aa Tryz.prog 52 ([.int .i64 x0] : List Value).toArray M K Kp :=
 az (C := Cx) good [] Tryz.func52 (by kernel_rfl) (by kernel_rfl) h
theorem rU {b0 o0 : Nat} {B1 : Option Addr} {m1 c1 : Nat} (h :
aD (Mem.ld M ⟨b0, o0, none⟩) fun A1 k2 k3 =>
aS Tryz.prog (Go.Builtin.append_ #[38, 38] 38 #[(.slice A1 k2 k3), (.slice B1 m1 c1)]) M (fun v4 M5 =>
aD (some v4) fun A6 k7 k8 =>
aO M5 ⟨b0, o0, none⟩ (.slice A6 k7 k8) fun M9 =>
K (.tuple #[]) M9) Kp) :
 aa Tryz.prog 53 ([.pointer (some ⟨b0, o0, none⟩), .slice B1 m1 c1] : List Value).toArray M K Kp :=
 az (C := Cx) good [] Tryz.func53 (by kernel_rfl) (by kernel_rfl) h
theorem rV {b0 o0 : Nat} (h :
rI M b0 o0 fun n1 =>
K (iV n1) M) :
 aa Tryz.prog 58 ([.pointer (some ⟨b0, o0, none⟩)] : List Value).toArray M K Kp :=
 az (C := Cx) good [] Tryz.func58 (by kernel_rfl) (by kernel_rfl) h
theorem rW {b0 o0 : Nat} (h :
bO (Mem.ld M ⟨b0, (o0 + 1), none⟩) fun A1 =>
aa Tryz.prog 105 #[(.pointer A1)] M (fun v2 M3 =>
aD (some v2) fun A4 k5 k6 =>
K (.slice A4 k5 k6) M3) Kp) :
 aa Tryz.prog 59 ([.pointer (some ⟨b0, o0, none⟩)] : List Value).toArray M K Kp :=
 az (C := Cx) good [] Tryz.func59 (by kernel_rfl) (by kernel_rfl) h
theorem qc {b0 o0 : Nat} (h :
be M (.cells #[] 3 (0, 0)) fun k1 M2 =>
aD (Mem.ld M2 ⟨b0, o0, none⟩) fun A3 k4 k5 =>
aS Tryz.prog (Go.Builtin.append_ #[38, 38] 38 #[(.slice (some ⟨k1, 0, none⟩) 0 0), (.slice A3 k4 k5)]) M2 (fun v6 M7 =>
aD (some v6) fun A8 k9 dP =>
K (.slice A8 k9 dP) M7) Kp) :
 aa Tryz.prog 62 ([.pointer (some ⟨b0, o0, none⟩)] : List Value).toArray M K Kp :=
 az (C := Cx) good [] Tryz.func62 (by kernel_rfl) (by kernel_rfl) h
theorem Fa {x0 : Int} (h :
aS Tryz.prog (Go.Instr.makeSlice 38 (iV (if (1024 : Int) < (if (1 : Int) > x0 then 1 else x0) then 1024 else (if (1 : Int) > x0 then 1 else x0))) (iV (if (1024 : Int) < (if (1 : Int) > x0 then 1 else x0) then 1024 else (if (1 : Int) > x0 then 1 else x0)))) M (fun v1 M2 =>
aD (some v1) fun A3 k4 k5 =>
be M2 (.cells #[(.slice A3 k4 k5), (iV 0), (iV 0)] 280 (0, 0)) fun k6 M7 =>
K (.pointer (some ⟨k6, 0, none⟩)) M7) Kp) :
 aa Tryz.prog 103 ([.int .i64 x0] : List Value).toArray M K Kp :=
 az (C := Cx) good [] Tryz.func103 (by kernel_rfl) (by kernel_rfl) h
theorem uK {b0 o0 : Nat} (h :
rI M b0 (o0 + 2) fun n1 =>
∃ I2 : Nat → List Value → Mem → Prop, (∃ k3 : Nat, I2 k3 [(.slice none 0 0), (iV 0)] M) ∧
∀ k4 : Nat, ∀ junk5 : Nat → Value, ∀ A6 : Option Addr, ∀ k7 : Nat, ∀ k8 : Nat, ∀ n9 : Int, ∀ gV : Mem, (I2 k4 [(.slice A6 k7 k8), (iV n9)] gV) → aV (decide ((n9 : Int) < n1))
 (rS gV b0 o0 fun Jr fU dm =>
 rI gV b0 (o0 + 1) fun jc =>
 rS gV b0 o0 fun qO dO eT =>
 ((((dO : Nat) : Int) : Int) ≠ 0) ∧
 ((0 : Int) ≤ (Int.tmod (IntKind.wrap .i64 (jc + n9)) ((dO : Nat) : Int))) ∧
 (((Int.tmod (IntKind.wrap .i64 (jc + n9)) ((dO : Nat) : Int)) : Int) < ((fU : Nat) : Int)) ∧
 aG Jr fun en jd =>
 rI gV en (jd + (Int.toNat (Int.tmod (IntKind.wrap .i64 (jc + n9)) ((dO : Nat) : Int)))) fun fI =>
 be gV (.cells #[(iV fI)] 3 (0, 0)) fun fC cZ =>
 aS Tryz.prog (Go.Builtin.append_ #[38, 38] 38 #[(.slice A6 k7 k8), (.slice (some ⟨fC, 0, none⟩) 1 1)]) cZ (fun Ub iz =>
 aD (some Ub) fun KK lT oN =>
 ∃ lK : Nat, (lK < k4) ∧
 I2 lK [(.slice KK lT oN), (iV (IntKind.wrap .i64 (n9 + 1)))] iz) Kp)
 (K (.slice A6 k7 k8) gV)) :
 aa Tryz.prog 105 ([.pointer (some ⟨b0, o0, none⟩)] : List Value).toArray M K Kp :=
 az (C := Cx) good [(2000000, .loop [(3, .c .sl), (9, .c (.int .i64))]), (5, .bT [0, 0, 2, 6, 14, 0, 32, 96, 224, 0, 992, 0, 2048, 6144, 14336, 30720, 65504, 131070, 262142, 524286, 1048575, 2097151] (.step 0 (.step 1 (.step 2 (.step 3 (.step 5 (.step 6 (.step 7 (.step 9 (.step 11 (.step 12 (.step 13 (.step 4 (.step 8 (.step 10 (.step 14 (.step 15 (.step 16 (.step 17 (.step 18 (.step 19 (.step 20 (.step 21 .done)))))))))))))))))))))))] Tryz.func105 (by kernel_rfl) (by kernel_rfl) h
theorem rX {x0 : Int} (h :
be M (.cells #[(iV 0), (.slice none 0 0), (iV 0)] 209 (0, 0)) fun k1 M2 =>
sT M2 k1 0 (iV (-1)) fun M3 =>
sT M3 k1 1 (.slice none 0 0) fun M4 =>
sT M4 k1 2 (iV (if ((if (1024 : Int) < x0 then 1024 else x0) : Int) > 1 then (if (1024 : Int) < x0 then 1024 else x0) else 1)) fun M5 =>
rI M5 k1 0 fun n6 =>
rS M5 k1 1 fun A7 k8 k9 =>
rI M5 k1 2 fun j9 =>
K (.agg #[(iV n6), (.slice A7 k8 k9), (iV j9)]) M5) :
 aa Tryz.prog 107 ([.int .i64 x0] : List Value).toArray M K Kp :=
 az (C := Cx) good [] Tryz.func107 (by kernel_rfl) (by kernel_rfl) h
theorem tx {b0 o0 : Nat} (h :
rI M b0 o0 fun n1 =>
aV (n1 != (-1))
 (sT M b0 o0 (iV (-1)) fun M2 =>
 K (.tuple #[(iV n1), (.bool true)]) M2)
 (bO (Mem.ld M ⟨b0, (o0 + 1), none⟩) fun A3 =>
 aa Tryz.prog 176 #[(.pointer A3)] M (fun v4 M5 =>
 ∃ n6 : Int, ∃ t7 : Bool, (v4 = (.tuple #[(iV n6), (.bool t7)])) ∧
 aV (!t7)
 (K (.tuple #[(iV (-1)), (.bool false)]) M5)
 (K (.tuple #[(iV n6), (.bool true)]) M5)) Kp)) :
 aa Tryz.prog 131 ([.pointer (some ⟨b0, o0, none⟩)] : List Value).toArray M K Kp :=
 az (C := Cx) good [] Tryz.func131 (by kernel_rfl) (by kernel_rfl) h
theorem jN {b0 o0 : Nat} {b1 o1 : Nat} (h :
Go.AF.ptrEq M (some ⟨b0, o0, none⟩) (some ⟨b1, o1, none⟩) fun t1 =>
aV t1
 (K (.tuple #[(iV (-1)), (.bool false)]) M)
 (bO (Mem.ld M ⟨b1, (o1 + 1), none⟩) fun A2 =>
 aa Tryz.prog 180 #[(.pointer A2)] M (fun v3 M4 =>
 aK (some v3) .i64 fun n5 =>
 aV (n5 == 0)
 (rI M4 b1 o1 fun n6 =>
 sT M4 b1 o1 (iV (-1)) fun M7 =>
 K (.tuple #[(iV n6), (.bool (n6 != (-1)))]) M7)
 (((2 : Int) ≠ 0) ∧
 bO (Mem.ld M4 ⟨b0, (o0 + 1), none⟩) fun A8 =>
 bO (Mem.ld M4 ⟨b1, (o1 + 1), none⟩) fun A9 =>
 bO (Mem.ld M4 ⟨b0, (o0 + 1), none⟩) fun BY =>
 aa Tryz.prog 182 #[(.pointer A8)] M4 (fun v11 ja =>
 aK (some v11) .i64 fun jg =>
 ((Mem.ld ja ⟨b0, (o0 + 1), none⟩) = (some (.pointer BY))) ∧
 ((Mem.ld ja ⟨b1, (o1 + 1), none⟩) = (some (.pointer A9))) ∧
 aa Tryz.prog 180 #[(.pointer BY)] ja (fun v14 oE =>
 aK (some v14) .i64 fun mB =>
 ((Mem.ld oE ⟨b0, (o0 + 1), none⟩) = (some (.pointer BY))) ∧
 ((Mem.ld oE ⟨b1, (o1 + 1), none⟩) = (some (.pointer A9))) ∧
 aa Tryz.prog 181 #[(.pointer A9), (iV (if ((IntKind.wrap .i64 ((IntKind.wrap .i64 (jg - mB)) + 1)) : Int) < (IntKind.wrap .i64 (n5 - (IntKind.wrap .i64 (Int.tdiv n5 2)))) then (IntKind.wrap .i64 ((IntKind.wrap .i64 (jg - mB)) + 1)) else (IntKind.wrap .i64 (n5 - (IntKind.wrap .i64 (Int.tdiv n5 2))))))] oE (fun Uj mZ =>
 aD (some Uj) fun AK iA fC =>
 ((Mem.ld mZ ⟨b0, (o0 + 1), none⟩) = (some (.pointer BY))) ∧
 ((Mem.ld mZ ⟨b1, (o1 + 1), none⟩) = (some (.pointer A9))) ∧
 ((0 : Int) ≤ ((fC : Nat) : Int)) ∧
 ((((fC : Nat) : Int) : Int) ≤ ((fC : Nat) : Int)) ∧
 ((0 : Int) ≤ ((iA : Nat) : Int)) ∧
 ((((iA : Nat) : Int) : Int) ≤ ((fC : Nat) : Int)) ∧
 ((0 : Int) ≤ 1) ∧
 ((1 : Int) ≤ ((iA : Nat) : Int)) ∧
 ∃ I22 : Nat → List Value → Mem → Prop, (∃ iY : Nat, I22 iY [(iV 0)] mZ) ∧
 ∀ ri : Nat, ∀ junk25 : Nat → Value, ∀ oS : Int, ∀ sD : Mem, (I22 ri [(iV oS)] sD) → aV (decide ((oS : Int) < ((((Int.toNat ((iA : Nat) : Int)) - 1) : Nat) : Int)))
 (((0 : Int) ≤ oS) ∧
 ((oS : Int) < ((((Int.toNat ((iA : Nat) : Int)) - 1) : Nat) : Int)) ∧
 aG (lM AK 1 (Int.toNat ((fC : Nat) : Int)) 1) fun lK kB =>
 rI sD lK (kB + (Int.toNat oS)) fun Hg =>
 bO (Mem.ld sD ⟨b0, (o0 + 1), none⟩) fun QK =>
 aa Tryz.prog 183 #[(.pointer QK), (iV Hg)] sD (fun v32 uz =>
 cJ (some v32) fun t34 =>
 ∃ sW : Nat, (sW < ri) ∧
 I22 sW [(iV (IntKind.wrap .i64 (oS + 1)))] uz) Kp)
 (((0 : Int) ≤ 0) ∧
 ((0 : Int) < ((iA : Nat) : Int)) ∧
 aG AK fun Ec yu =>
 rI sD Ec (yu + 0) fun KJ =>
 K (.tuple #[(iV KJ), (.bool true)]) sD)) Kp) Kp) Kp)) Kp)) :
 aa Tryz.prog 133 ([.pointer (some ⟨b0, o0, none⟩), .pointer (some ⟨b1, o1, none⟩)] : List Value).toArray M K Kp :=
 az (C := Cx) good [(8, .bT [0, 1, 3, 7, 0, 0, 32, 112, 0, 256, 768, 1792, 3840, 0, 8192, 24576, 57344, 130816, 261888, 524032, 1048560, 2097151, 4194303] (.step 0 (.step 1 (.step 2 (.step 4 (.step 5 (.step 6 (.step 7 (.step 8 (.step 9 (.step 10 (.step 13 (.step 14 (.step 15 (.step 11 (.dJ 3 (.dJ 16 (.step 12 (.step 17 (.step 18 (.step 19 (.step 20 (.step 21 (.step 22 .done)))))))))))))))))))))))), (2000000, .loop [(56, .c (.int .i64))])] Tryz.func133 (by kernel_rfl) (by kernel_rfl) h
theorem qd {b0 o0 : Nat} {x1 : Int} {b2 o2 : Nat} (h :
rI M b0 o0 fun n1 =>
sT M b0 o0 (iV x1) fun M2 =>
aV (n1 == (-1))
 (K (iV 0) M2)
 (aa Tryz.prog 184 #[(.pointer (some ⟨b0, o0, none⟩)), (iV n1), (.pointer (some ⟨b2, o2, none⟩))] M2 (fun v3 M4 =>
 aK (some v3) .i64 fun n5 =>
 K (iV n5) M4) Kp)) :
 aa Tryz.prog 134 ([.pointer (some ⟨b0, o0, none⟩), .int .i64 x1, .pointer (some ⟨b2, o2, none⟩)] : List Value).toArray M K Kp :=
 az (C := Cx) good [] Tryz.func134 (by kernel_rfl) (by kernel_rfl) h
theorem wg {b0 o0 : Nat} (h :
rI M b0 (o0 + 2) fun n1 =>
aV (n1 == 0)
 (K (.tuple #[(iV 0), (.bool false)]) M)
 (rS M b0 o0 fun A2 k3 k4 =>
 rI M b0 (o0 + 1) fun n5 =>
 ((0 : Int) ≤ n5) ∧
 ((n5 : Int) < ((k3 : Nat) : Int)) ∧
 aG A2 fun k6 k7 =>
 rI M k6 (k7 + (Int.toNat n5)) fun n8 =>
 rI M b0 (o0 + 1) fun n9 =>
 rS M b0 o0 fun BY eL fU =>
 ((((eL : Nat) : Int) : Int) ≠ 0) ∧
 sT M b0 (o0 + 1) (iV (Int.tmod (IntKind.wrap .i64 (n9 + 1)) ((eL : Nat) : Int))) fun j7 =>
 rI j7 b0 (o0 + 2) fun jc =>
 sT j7 b0 (o0 + 2) (iV (IntKind.wrap .i64 (jc - 1))) fun oE =>
 K (.tuple #[(iV n8), (.bool true)]) oE)) :
 aa Tryz.prog 176 ([.pointer (some ⟨b0, o0, none⟩)] : List Value).toArray M K Kp :=
 az (C := Cx) good [(3, .bT [0, 1, 3, 7, 0, 16, 48, 112, 255, 511, 1023] (.step 0 (.step 1 (.step 2 (.step 4 (.step 5 (.step 6 (.step 3 (.step 7 (.step 8 (.step 9 (.step 10 .done)))))))))))), (4, .bT [0, 0, 2, 6, 14, 30, 0, 64, 192, 448, 960, 2046, 4095, 8191, 16383] (.step 0 (.step 1 (.step 2 (.step 3 (.step 6 (.step 7 (.step 8 (.step 4 (.step 5 (.step 9 (.step 10 (.step 11 (.step 12 (.step 13 (.step 14 .done))))))))))))))))] Tryz.func176 (by kernel_rfl) (by kernel_rfl) h
theorem rY {b0 o0 : Nat} {b1 o1 : Nat} (h :
rI M b0 o0 fun n1 =>
aV (n1 == (-1))
 (K (iV 0) M)
 (sT M b0 o0 (iV (-1)) fun M2 =>
 aa Tryz.prog 184 #[(.pointer (some ⟨b0, o0, none⟩)), (iV n1), (.pointer (some ⟨b1, o1, none⟩))] M2 (fun v3 M4 =>
 aK (some v3) .i64 fun n5 =>
 K (iV n5) M4) Kp)) :
 aa Tryz.prog 177 ([.pointer (some ⟨b0, o0, none⟩), .pointer (some ⟨b1, o1, none⟩)] : List Value).toArray M K Kp :=
 az (C := Cx) good [] Tryz.func177 (by kernel_rfl) (by kernel_rfl) h
theorem qe {b0 o0 : Nat} {x1 : Int} (h :
aD (Mem.ld M ⟨b0, o0, none⟩) fun A1 k2 k3 =>
be M (.cells #[] 3 (0, 0)) fun k4 M5 =>
aD (Mem.ld M5 ⟨b0, o0, none⟩) fun A6 k7 k8 =>
((0 : Int) ≤ ((k8 : Nat) : Int)) ∧
((((k8 : Nat) : Int) : Int) ≤ ((k8 : Nat) : Int)) ∧
((0 : Int) ≤ (if (((k2 : Nat) : Int) : Int) < (if (0 : Int) > x1 then 0 else x1) then ((k2 : Nat) : Int) else (if (0 : Int) > x1 then 0 else x1))) ∧
(((if (((k2 : Nat) : Int) : Int) < (if (0 : Int) > x1 then 0 else x1) then ((k2 : Nat) : Int) else (if (0 : Int) > x1 then 0 else x1)) : Int) ≤ ((k8 : Nat) : Int)) ∧
((0 : Int) ≤ 0) ∧
((0 : Int) ≤ (if (((k2 : Nat) : Int) : Int) < (if (0 : Int) > x1 then 0 else x1) then ((k2 : Nat) : Int) else (if (0 : Int) > x1 then 0 else x1))) ∧
aS Tryz.prog (Go.Builtin.append_ #[38, 38] 38 #[(.slice (some ⟨k4, 0, none⟩) 0 0), (.slice (lM A6 0 (Int.toNat ((k8 : Nat) : Int)) 1) ((Int.toNat (if (((k2 : Nat) : Int) : Int) < (if (0 : Int) > x1 then 0 else x1) then ((k2 : Nat) : Int) else (if (0 : Int) > x1 then 0 else x1))) - 0) ((Int.toNat ((k8 : Nat) : Int)) - 0))]) M5 (fun v9 gV =>
aD (some v9) fun Jr fU dm =>
be gV (.cells #[] 3 (0, 0)) fun gq oE =>
aD (Mem.ld oE ⟨b0, o0, none⟩) fun SZ eT en =>
((0 : Int) ≤ ((en : Nat) : Int)) ∧
((((en : Nat) : Int) : Int) ≤ ((en : Nat) : Int)) ∧
((0 : Int) ≤ ((eT : Nat) : Int)) ∧
((((eT : Nat) : Int) : Int) ≤ ((en : Nat) : Int)) ∧
((0 : Int) ≤ (if (((k2 : Nat) : Int) : Int) < (if (0 : Int) > x1 then 0 else x1) then ((k2 : Nat) : Int) else (if (0 : Int) > x1 then 0 else x1))) ∧
(((if (((k2 : Nat) : Int) : Int) < (if (0 : Int) > x1 then 0 else x1) then ((k2 : Nat) : Int) else (if (0 : Int) > x1 then 0 else x1)) : Int) ≤ ((eT : Nat) : Int)) ∧
aS Tryz.prog (Go.Builtin.append_ #[38, 38] 38 #[(.slice (some ⟨gq, 0, none⟩) 0 0), (.slice (lM SZ (Int.toNat (if (((k2 : Nat) : Int) : Int) < (if (0 : Int) > x1 then 0 else x1) then ((k2 : Nat) : Int) else (if (0 : Int) > x1 then 0 else x1))) (Int.toNat ((en : Nat) : Int)) 1) ((Int.toNat ((eT : Nat) : Int)) - (Int.toNat (if (((k2 : Nat) : Int) : Int) < (if (0 : Int) > x1 then 0 else x1) then ((k2 : Nat) : Int) else (if (0 : Int) > x1 then 0 else x1)))) ((Int.toNat ((en : Nat) : Int)) - (Int.toNat (if (((k2 : Nat) : Int) : Int) < (if (0 : Int) > x1 then 0 else x1) then ((k2 : Nat) : Int) else (if (0 : Int) > x1 then 0 else x1)))))]) oE (fun QO nU =>
aD (some QO) fun Dg gJ iY =>
aO nU ⟨b0, o0, none⟩ (.slice Dg gJ iY) fun iz =>
K (.slice Jr fU dm) iz) Kp) Kp) :
 aa Tryz.prog 178 ([.pointer (some ⟨b0, o0, none⟩), .int .i64 x1] : List Value).toArray M K Kp :=
 az (C := Cx) good [] Tryz.func178 (by kernel_rfl) (by kernel_rfl) h
theorem qf {b0 o0 : Nat} {b1 o1 : Nat} {x2 : Int} (h :
bO (Mem.ld M ⟨b0, (o0 + 1), none⟩) fun A1 =>
bO (Mem.ld M ⟨b0, (o0 + 1), none⟩) fun A2 =>
aa Tryz.prog 217 #[(.pointer (some ⟨b1, o1, none⟩))] M (fun v3 M4 =>
aK (some v3) .i64 fun n5 =>
((Mem.ld M4 ⟨b0, (o0 + 1), none⟩) = (some (.pointer A2))) ∧
((Mem.ld M4 ⟨b0, (o0 + 1), none⟩) = (some (.pointer A1))) ∧
(((if (1 : Int) > x2 then 1 else x2) : Int) ≠ 0) ∧
aa Tryz.prog 182 #[(.pointer A1)] M4 (fun v6 M7 =>
aK (some v6) .i64 fun n8 =>
((Mem.ld M7 ⟨b0, (o0 + 1), none⟩) = (some (.pointer A2))) ∧
((Mem.ld M7 ⟨b0, (o0 + 1), none⟩) = (some (.pointer A1))) ∧
aa Tryz.prog 180 #[(.pointer A2)] M7 (fun v9 gV =>
aK (some v9) .i64 fun fA =>
((Mem.ld gV ⟨b0, (o0 + 1), none⟩) = (some (.pointer A2))) ∧
((Mem.ld gV ⟨b0, (o0 + 1), none⟩) = (some (.pointer A1))) ∧
aV (decide ((x2 : Int) < 1))
 (aa Tryz.prog 178 #[(.pointer (some ⟨b1, o1, none⟩)), (iV 1)] gV (fun QI j7 =>
 aD (some QI) fun oF gj dO =>
 aV (((gj : Nat) : Int) == 0)
 (K (.tuple #[(iV (-1)), (.bool false)]) j7)
 (((0 : Int) ≤ ((dO : Nat) : Int)) ∧
 ((((dO : Nat) : Int) : Int) ≤ ((dO : Nat) : Int)) ∧
 ((0 : Int) ≤ ((gj : Nat) : Int)) ∧
 ((((gj : Nat) : Int) : Int) ≤ ((dO : Nat) : Int)) ∧
 ((0 : Int) ≤ 1) ∧
 ((1 : Int) ≤ ((gj : Nat) : Int)) ∧
 ∃ I17 : Nat → List Value → Mem → Prop, (∃ en : Nat, I17 en [(iV 0)] j7) ∧
 ∀ jd : Nat, ∀ junk20 : Nat → Value, ∀ nT : Int, ∀ cZ : Mem, (I17 jd [(iV nT)] cZ) → aV (decide ((nT : Int) < ((((Int.toNat ((gj : Nat) : Int)) - 1) : Nat) : Int)))
 (((0 : Int) ≤ nT) ∧
 ((nT : Int) < ((((Int.toNat ((gj : Nat) : Int)) - 1) : Nat) : Int)) ∧
 aG (lM oF 1 (Int.toNat ((dO : Nat) : Int)) 1) fun iY ri =>
 rI cZ iY (ri + (Int.toNat nT)) fun mJ =>
 bO (Mem.ld cZ ⟨b0, (o0 + 1), none⟩) fun Gk =>
 aa Tryz.prog 183 #[(.pointer Gk), (iV mJ)] cZ (fun NJ y7 =>
 cJ (some NJ) fun t29 =>
 ∃ lJ : Nat, (lJ < jd) ∧
 I17 lJ [(iV (IntKind.wrap .i64 (nT + 1)))] y7) Kp)
 (((0 : Int) ≤ 0) ∧
 ((0 : Int) < ((gj : Nat) : Int)) ∧
 aG oF fun nW tW =>
 rI cZ nW (tW + 0) fun lI =>
 K (.tuple #[(iV lI), (.bool true)]) cZ))) Kp)
 (aa Tryz.prog 178 #[(.pointer (some ⟨b1, o1, none⟩)), (iV (if ((IntKind.wrap .i64 ((IntKind.wrap .i64 (n8 - fA)) + 1)) : Int) < (IntKind.wrap .i64 ((IntKind.wrap .i64 (Int.tdiv n5 (if (1 : Int) > x2 then 1 else x2))) + 1)) then (IntKind.wrap .i64 ((IntKind.wrap .i64 (n8 - fA)) + 1)) else (IntKind.wrap .i64 ((IntKind.wrap .i64 (Int.tdiv n5 (if (1 : Int) > x2 then 1 else x2))) + 1))))] gV (fun v34 qP =>
 aD (some v34) fun S0 yu gZ =>
 aV (((yu : Nat) : Int) == 0)
 (K (.tuple #[(iV (-1)), (.bool false)]) qP)
 (((0 : Int) ≤ ((gZ : Nat) : Int)) ∧
 ((((gZ : Nat) : Int) : Int) ≤ ((gZ : Nat) : Int)) ∧
 ((0 : Int) ≤ ((yu : Nat) : Int)) ∧
 ((((yu : Nat) : Int) : Int) ≤ ((gZ : Nat) : Int)) ∧
 ((0 : Int) ≤ 1) ∧
 ((1 : Int) ≤ ((yu : Nat) : Int)) ∧
 ∃ I39 : Nat → List Value → Mem → Prop, (∃ AX : Nat, I39 AX [(iV 0)] qP) ∧
 ∀ NC : Nat, ∀ junk42 : Nat → Value, ∀ Ea : Int, ∀ xy : Mem, (I39 NC [(iV Ea)] xy) → aV (decide ((Ea : Int) < ((((Int.toNat ((yu : Nat) : Int)) - 1) : Nat) : Int)))
 (((0 : Int) ≤ Ea) ∧
 ((Ea : Int) < ((((Int.toNat ((yu : Nat) : Int)) - 1) : Nat) : Int)) ∧
 aG (lM S0 1 (Int.toNat ((gZ : Nat) : Int)) 1) fun Mi Jj =>
 rI xy Mi (Jj + (Int.toNat Ea)) fun BZ =>
 bO (Mem.ld xy ⟨b0, (o0 + 1), none⟩) fun Q1 =>
 aa Tryz.prog 183 #[(.pointer Q1), (iV BZ)] xy (fun Jk AH =>
 cJ (some Jk) fun t51 =>
 ∃ jX : Nat, (jX < NC) ∧
 I39 jX [(iV (IntKind.wrap .i64 (Ea + 1)))] AH) Kp)
 (((0 : Int) ≤ 0) ∧
 ((0 : Int) < ((yu : Nat) : Int)) ∧
 aG S0 fun jy De =>
 rI xy jy (De + 0) fun n55 =>
 K (.tuple #[(iV n55), (.bool true)]) xy))) Kp)) Kp) Kp) Kp) :
 aa Tryz.prog 179 ([.pointer (some ⟨b0, o0, none⟩), .pointer (some ⟨b1, o1, none⟩), .int .i64 x2] : List Value).toArray M K Kp :=
 az (C := Cx) good [(1, .bT [0, 1, 0, 4, 15, 31, 0, 64, 192, 448, 963, 0, 2048, 6144, 14336, 32707, 65475, 131011, 262143, 524287] (.step 0 (.step 2 (.step 3 (.step 6 (.step 7 (.step 8 (.step 11 (.step 12 (.step 13 (.dJ 9 (.dJ 14 (.step 1 (.step 4 (.step 5 (.step 10 (.step 15 (.step 16 (.step 17 (.step 18 (.step 19 .done))))))))))))))))))))), (2000000, .loop [(42, .c (.int .i64))])] Tryz.func179 (by kernel_rfl) (by kernel_rfl) h
theorem wh {b0 o0 : Nat} (h :
rI M b0 (o0 + 2) fun n1 =>
K (iV n1) M) :
 aa Tryz.prog 180 ([.pointer (some ⟨b0, o0, none⟩)] : List Value).toArray M K Kp :=
 az (C := Cx) good [] Tryz.func180 (by kernel_rfl) (by kernel_rfl) h
theorem uL {b0 o0 : Nat} {x1 : Int} (h :
∃ I1 : Nat → List Value → Mem → Prop, (∃ k2 : Nat, I1 k2 [(.slice none 0 0)] M) ∧
∀ k3 : Nat, ∀ uA : Nat → Value, ∀ A5 : Option Addr, ∀ k6 : Nat, ∀ k7 : Nat, ∀ M8 : Mem, (I1 k3 [(.slice A5 k6 k7)] M8) → aV (decide ((((k6 : Nat) : Int) : Int) < x1))
 (aa Tryz.prog 176 #[(.pointer (some ⟨b0, o0, none⟩))] M8 (fun v9 gV =>
 ∃ fA : Int, ∃ t12 : Bool, (v9 = (.tuple #[(iV fA), (.bool t12)])) ∧
 aV (!t12)
 (K (.slice A5 k6 k7) gV)
 (be gV (.cells #[(iV fA)] 3 (0, 0)) fun dm iC =>
 aS Tryz.prog (Go.Builtin.append_ #[38, 38] 38 #[(.slice A5 k6 k7), (.slice (some ⟨dm, 0, none⟩) 1 1)]) iC (fun Dh fh =>
 aD (some Dh) fun Mk en jd =>
 ∃ iA : Nat, (iA < k3) ∧
 I1 iA [(.slice Mk en jd)] fh) Kp)) Kp)
 (K (.slice A5 k6 k7) M8)) :
 aa Tryz.prog 181 ([.pointer (some ⟨b0, o0, none⟩), .int .i64 x1] : List Value).toArray M K Kp :=
 az (C := Cx) good [(2000000, .loop [(5, .c .sl)])] Tryz.func181 (by kernel_rfl) (by kernel_rfl) h
theorem uM {b0 o0 : Nat} (h :
rS M b0 o0 fun A1 k2 k3 =>
K (iV ((k2 : Nat) : Int)) M) :
 aa Tryz.prog 182 ([.pointer (some ⟨b0, o0, none⟩)] : List Value).toArray M K Kp :=
 az (C := Cx) good [] Tryz.func182 (by kernel_rfl) (by kernel_rfl) h
theorem uN {b0 o0 : Nat} {x1 : Int} (h :
rI M b0 (o0 + 2) fun n1 =>
rS M b0 o0 fun A2 k3 k4 =>
aV (n1 == ((k3 : Nat) : Int))
 (K (.bool false) M)
 (rS M b0 o0 fun A5 k6 k7 =>
 rI M b0 (o0 + 1) fun n8 =>
 rI M b0 (o0 + 2) fun n9 =>
 rS M b0 o0 fun BY eL fU =>
 ((((eL : Nat) : Int) : Int) ≠ 0) ∧
 ((0 : Int) ≤ (Int.tmod (IntKind.wrap .i64 (n8 + n9)) ((eL : Nat) : Int))) ∧
 (((Int.tmod (IntKind.wrap .i64 (n8 + n9)) ((eL : Nat) : Int)) : Int) < ((k6 : Nat) : Int)) ∧
 aG A5 fun dm gq =>
 sT M dm (gq + (Int.toNat (Int.tmod (IntKind.wrap .i64 (n8 + n9)) ((eL : Nat) : Int)))) (iV x1) fun oE =>
 rI oE b0 (o0 + 2) fun mB =>
 sT oE b0 (o0 + 2) (iV (IntKind.wrap .i64 (mB + 1))) fun j8 =>
 K (.bool true) j8)) :
 aa Tryz.prog 183 ([.pointer (some ⟨b0, o0, none⟩), .int .i64 x1] : List Value).toArray M K Kp :=
 az (C := Cx) good [(1, .bT [0, 1, 3, 7, 0, 16, 48, 112, 240, 511] (.step 0 (.step 1 (.step 2 (.step 4 (.step 5 (.step 6 (.step 3 (.step 7 (.step 8 (.step 9 .done))))))))))), (3, .bT [0, 1, 3, 7, 0, 16, 48, 112, 0, 256, 768, 1792, 4080, 0, 8192, 24576, 57344, 122880, 262128, 0, 1048575, 2097151] (.step 0 (.step 1 (.step 2 (.step 4 (.step 5 (.step 6 (.step 8 (.step 9 (.step 10 (.step 13 (.step 14 (.step 15 (.step 19 (.step 3 (.step 7 (.step 11 (.step 12 (.step 16 (.step 17 (.step 18 (.step 20 (.step 21 .done)))))))))))))))))))))))] Tryz.func183 (by kernel_rfl) (by kernel_rfl) h
theorem tB {b0 o0 : Nat} {x1 : Int} {b2 o2 : Nat} (h :
bO (Mem.ld M ⟨b0, (o0 + 1), none⟩) fun A1 =>
aa Tryz.prog 183 #[(.pointer A1), (iV x1)] M (fun v2 M3 =>
cJ (some v2) fun t4 =>
aV t4
 (K (iV 0) M3)
 (bO (Mem.ld M3 ⟨b0, (o0 + 1), none⟩) fun A5 =>
 bO (Mem.ld M3 ⟨b0, (o0 + 1), none⟩) fun A6 =>
 (True) ∧
 aa Tryz.prog 180 #[(.pointer A5)] M3 (fun v7 M8 =>
 aK (some v7) .i64 fun n9 =>
 ((Mem.ld M8 ⟨b0, (o0 + 1), none⟩) = (some (.pointer A6))) ∧
 ((2 : Int) ≠ 0) ∧
 (True) ∧
 aa Tryz.prog 181 #[(.pointer A6), (iV (IntKind.wrap .i64 (Int.tdiv n9 2)))] M8 (fun v10 hH =>
 aD (some v10) fun sE dm gq =>
 ((Mem.ld hH ⟨b0, (o0 + 1), none⟩) = (some (.pointer A6))) ∧
 be hH (.cells #[(iV x1)] 3 (0, 0)) fun gj fh =>
 aS Tryz.prog (Go.Builtin.append_ #[38, 38] 38 #[(.slice sE dm gq), (.slice (some ⟨gj, 0, none⟩) 1 1)]) fh (fun Uj mZ =>
 aD (some Uj) fun AK iA fC =>
 ((Mem.ld mZ ⟨b0, (o0 + 1), none⟩) = (some (.pointer A6))) ∧
 aa Tryz.prog 53 #[(.pointer (some ⟨b2, o2, none⟩)), (.slice AK iA fC)] mZ (fun G3 lg =>
 (G3 = (.tuple #[])) ∧
 K (iV ((iA : Nat) : Int)) lg) Kp) Kp) Kp) Kp)) Kp) :
 aa Tryz.prog 184 ([.pointer (some ⟨b0, o0, none⟩), .int .i64 x1, .pointer (some ⟨b2, o2, none⟩)] : List Value).toArray M K Kp :=
 az (C := Cx) good [(3, .bT [0, 1, 3, 7, 0, 16, 48, 112, 240, 496, 1023, 0, 2048, 8191, 16383] (.step 0 (.step 1 (.step 2 (.step 4 (.step 5 (.step 6 (.step 11 (.step 7 (.dJ 3 (.late 8 (.step 9 (.late 10 (.step 12 (.step 13 (.step 14 .done))))))))))))))))] Tryz.func184 (by kernel_rfl) (by kernel_rfl) h
theorem rZ {b0 o0 : Nat} (h :
aD (Mem.ld M ⟨b0, o0, none⟩) fun A1 k2 k3 =>
K (.int .i64 ((k2 : Nat) : Int)) M) :
 aa Tryz.prog 217 ([.pointer (some ⟨b0, o0, none⟩)] : List Value).toArray M K Kp :=
 az (C := Cx) good [] Tryz.func217 (by kernel_rfl) (by kernel_rfl) h
end Go.Proofs
