/- A part of proofs about one program. -/
import Derived.Recover
import Derived.Scope
import Derived.Test.YtfjgcljdnhkmaaaGreatProg
import Derived.WalkKit
import Derived.Test.YtfjgcljdnhkmaaaGreatZSchedLostBase
import Derived.Test.YtfjgcljdnhkmaaaGreatZSchedLostOps
import Derived.Test.YtfjgcljdnhkmaaaGreatZSchedLostOpsB
import Derived.Test.YtfjgcljdnhkmaaaGreatZSchedLostOpC
import Derived.Test.YtfjgcljdnhkmaaaGreatZSchedLostFrame
import Derived.Test.YtfjgcljdnhkmaaaGreatZSchedLostReg
import Derived.Test.YtfjgcljdnhkmaaaGreatZSchedLostRegB
import Derived.Test.YtfjgcljdnhkmaaaGreatZSchedLostRegL
import Derived.Test.YtfjgcljdnhkmaaaGreatZSchedLostRegC
import Derived.Test.YtfjgcljdnhkmaaaGreatZSchedLostExec
import Derived.Test.YtfjgcljdnhkmaaaGreatZSchedLostSound
import Derived.Test.YtfjgcljdnhkmaaaGreatZSchedLostSoundB
import Derived.Test.YtfjgcljdnhkmaaaGreatZSchedLostLib
import Derived.Test.YtfjgcljdnhkmaaaGreatZSchedLostHp
import Derived.Test.YtfjgcljdnhkmaaaGreatZSchedLostRow
import Derived.Test.YtfjgcljdnhkmaaaGreatZSchedLostBig
import Derived.Test.YtfjgcljdnhkmaaaGreatZSchedLostStC
import Derived.Test.YtfjgcljdnhkmaaaGreatZSchedLostMod
import Derived.Test.YtfjgcljdnhkmaaaGreatZSchedLostDefer
import Derived.Test.YtfjgcljdnhkmaaaGreatZSchedLostDefer2
import Derived.Test.YtfjgcljdnhkmaaaGreatZSchedLost0
import Derived.Test.YtfjgcljdnhkmaaaGreatZSchedLost1
set_option linter.unusedVariables false
namespace Go.Proofs
open Go.AF
set_option maxRecDepth 100000
theorem uj {b0 o0 : Nat} {x1 : Int} {M : Mem} {K : Value → Mem → Prop} {Kp : List PanicEntry → Mem → Prop} (h :
rS M b0 (o0 + 4) fun A1 k2 k3 =>
((0 : Int) ≤ x1) ∧
((x1 : Int) < ((k2 : Nat) : Int)) ∧
aI A1 fun k4 k5 =>
bL (Mem.ld M ⟨k4, (k5 + (Int.toNat x1)), none⟩) fun A6 =>
aI A6 fun k7 k8 =>
rS M k7 (k8 + 1) fun A9 eA eB =>
ae Tryz.prog 120 #[(.slice A9 eA eB)] M (fun Pn jN =>
bL (some Pn) fun nY =>
aI nY fun fT dF =>
rS jN b0 o0 fun KT dS iO =>
rI jN fT dF fun fq =>
((0 : Int) ≤ fq) ∧
((fq : Int) < ((dS : Nat) : Int)) ∧
aI KT fun fa gz =>
rS jN fa (gz + (Int.toNat fq)) fun OL qF sw =>
aI nY fun lC oh =>
rI jN lC (oh + 1) fun wm =>
aV (decide ((wm : Int) ≥ ((qF : Nat) : Int)))
 (cw Tryz.prog 119 (.pointer (some ⟨b0, o0, none⟩)) K Kp (.bool false) (.panicking [{ v := (.iface 256 (iV (-7))), recovered := false }]) jN)
 (aI nY fun jZ kZ =>
 rI jN jZ (kZ + 1) fun tv =>
 ((0 : Int) ≤ tv) ∧
 ((tv : Int) < ((qF : Nat) : Int)) ∧
 aI OL fun tw nE =>
 rI jN tw (nE + ((Int.toNat tv) * 4)) fun Ps =>
 rI jN tw ((nE + ((Int.toNat tv) * 4)) + 1) fun KW =>
 rI jN tw ((nE + ((Int.toNat tv) * 4)) + 2) fun xB =>
 rI jN tw ((nE + ((Int.toNat tv) * 4)) + 3) fun Md =>
 bj jN (.cells #[(iV 0), (iV 0), (iV 0), (iV 0)] 34 (0, 0)) fun gL V5 =>
 sT V5 gL 0 (iV Ps) fun Pw =>
 sT Pw gL 1 (iV KW) fun wZ =>
 sT wZ gL 2 (iV xB) fun JG =>
 sT JG gL 3 (iV Md) fun tZ =>
 rI tZ gL 0 fun Df =>
 rI tZ gL 1 fun uN =>
 rI tZ gL 2 fun Ba =>
 rI tZ gL 3 fun AV =>
 ae Tryz.prog 121 #[(.pointer nY), (.agg #[(iV Df), (iV uN), (iV Ba), (iV AV)])] tZ (fun ZA xy =>
 cD (some ZA) fun t50 =>
 aV t50
 (rI xy gL 0 fun zY =>
 aV (zY == 12)
 (cw Tryz.prog 119 (.pointer (some ⟨b0, o0, none⟩)) K Kp (.bool true) .returning xy)
 (rI xy gL 0 fun Xh =>
 cw Tryz.prog 119 (.pointer (some ⟨b0, o0, none⟩)) K Kp (.bool (Xh == 17)) .returning xy))
 (rI xy gL 0 fun Xl =>
 aV (Xl == 16)
 (rI xy gL 0 fun Xm =>
 rI xy gL 1 fun n55 =>
 rI xy gL 2 fun Dh =>
 rI xy gL 3 fun S2 =>
 ae Tryz.prog 122 #[(.pointer (some ⟨b0, o0, none⟩)), (iV x1), (.pointer nY), (.agg #[(iV Xm), (iV n55), (iV Dh), (iV S2)])] xy (fun v58 xD =>
 (v58 = (.tuple #[])) ∧
 rI xD gL 0 fun HY =>
 aV (HY == 12)
 (cw Tryz.prog 119 (.pointer (some ⟨b0, o0, none⟩)) K Kp (.bool true) .returning xD)
 (rI xD gL 0 fun JA =>
 cw Tryz.prog 119 (.pointer (some ⟨b0, o0, none⟩)) K Kp (.bool (JA == 17)) .returning xD)) (fun l62 wk => cw Tryz.prog 119 (.pointer (some ⟨b0, o0, none⟩)) K Kp (.bool false) (.panicking l62) wk))
 (rI xy gL 0 fun n64 =>
 aV (n64 == 21)
 (rI xy gL 0 fun vg =>
 rI xy gL 1 fun SL =>
 rI xy gL 2 fun Xi =>
 rI xy gL 3 fun H9 =>
 ae Tryz.prog 123 #[(.pointer (some ⟨b0, o0, none⟩)), (iV x1), (.pointer nY), (.agg #[(iV vg), (iV SL), (iV Xi), (iV H9)])] xy (fun Xj zF =>
 (Xj = (.tuple #[])) ∧
 rI zF gL 0 fun V4 =>
 aV (V4 == 12)
 (cw Tryz.prog 119 (.pointer (some ⟨b0, o0, none⟩)) K Kp (.bool true) .returning zF)
 (rI zF gL 0 fun Xk =>
 cw Tryz.prog 119 (.pointer (some ⟨b0, o0, none⟩)) K Kp (.bool (Xk == 17)) .returning zF)) (fun l73 Bd => cw Tryz.prog 119 (.pointer (some ⟨b0, o0, none⟩)) K Kp (.bool false) (.panicking l73) Bd))
 (aI nY fun V9 RE =>
 rI xy V9 (RE + 1) fun DY =>
 aI nY fun JJ Fm =>
 sT xy JJ (Fm + 1) (iV (IntKind.wrap .i64 (DY + 1))) fun xC =>
 rI xC gL 0 fun RF =>
 rI xC gL 0 fun HZ =>
 rI xC gL 1 fun Ro =>
 rI xC gL 2 fun JB =>
 rI xC gL 3 fun z8 =>
 ae Tryz.prog 124 #[] xC (fun v86 zG =>
 ((Mem.fy zG ⟨gL, 0, none⟩ 0 4) = some [(iV HZ), (iV Ro), (iV JB), (iV z8)]) ∧
 ((Mem.ld zG ⟨gL, 0, none⟩) = (some (iV RF))) ∧
 aS Tryz.prog (Go.Instr.lookup 261 v86 (iV RF) false) zG (fun v88 Cl =>
 ((Mem.fy Cl ⟨gL, 0, none⟩ 0 4) = some [(iV HZ), (iV Ro), (iV JB), (iV z8)]) ∧
 ((Mem.ld Cl ⟨gL, 0, none⟩) = (some (iV RF))) ∧
 iu Cx v88 [(.pointer (some ⟨b0, o0, none⟩)), (iV x1), (.pointer nY), (.agg #[(iV HZ), (iV Ro), (iV JB), (iV z8)])] Cl (fun Mv jK =>
 (Mv = (.tuple #[])) ∧
 ((Mem.fy jK ⟨gL, 0, none⟩ 0 4) = some [(iV HZ), (iV Ro), (iV JB), (iV z8)]) ∧
 ((Mem.ld jK ⟨gL, 0, none⟩) = (some (iV RF))) ∧
 rI jK gL 0 fun n92 =>
 aV (n92 == 12)
 (cw Tryz.prog 119 (.pointer (some ⟨b0, o0, none⟩)) K Kp (.bool true) .returning jK)
 (rI jK gL 0 fun Uv =>
 cw Tryz.prog 119 (.pointer (some ⟨b0, o0, none⟩)) K Kp (.bool (Uv == 17)) .returning jK)) (fun l94 Ee => cw Tryz.prog 119 (.pointer (some ⟨b0, o0, none⟩)) K Kp (.bool false) (.panicking l94) Ee)) (fun l96 K0 => cw Tryz.prog 119 (.pointer (some ⟨b0, o0, none⟩)) K Kp (.bool false) (.panicking l96) K0)) (fun l98 S6 => cw Tryz.prog 119 (.pointer (some ⟨b0, o0, none⟩)) K Kp (.bool false) (.panicking l98) S6))))) (fun l100 gF => cw Tryz.prog 119 (.pointer (some ⟨b0, o0, none⟩)) K Kp (.bool false) (.panicking l100) gF))) (fun l102 Gf => cw Tryz.prog 119 (.pointer (some ⟨b0, o0, none⟩)) K Kp (.bool false) (.panicking l102) Gf)) :
 ae Tryz.prog 88 ([.pointer (some ⟨b0, o0, none⟩), .int .i64 x1] : List Value).toArray M K Kp :=
 wV (C := Cx) good (s := 0) (d := 8) (g := 119) (r := 4) [(3, .bS [0, 1, 3, 7, 15, 0, 32, 96, 224, 511, 1023, 2047] (.step 0 (.step 1 (.step 2 (.step 3 (.step 5 (.step 6 (.step 7 (.step 4 (.step 8 (.step 9 (.step 10 (.step 11 .done))))))))))))), (8, .bS [0, 0, 2, 7, 0, 0, 0, 0, 255] (.step 1 (.step 4 (.step 5 (.step 6 (.dx 2 (.dx 7 (.step 0 (.step 3 (.step 8 .done))))))))))] Tryz.func88 rfl rfl (by decide) (by kernel_rfl) (by kernel_rfl) h
theorem Eh {b o : Nat} {v : Value} {M : Mem} {K : Value → Mem → Prop} {Kp : List PanicEntry → Mem → Prop} (h : K v M) : cw Tryz.prog 119 (.pointer (some ⟨b, o, none⟩)) K Kp v .returning M :=
 fC (C := Cx) good (args := [.pointer (some ⟨b, o, none⟩)]) (d := 5) (x := .nilIface) (u' := .returning) [] Tryz.func119 rfl rfl (by kernel_rfl) rfl (by kernel_rfl) (vc := K v M) h
theorem GB {b o : Nat} {n : Int} {v : Value} {M : Mem} {K : Value → Mem → Prop} {Kp : List PanicEntry → Mem → Prop} (h :
 aO M ⟨b, (o + 11), none⟩ (.int .i64 2) fun M1 => aO M1 ⟨b, (o + 12), none⟩ (.int .i64 n) fun M2 => K v M2) :
  cw Tryz.prog 119 (.pointer (some ⟨b, o, none⟩)) K Kp v (.panicking [{ v := .iface 256 (.int .i64 n), recovered := false }]) M :=
 fC (C := Cx) good (args := [.pointer (some ⟨b, o, none⟩)]) (d := 5) (x := .iface 256 (.int .i64 n)) (u' := .panicking [{ v := .iface 256 (.int .i64 n), recovered := true }]) [] Tryz.func119 rfl rfl (by kernel_rfl) rfl (by kernel_rfl) h
theorem J1 {b o : Nat} {w v : Value} {M : Mem} {K : Value → Mem → Prop} {Kp : List PanicEntry → Mem → Prop} (h : Kp [{ v := .iface 227 w, recovered := false }, { v := .iface 227 w, recovered := true }] M) :
  cw Tryz.prog 119 (.pointer (some ⟨b, o, none⟩)) K Kp v (.panicking [{ v := .iface 227 w, recovered := false }]) M :=
 fC (C := Cx) good (args := [.pointer (some ⟨b, o, none⟩)]) (d := 5) (x := .iface 227 w) (u' := .panicking [{ v := .iface 227 w, recovered := true }]) [] Tryz.func119 rfl rfl (by kernel_rfl) rfl (by kernel_rfl) (vc := Kp [{ v := .iface 227 w, recovered := false }, { v := .iface 227 w, recovered := true }] M) h
theorem CI {b o : Nat} {w v : Value} {M : Mem} {K : Value → Mem → Prop} {Kp : List PanicEntry → Mem → Prop} (h : Kp [{ v := .iface 155 w, recovered := false }, { v := .iface 155 w, recovered := true }] M) :
  cw Tryz.prog 119 (.pointer (some ⟨b, o, none⟩)) K Kp v (.panicking [{ v := .iface 155 w, recovered := false }]) M :=
 fC (C := Cx) good (args := [.pointer (some ⟨b, o, none⟩)]) (d := 5) (x := .iface 155 w) (u' := .panicking [{ v := .iface 155 w, recovered := true }]) [] Tryz.func119 rfl rfl (by kernel_rfl) rfl (by kernel_rfl) (vc := Kp [{ v := .iface 155 w, recovered := false }, { v := .iface 155 w, recovered := true }] M) h
end Go.Proofs
namespace Go.Proofs
open Go.AF
set_option maxRecDepth 100000
theorem vz {x0 : Value} {b1 o1 b2 o2 : Nat} {M : Mem} {K : Value → Mem → Prop} {Kp : List PanicEntry → Mem → Prop} (h :
bj M (.cells #[(.pointer (some ⟨b1, o1, none⟩))] 229 (0, 0)) fun k1 M2 =>
bj M2 (.cells #[(.pointer (some ⟨b2, o2, none⟩))] 230 (0, 0)) fun k3 M4 =>
iu Cx x0 [] M4 (fun v5 M6 =>
(v5 = (.tuple #[])) ∧
jG Tryz.prog 135 [(.pointer (some ⟨k1, 0, none⟩)), (.pointer (some ⟨k3, 0, none⟩))] K Kp (.tuple #[]) .returning M6) (fun l7 M8 => jG Tryz.prog 135 [(.pointer (some ⟨k1, 0, none⟩)), (.pointer (some ⟨k3, 0, none⟩))] K Kp (.tuple #[]) (.panicking l7) M8)) :
 ae Tryz.prog 104 ([x0, .pointer (some ⟨b1, o1, none⟩), .pointer (some ⟨b2, o2, none⟩)] : List Value).toArray M K Kp :=
 ve (C := Cx) good (s1 := 4) (s2 := 5) (d := 6) (g := 135) (r := 0) [] Tryz.func104 rfl rfl (by decide) (by kernel_rfl) (by kernel_rfl) h
theorem J2 {c1 c2 : Nat} {v : Value} {M : Mem} {K : Value → Mem → Prop} {Kp : List PanicEntry → Mem → Prop} (h : K v M) : jG Tryz.prog 135 [.pointer (some ⟨c1, 0, none⟩), .pointer (some ⟨c2, 0, none⟩)] K Kp v .returning M :=
 fC (C := Cx) good (args := [.pointer (some ⟨c1, 0, none⟩), .pointer (some ⟨c2, 0, none⟩)]) (d := 6) (x := .nilIface) (u' := .returning) [(10, .bS [0, 0, 0, 3, 11, 31, 63] (.step 0 (.step 1 (.step 3 (.dx 2 (.step 4 (.step 5 (.step 6 .done))))))))] Tryz.func135 rfl rfl (by kernel_rfl) rfl (by kernel_rfl) (vc := K v M) h
theorem GC {c1 c2 : Nat} {v : Value} {M : Mem} {K : Value → Mem → Prop} {Kp : List PanicEntry → Mem → Prop} (h :
bj M (.cells #[] 227 (0, 0)) fun k1 M2 =>
bL (Mem.ld M2 ⟨c1, 0, none⟩) fun A3 =>
aI A3 fun k4 k5 =>
aO M2 ⟨k4, k5, none⟩ (.int .i64 1) fun M6 =>
K v M6) :
  jG Tryz.prog 135 [.pointer (some ⟨c1, 0, none⟩), .pointer (some ⟨c2, 0, none⟩)] K Kp v (.panicking [{ v := .iface 227 (.agg #[]), recovered := false }]) M :=
 fC (C := Cx) good (args := [.pointer (some ⟨c1, 0, none⟩), .pointer (some ⟨c2, 0, none⟩)]) (d := 6) (x := .iface 227 (.agg #[])) (u' := .panicking [{ v := .iface 227 (.agg #[]), recovered := true }]) [(10, .bS [0, 0, 0, 3, 11, 31, 63] (.step 0 (.step 1 (.step 3 (.dx 2 (.step 4 (.step 5 (.step 6 .done))))))))] Tryz.func135 rfl rfl (by kernel_rfl) rfl (by kernel_rfl) h
theorem Ei {c1 c2 : Nat} {v : Value} {M : Mem} {K : Value → Mem → Prop} {Kp : List PanicEntry → Mem → Prop} (h :
bj M (.cells #[] 227 (0, 0)) fun k1 M2 =>
bL (Mem.ld M2 ⟨c1, 0, none⟩) fun A3 =>
aI A3 fun k4 k5 =>
aO M2 ⟨k4, k5, none⟩ (.int .i64 1) fun M6 =>
K v M6) :
  jG Tryz.prog 135 [.pointer (some ⟨c1, 0, none⟩), .pointer (some ⟨c2, 0, none⟩)] K Kp v (.panicking [{ v := .iface 227 (.agg #[]), recovered := false }, { v := .iface 227 (.agg #[]), recovered := true }]) M :=
 fC (C := Cx) good (args := [.pointer (some ⟨c1, 0, none⟩), .pointer (some ⟨c2, 0, none⟩)]) (d := 6) (x := .iface 227 (.agg #[])) (u' := .panicking [{ v := .iface 227 (.agg #[]), recovered := true }, { v := .iface 227 (.agg #[]), recovered := true }]) [(10, .bS [0, 0, 0, 3, 11, 31, 63] (.step 0 (.step 1 (.step 3 (.dx 2 (.step 4 (.step 5 (.step 6 .done))))))))] Tryz.func135 rfl rfl (by kernel_rfl) rfl (by kernel_rfl) h
theorem Ak {c1 c2 : Nat} {at_ kind n k x : Int} {v : Value} {M : Mem} {K : Value → Mem → Prop} {Kp : List PanicEntry → Mem → Prop} (h :
bj M (.cells #[(.int .i64 0), (.int .i64 0), (.int .i64 0), (.int .i64 0), (.int .u64 0)] 155 (0, 0)) fun k1 M2 =>
aO M2 ⟨k1, 0, none⟩ (.int .i64 at_) fun M3 =>
aO M3 ⟨k1, (0 + 1), none⟩ (.int .i64 kind) fun M4 =>
aO M4 ⟨k1, (0 + 2), none⟩ (.int .i64 n) fun M5 =>
aO M5 ⟨k1, (0 + 3), none⟩ (.int .i64 k) fun M6 =>
aO M6 ⟨k1, (0 + 4), none⟩ (.int .u64 x) fun M7 =>
bL (Mem.ld M7 ⟨c1, 0, none⟩) fun A8 =>
bL (Mem.ld M7 ⟨c2, 0, none⟩) fun A9 =>
aI A8 fun eA eB =>
aK (Mem.ld M7 ⟨k1, 0, none⟩) .i64 fun jf =>
aK (Mem.ld M7 ⟨k1, (0 + 1), none⟩) .i64 fun jg =>
aK (Mem.ld M7 ⟨k1, (0 + 2), none⟩) .i64 fun je =>
aK (Mem.ld M7 ⟨k1, (0 + 3), none⟩) .i64 fun jY =>
aK (Mem.ld M7 ⟨k1, (0 + 4), none⟩) .u64 fun mz =>
aO M7 ⟨eA, eB, none⟩ (.int .i64 2) fun jO =>
((Mem.fy jO ⟨k1, 0, none⟩ 0 5) = some [(.int .i64 jf), (.int .i64 jg), (.int .i64 je), (.int .i64 jY), (.int .u64 mz)]) ∧
aI A9 fun dS iO =>
aO jO ⟨dS, iO, none⟩ (.int .i64 jf) fun nx =>
aO nx ⟨dS, (iO + 1), none⟩ (.int .i64 jg) fun iP =>
aO iP ⟨dS, (iO + 2), none⟩ (.int .i64 je) fun cR =>
aO cR ⟨dS, (iO + 3), none⟩ (.int .i64 jY) fun kL =>
aO kL ⟨dS, (iO + 4), none⟩ (.int .u64 mz) fun ie =>
((Mem.fy ie ⟨k1, 0, none⟩ 0 5) = some [(.int .i64 jf), (.int .i64 jg), (.int .i64 je), (.int .i64 jY), (.int .u64 mz)]) ∧
K v ie) :
  jG Tryz.prog 135 [.pointer (some ⟨c1, 0, none⟩), .pointer (some ⟨c2, 0, none⟩)] K Kp v (.panicking [{ v := .iface 155 (.agg #[.int .i64 at_, .int .i64 kind, .int .i64 n, .int .i64 k, .int .u64 x]), recovered := false }]) M :=
 fC (C := Cx) good (args := [.pointer (some ⟨c1, 0, none⟩), .pointer (some ⟨c2, 0, none⟩)]) (d := 6) (x := .iface 155 (.agg #[.int .i64 at_, .int .i64 kind, .int .i64 n, .int .i64 k, .int .u64 x])) (u' := .panicking [{ v := .iface 155 (.agg #[.int .i64 at_, .int .i64 kind, .int .i64 n, .int .i64 k, .int .u64 x]), recovered := true }]) [(10, .bS [0, 0, 0, 3, 11, 31, 63] (.step 0 (.step 1 (.step 3 (.dx 2 (.step 4 (.step 5 (.step 6 .done))))))))] Tryz.func135 rfl rfl (by kernel_rfl) rfl (by kernel_rfl) h
theorem yN {c1 c2 : Nat} {at_ kind n k x : Int} {v : Value} {M : Mem} {K : Value → Mem → Prop} {Kp : List PanicEntry → Mem → Prop} (h :
bj M (.cells #[(.int .i64 0), (.int .i64 0), (.int .i64 0), (.int .i64 0), (.int .u64 0)] 155 (0, 0)) fun k1 M2 =>
aO M2 ⟨k1, 0, none⟩ (.int .i64 at_) fun M3 =>
aO M3 ⟨k1, (0 + 1), none⟩ (.int .i64 kind) fun M4 =>
aO M4 ⟨k1, (0 + 2), none⟩ (.int .i64 n) fun M5 =>
aO M5 ⟨k1, (0 + 3), none⟩ (.int .i64 k) fun M6 =>
aO M6 ⟨k1, (0 + 4), none⟩ (.int .u64 x) fun M7 =>
bL (Mem.ld M7 ⟨c1, 0, none⟩) fun A8 =>
bL (Mem.ld M7 ⟨c2, 0, none⟩) fun A9 =>
aI A8 fun eA eB =>
aK (Mem.ld M7 ⟨k1, 0, none⟩) .i64 fun jf =>
aK (Mem.ld M7 ⟨k1, (0 + 1), none⟩) .i64 fun jg =>
aK (Mem.ld M7 ⟨k1, (0 + 2), none⟩) .i64 fun je =>
aK (Mem.ld M7 ⟨k1, (0 + 3), none⟩) .i64 fun jY =>
aK (Mem.ld M7 ⟨k1, (0 + 4), none⟩) .u64 fun mz =>
aO M7 ⟨eA, eB, none⟩ (.int .i64 2) fun jO =>
((Mem.fy jO ⟨k1, 0, none⟩ 0 5) = some [(.int .i64 jf), (.int .i64 jg), (.int .i64 je), (.int .i64 jY), (.int .u64 mz)]) ∧
aI A9 fun dS iO =>
aO jO ⟨dS, iO, none⟩ (.int .i64 jf) fun nx =>
aO nx ⟨dS, (iO + 1), none⟩ (.int .i64 jg) fun iP =>
aO iP ⟨dS, (iO + 2), none⟩ (.int .i64 je) fun cR =>
aO cR ⟨dS, (iO + 3), none⟩ (.int .i64 jY) fun kL =>
aO kL ⟨dS, (iO + 4), none⟩ (.int .u64 mz) fun ie =>
((Mem.fy ie ⟨k1, 0, none⟩ 0 5) = some [(.int .i64 jf), (.int .i64 jg), (.int .i64 je), (.int .i64 jY), (.int .u64 mz)]) ∧
K v ie) :
  jG Tryz.prog 135 [.pointer (some ⟨c1, 0, none⟩), .pointer (some ⟨c2, 0, none⟩)] K Kp v (.panicking [{ v := .iface 155 (.agg #[.int .i64 at_, .int .i64 kind, .int .i64 n, .int .i64 k, .int .u64 x]), recovered := false }, { v := .iface 155 (.agg #[.int .i64 at_, .int .i64 kind, .int .i64 n, .int .i64 k, .int .u64 x]), recovered := true }]) M :=
 fC (C := Cx) good (args := [.pointer (some ⟨c1, 0, none⟩), .pointer (some ⟨c2, 0, none⟩)]) (d := 6) (x := .iface 155 (.agg #[.int .i64 at_, .int .i64 kind, .int .i64 n, .int .i64 k, .int .u64 x])) (u' := .panicking [{ v := .iface 155 (.agg #[.int .i64 at_, .int .i64 kind, .int .i64 n, .int .i64 k, .int .u64 x]), recovered := true }, { v := .iface 155 (.agg #[.int .i64 at_, .int .i64 kind, .int .i64 n, .int .i64 k, .int .u64 x]), recovered := true }]) [(10, .bS [0, 0, 0, 3, 11, 31, 63] (.step 0 (.step 1 (.step 3 (.dx 2 (.step 4 (.step 5 (.step 6 .done))))))))] Tryz.func135 rfl rfl (by kernel_rfl) rfl (by kernel_rfl) h
end Go.Proofs
