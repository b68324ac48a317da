/- A part of proofs about one program. -/
import Derived.Recover
import Derived.Scope
import Derived.Test.YtfjgcljdnhkmaaaGreatProg
import Derived.WalkKit
import Derived.Test.YtfjgcljdnhkmaaaGreatZSchedAgainBase
import Derived.Test.YtfjgcljdnhkmaaaGreatZSchedAgainOps
import Derived.Test.YtfjgcljdnhkmaaaGreatZSchedAgainOpsB
import Derived.Test.YtfjgcljdnhkmaaaGreatZSchedAgainOpC
import Derived.Test.YtfjgcljdnhkmaaaGreatZSchedAgainFrame
import Derived.Test.YtfjgcljdnhkmaaaGreatZSchedAgainReg
import Derived.Test.YtfjgcljdnhkmaaaGreatZSchedAgainRegB
import Derived.Test.YtfjgcljdnhkmaaaGreatZSchedAgainRegL
import Derived.Test.YtfjgcljdnhkmaaaGreatZSchedAgainRegC
import Derived.Test.YtfjgcljdnhkmaaaGreatZSchedAgainExec
import Derived.Test.YtfjgcljdnhkmaaaGreatZSchedAgainSound
import Derived.Test.YtfjgcljdnhkmaaaGreatZSchedAgainSoundB
import Derived.Test.YtfjgcljdnhkmaaaGreatZSchedAgainLib
import Derived.Test.YtfjgcljdnhkmaaaGreatZSchedAgainHp
import Derived.Test.YtfjgcljdnhkmaaaGreatZSchedAgainRow
import Derived.Test.YtfjgcljdnhkmaaaGreatZSchedAgainBig
import Derived.Test.YtfjgcljdnhkmaaaGreatZSchedAgainStC
import Derived.Test.YtfjgcljdnhkmaaaGreatZSchedAgainMod
import Derived.Test.YtfjgcljdnhkmaaaGreatZSchedAgainDefer
import Derived.Test.YtfjgcljdnhkmaaaGreatZSchedAgainDefer2
import Derived.Test.YtfjgcljdnhkmaaaGreatZSchedAgain0
import Derived.Test.YtfjgcljdnhkmaaaGreatZSchedAgain1
set_option linter.unusedVariables false
namespace Go.Proofs
open Go.AF
set_option maxRecDepth 100000
theorem uR {b0 o0 : Nat} {x1 : Int} {M : Mem} {K : Value → Mem → Prop} {Kp : List PanicEntry → Mem → Prop} (h :
rS M b0 (o0 + 4) fun A1 k2 k3 =>
((0 : Int) ≤ x1) ∧
((x1 : Int) < ((k2 : Nat) : Int)) ∧
aG A1 fun k4 k5 =>
bO (Mem.ld M ⟨k4, (k5 + (Int.toNat x1)), none⟩) fun A6 =>
aG A6 fun k7 k8 =>
rS M k7 (k8 + 1) fun A9 dP eL =>
aa Tryz.prog 120 #[(.slice A9 dP eL)] M (fun QI j7 =>
bO (some QI) fun oF =>
aG oF fun gj dO =>
rS j7 b0 o0 fun Mk en jd =>
rI j7 gj dO fun fI =>
((0 : Int) ≤ fI) ∧
((fI : Int) < ((en : Nat) : Int)) ∧
aG Mk fun fC gJ =>
rS j7 fC (gJ + (Int.toNat fI)) fun P4 ri sU =>
aG oF fun lT oN =>
rI j7 lT (oN + 1) fun xn =>
aV (decide ((xn : Int) ≥ ((ri : Nat) : Int)))
 (cE Tryz.prog 119 (.pointer (some ⟨b0, o0, none⟩)) K Kp (.bool false) (.panicking [{ v := (.iface 256 (iV (-7))), recovered := false }]) j7)
 (aG oF fun kB lJ =>
 rI j7 kB (lJ + 1) fun tV =>
 ((0 : Int) ≤ tV) ∧
 ((tV : Int) < ((ri : Nat) : Int)) ∧
 aG P4 fun tW jA =>
 rI j7 tW (jA + ((Int.toNat tV) * 4)) fun QM =>
 rI j7 tW ((jA + ((Int.toNat tV) * 4)) + 1) fun Mm =>
 rI j7 tW ((jA + ((Int.toNat tV) * 4)) + 2) fun yq =>
 rI j7 tW ((jA + ((Int.toNat tV) * 4)) + 3) fun NB =>
 be j7 (.cells #[(iV 0), (iV 0), (iV 0), (iV 0)] 34 (0, 0)) fun gZ XI =>
 sT XI gZ 0 (iV QM) fun QT =>
 sT QT gZ 1 (iV Mm) fun Bf =>
 sT Bf gZ 2 (iV yq) fun KR =>
 sT KR gZ 3 (iV NB) fun vZ =>
 rI vZ gZ 0 fun Dk =>
 rI vZ gZ 1 fun xU =>
 rI vZ gZ 2 fun E7 =>
 rI vZ gZ 3 fun BZ =>
 aa Tryz.prog 121 #[(.pointer oF), (.agg #[(iV Dk), (iV xU), (iV E7), (iV BZ)])] vZ (fun v48 yn =>
 cJ (some v48) fun t50 =>
 aV t50
 (rI yn gZ 0 fun Bg =>
 aV (Bg == 12)
 (cE Tryz.prog 119 (.pointer (some ⟨b0, o0, none⟩)) K Kp (.bool true) .returning yn)
 (rI yn gZ 0 fun YQ =>
 cE Tryz.prog 119 (.pointer (some ⟨b0, o0, none⟩)) K Kp (.bool (YQ == 17)) .returning yn))
 (rI yn gZ 0 fun YU =>
 aV (YU == 16)
 (rI yn gZ 0 fun S2 =>
 rI yn gZ 1 fun n55 =>
 rI yn gZ 2 fun Eg =>
 rI yn gZ 3 fun Uk =>
 aa Tryz.prog 122 #[(.pointer (some ⟨b0, o0, none⟩)), (iV x1), (.pointer oF), (.agg #[(iV S2), (iV n55), (iV Eg), (iV Uk)])] yn (fun v58 xA =>
 (v58 = (.tuple #[])) ∧
 rI xA gZ 0 fun Jl =>
 aV (Jl == 12)
 (cE Tryz.prog 119 (.pointer (some ⟨b0, o0, none⟩)) K Kp (.bool true) .returning xA)
 (rI xA gZ 0 fun KN =>
 cE Tryz.prog 119 (.pointer (some ⟨b0, o0, none⟩)) K Kp (.bool (KN == 17)) .returning xA)) (fun l62 xm => cE Tryz.prog 119 (.pointer (some ⟨b0, o0, none⟩)) K Kp (.bool false) (.panicking l62) xm))
 (rI yn gZ 0 fun n64 =>
 aV (n64 == 21)
 (rI yn gZ 0 fun vV =>
 rI yn gZ 1 fun QH =>
 rI yn gZ 2 fun YR =>
 rI yn gZ 3 fun Jq =>
 aa Tryz.prog 123 #[(.pointer (some ⟨b0, o0, none⟩)), (iV x1), (.pointer oF), (.agg #[(iV vV), (iV QH), (iV YR), (iV Jq)])] yn (fun YS AI =>
 (YS = (.tuple #[])) ∧
 rI AI gZ 0 fun XH =>
 aV (XH == 12)
 (cE Tryz.prog 119 (.pointer (some ⟨b0, o0, none⟩)) K Kp (.bool true) .returning AI)
 (rI AI gZ 0 fun YT =>
 cE Tryz.prog 119 (.pointer (some ⟨b0, o0, none⟩)) K Kp (.bool (YT == 17)) .returning AI)) (fun l73 Cb => cE Tryz.prog 119 (.pointer (some ⟨b0, o0, none⟩)) K Kp (.bool false) (.panicking l73) Cb))
 (aG oF fun S5 Qb =>
 rI yn S5 (Qb + 1) fun E0 =>
 aG oF fun KU Gl =>
 sT yn KU (Gl + 1) (iV (IntKind.wrap .i64 (E0 + 1))) fun yw =>
 rI yw gZ 0 fun Tc =>
 rI yw gZ 0 fun Jm =>
 rI yw gZ 1 fun SQ =>
 rI yw gZ 2 fun KO =>
 rI yw gZ 3 fun Bh =>
 aa Tryz.prog 124 #[] yw (fun v86 AJ =>
 ((Mem.fm AJ ⟨gZ, 0, none⟩ 0 4) = some [(iV Jm), (iV SQ), (iV KO), (iV Bh)]) ∧
 ((Mem.ld AJ ⟨gZ, 0, none⟩) = (some (iV Tc))) ∧
 aS Tryz.prog (Go.Instr.lookup 261 v86 (iV Tc) false) AJ (fun v88 Df =>
 ((Mem.fm Df ⟨gZ, 0, none⟩ 0 4) = some [(iV Jm), (iV SQ), (iV KO), (iV Bh)]) ∧
 ((Mem.ld Df ⟨gZ, 0, none⟩) = (some (iV Tc))) ∧
 iF Cx v88 [(.pointer (some ⟨b0, o0, none⟩)), (iV x1), (.pointer oF), (.agg #[(iV Jm), (iV SQ), (iV KO), (iV Bh)])] Df (fun NS j0 =>
 (NS = (.tuple #[])) ∧
 ((Mem.fm j0 ⟨gZ, 0, none⟩ 0 4) = some [(iV Jm), (iV SQ), (iV KO), (iV Bh)]) ∧
 ((Mem.ld j0 ⟨gZ, 0, none⟩) = (some (iV Tc))) ∧
 rI j0 gZ 0 fun n92 =>
 aV (n92 == 12)
 (cE Tryz.prog 119 (.pointer (some ⟨b0, o0, none⟩)) K Kp (.bool true) .returning j0)
 (rI j0 gZ 0 fun Jx =>
 cE Tryz.prog 119 (.pointer (some ⟨b0, o0, none⟩)) K Kp (.bool (Jx == 17)) .returning j0)) (fun l94 Fh => cE Tryz.prog 119 (.pointer (some ⟨b0, o0, none⟩)) K Kp (.bool false) (.panicking l94) Fh)) (fun l96 Mt => cE Tryz.prog 119 (.pointer (some ⟨b0, o0, none⟩)) K Kp (.bool false) (.panicking l96) Mt)) (fun l98 Un => cE Tryz.prog 119 (.pointer (some ⟨b0, o0, none⟩)) K Kp (.bool false) (.panicking l98) Un))))) (fun l100 gO => cE Tryz.prog 119 (.pointer (some ⟨b0, o0, none⟩)) K Kp (.bool false) (.panicking l100) gO))) (fun l102 Ho => cE Tryz.prog 119 (.pointer (some ⟨b0, o0, none⟩)) K Kp (.bool false) (.panicking l102) Ho)) :
 aa Tryz.prog 88 ([.pointer (some ⟨b0, o0, none⟩), .int .i64 x1] : List Value).toArray M K Kp :=
 xP (C := Cx) good (s := 0) (d := 8) (g := 119) (r := 4) [(3, .bT [0, 1, 3, 7, 15, 0, 32, 96, 224, 511, 1023, 2047] (.step 0 (.step 1 (.step 2 (.step 3 (.step 5 (.step 6 (.step 7 (.step 4 (.step 8 (.step 9 (.step 10 (.step 11 .done))))))))))))), (8, .bT [0, 0, 2, 7, 0, 0, 0, 0, 255] (.step 1 (.step 4 (.step 5 (.step 6 (.dJ 2 (.dJ 7 (.step 0 (.step 3 (.step 8 .done))))))))))] Tryz.func88 rfl rfl (by decide) (by kernel_rfl) (by kernel_rfl) h
theorem Fj {b o : Nat} {v : Value} {M : Mem} {K : Value → Mem → Prop} {Kp : List PanicEntry → Mem → Prop} (h : K v M) : cE Tryz.prog 119 (.pointer (some ⟨b, o, none⟩)) K Kp v .returning M :=
 fO (C := Cx) good (args := [.pointer (some ⟨b, o, none⟩)]) (d := 5) (x := .nilIface) (u' := .returning) [] Tryz.func119 rfl rfl (by kernel_rfl) rfl (by kernel_rfl) (vc := K v M) h
theorem HO {b o : Nat} {n : Int} {v : Value} {M : Mem} {K : Value → Mem → Prop} {Kp : List PanicEntry → Mem → Prop} (h :
 aO M ⟨b, (o + 11), none⟩ (.int .i64 2) fun M1 => aO M1 ⟨b, (o + 12), none⟩ (.int .i64 n) fun M2 => K v M2) :
  cE Tryz.prog 119 (.pointer (some ⟨b, o, none⟩)) K Kp v (.panicking [{ v := .iface 256 (.int .i64 n), recovered := false }]) M :=
 fO (C := Cx) good (args := [.pointer (some ⟨b, o, none⟩)]) (d := 5) (x := .iface 256 (.int .i64 n)) (u' := .panicking [{ v := .iface 256 (.int .i64 n), recovered := true }]) [] Tryz.func119 rfl rfl (by kernel_rfl) rfl (by kernel_rfl) h
theorem Li {b o : Nat} {w v : Value} {M : Mem} {K : Value → Mem → Prop} {Kp : List PanicEntry → Mem → Prop} (h : Kp [{ v := .iface 227 w, recovered := false }, { v := .iface 227 w, recovered := true }] M) :
  cE Tryz.prog 119 (.pointer (some ⟨b, o, none⟩)) K Kp v (.panicking [{ v := .iface 227 w, recovered := false }]) M :=
 fO (C := Cx) good (args := [.pointer (some ⟨b, o, none⟩)]) (d := 5) (x := .iface 227 w) (u' := .panicking [{ v := .iface 227 w, recovered := true }]) [] Tryz.func119 rfl rfl (by kernel_rfl) rfl (by kernel_rfl) (vc := Kp [{ v := .iface 227 w, recovered := false }, { v := .iface 227 w, recovered := true }] M) h
theorem DF {b o : Nat} {w v : Value} {M : Mem} {K : Value → Mem → Prop} {Kp : List PanicEntry → Mem → Prop} (h : Kp [{ v := .iface 155 w, recovered := false }, { v := .iface 155 w, recovered := true }] M) :
  cE Tryz.prog 119 (.pointer (some ⟨b, o, none⟩)) K Kp v (.panicking [{ v := .iface 155 w, recovered := false }]) M :=
 fO (C := Cx) good (args := [.pointer (some ⟨b, o, none⟩)]) (d := 5) (x := .iface 155 w) (u' := .panicking [{ v := .iface 155 w, recovered := true }]) [] Tryz.func119 rfl rfl (by kernel_rfl) rfl (by kernel_rfl) (vc := Kp [{ v := .iface 155 w, recovered := false }, { v := .iface 155 w, recovered := true }] M) h
theorem wA {x0 : Value} {b1 o1 b2 o2 : Nat} {M : Mem} {K : Value → Mem → Prop} {Kp : List PanicEntry → Mem → Prop} (h :
be M (.cells #[(.pointer (some ⟨b1, o1, none⟩))] 229 (0, 0)) fun k1 M2 =>
be M2 (.cells #[(.pointer (some ⟨b2, o2, none⟩))] 230 (0, 0)) fun k3 M4 =>
iF Cx x0 [] M4 (fun v5 M6 =>
(v5 = (.tuple #[])) ∧
jW Tryz.prog 135 [(.pointer (some ⟨k1, 0, none⟩)), (.pointer (some ⟨k3, 0, none⟩))] K Kp (.tuple #[]) .returning M6) (fun l7 M8 => jW Tryz.prog 135 [(.pointer (some ⟨k1, 0, none⟩)), (.pointer (some ⟨k3, 0, none⟩))] K Kp (.tuple #[]) (.panicking l7) M8)) :
 aa Tryz.prog 104 ([x0, .pointer (some ⟨b1, o1, none⟩), .pointer (some ⟨b2, o2, none⟩)] : List Value).toArray M K Kp :=
 vT (C := Cx) good (s1 := 4) (s2 := 5) (d := 6) (g := 135) (r := 0) [] Tryz.func104 rfl rfl (by decide) (by kernel_rfl) (by kernel_rfl) h
theorem Lj {c1 c2 : Nat} {v : Value} {M : Mem} {K : Value → Mem → Prop} {Kp : List PanicEntry → Mem → Prop} (h : K v M) : jW Tryz.prog 135 [.pointer (some ⟨c1, 0, none⟩), .pointer (some ⟨c2, 0, none⟩)] K Kp v .returning M :=
 fO (C := Cx) good (args := [.pointer (some ⟨c1, 0, none⟩), .pointer (some ⟨c2, 0, none⟩)]) (d := 6) (x := .nilIface) (u' := .returning) [(10, .bT [0, 0, 0, 3, 11, 31, 63] (.step 0 (.step 1 (.step 3 (.dJ 2 (.step 4 (.step 5 (.step 6 .done))))))))] Tryz.func135 rfl rfl (by kernel_rfl) rfl (by kernel_rfl) (vc := K v M) h
theorem HQ {c1 c2 : Nat} {v : Value} {M : Mem} {K : Value → Mem → Prop} {Kp : List PanicEntry → Mem → Prop} (h :
be M (.cells #[] 227 (0, 0)) fun k1 M2 =>
bO (Mem.ld M2 ⟨c1, 0, none⟩) fun A3 =>
aG A3 fun k4 k5 =>
aO M2 ⟨k4, k5, none⟩ (.int .i64 1) fun M6 =>
K v M6) :
  jW Tryz.prog 135 [.pointer (some ⟨c1, 0, none⟩), .pointer (some ⟨c2, 0, none⟩)] K Kp v (.panicking [{ v := .iface 227 (.agg #[]), recovered := false }]) M :=
 fO (C := Cx) good (args := [.pointer (some ⟨c1, 0, none⟩), .pointer (some ⟨c2, 0, none⟩)]) (d := 6) (x := .iface 227 (.agg #[])) (u' := .panicking [{ v := .iface 227 (.agg #[]), recovered := true }]) [(10, .bT [0, 0, 0, 3, 11, 31, 63] (.step 0 (.step 1 (.step 3 (.dJ 2 (.step 4 (.step 5 (.step 6 .done))))))))] Tryz.func135 rfl rfl (by kernel_rfl) rfl (by kernel_rfl) h
theorem Fk {c1 c2 : Nat} {v : Value} {M : Mem} {K : Value → Mem → Prop} {Kp : List PanicEntry → Mem → Prop} (h :
be M (.cells #[] 227 (0, 0)) fun k1 M2 =>
bO (Mem.ld M2 ⟨c1, 0, none⟩) fun A3 =>
aG A3 fun k4 k5 =>
aO M2 ⟨k4, k5, none⟩ (.int .i64 1) fun M6 =>
K v M6) :
  jW Tryz.prog 135 [.pointer (some ⟨c1, 0, none⟩), .pointer (some ⟨c2, 0, none⟩)] K Kp v (.panicking [{ v := .iface 227 (.agg #[]), recovered := false }, { v := .iface 227 (.agg #[]), recovered := true }]) M :=
 fO (C := Cx) good (args := [.pointer (some ⟨c1, 0, none⟩), .pointer (some ⟨c2, 0, none⟩)]) (d := 6) (x := .iface 227 (.agg #[])) (u' := .panicking [{ v := .iface 227 (.agg #[]), recovered := true }, { v := .iface 227 (.agg #[]), recovered := true }]) [(10, .bT [0, 0, 0, 3, 11, 31, 63] (.step 0 (.step 1 (.step 3 (.dJ 2 (.step 4 (.step 5 (.step 6 .done))))))))] Tryz.func135 rfl rfl (by kernel_rfl) rfl (by kernel_rfl) h
theorem Br {c1 c2 : Nat} {at_ kind n k x : Int} {v : Value} {M : Mem} {K : Value → Mem → Prop} {Kp : List PanicEntry → Mem → Prop} (h :
be M (.cells #[(.int .i64 0), (.int .i64 0), (.int .i64 0), (.int .i64 0), (.int .u64 0)] 155 (0, 0)) fun k1 M2 =>
aO M2 ⟨k1, 0, none⟩ (.int .i64 at_) fun M3 =>
aO M3 ⟨k1, (0 + 1), none⟩ (.int .i64 kind) fun M4 =>
aO M4 ⟨k1, (0 + 2), none⟩ (.int .i64 n) fun M5 =>
aO M5 ⟨k1, (0 + 3), none⟩ (.int .i64 k) fun M6 =>
aO M6 ⟨k1, (0 + 4), none⟩ (.int .u64 x) fun M7 =>
bO (Mem.ld M7 ⟨c1, 0, none⟩) fun A8 =>
bO (Mem.ld M7 ⟨c2, 0, none⟩) fun A9 =>
aG A8 fun dP eL =>
aK (Mem.ld M7 ⟨k1, 0, none⟩) .i64 fun jf =>
aK (Mem.ld M7 ⟨k1, (0 + 1), none⟩) .i64 fun jg =>
aK (Mem.ld M7 ⟨k1, (0 + 2), none⟩) .i64 fun jc =>
aK (Mem.ld M7 ⟨k1, (0 + 3), none⟩) .i64 fun jY =>
aK (Mem.ld M7 ⟨k1, (0 + 4), none⟩) .u64 fun mB =>
aO M7 ⟨dP, eL, none⟩ (.int .i64 2) fun j8 =>
((Mem.fm j8 ⟨k1, 0, none⟩ 0 5) = some [(.int .i64 jf), (.int .i64 jg), (.int .i64 jc), (.int .i64 jY), (.int .u64 mB)]) ∧
aG A9 fun en jd =>
aO j8 ⟨en, jd, none⟩ (.int .i64 jf) fun nU =>
aO nU ⟨en, (jd + 1), none⟩ (.int .i64 jg) fun je =>
aO je ⟨en, (jd + 2), none⟩ (.int .i64 jc) fun cZ =>
aO cZ ⟨en, (jd + 3), none⟩ (.int .i64 jY) fun lg =>
aO lg ⟨en, (jd + 4), none⟩ (.int .u64 mB) fun iz =>
((Mem.fm iz ⟨k1, 0, none⟩ 0 5) = some [(.int .i64 jf), (.int .i64 jg), (.int .i64 jc), (.int .i64 jY), (.int .u64 mB)]) ∧
K v iz) :
  jW Tryz.prog 135 [.pointer (some ⟨c1, 0, none⟩), .pointer (some ⟨c2, 0, none⟩)] K Kp v (.panicking [{ v := .iface 155 (.agg #[.int .i64 at_, .int .i64 kind, .int .i64 n, .int .i64 k, .int .u64 x]), recovered := false }]) M :=
 fO (C := Cx) good (args := [.pointer (some ⟨c1, 0, none⟩), .pointer (some ⟨c2, 0, none⟩)]) (d := 6) (x := .iface 155 (.agg #[.int .i64 at_, .int .i64 kind, .int .i64 n, .int .i64 k, .int .u64 x])) (u' := .panicking [{ v := .iface 155 (.agg #[.int .i64 at_, .int .i64 kind, .int .i64 n, .int .i64 k, .int .u64 x]), recovered := true }]) [(10, .bT [0, 0, 0, 3, 11, 31, 63] (.step 0 (.step 1 (.step 3 (.dJ 2 (.step 4 (.step 5 (.step 6 .done))))))))] Tryz.func135 rfl rfl (by kernel_rfl) rfl (by kernel_rfl) h
theorem zK {c1 c2 : Nat} {at_ kind n k x : Int} {v : Value} {M : Mem} {K : Value → Mem → Prop} {Kp : List PanicEntry → Mem → Prop} (h :
be M (.cells #[(.int .i64 0), (.int .i64 0), (.int .i64 0), (.int .i64 0), (.int .u64 0)] 155 (0, 0)) fun k1 M2 =>
aO M2 ⟨k1, 0, none⟩ (.int .i64 at_) fun M3 =>
aO M3 ⟨k1, (0 + 1), none⟩ (.int .i64 kind) fun M4 =>
aO M4 ⟨k1, (0 + 2), none⟩ (.int .i64 n) fun M5 =>
aO M5 ⟨k1, (0 + 3), none⟩ (.int .i64 k) fun M6 =>
aO M6 ⟨k1, (0 + 4), none⟩ (.int .u64 x) fun M7 =>
bO (Mem.ld M7 ⟨c1, 0, none⟩) fun A8 =>
bO (Mem.ld M7 ⟨c2, 0, none⟩) fun A9 =>
aG A8 fun dP eL =>
aK (Mem.ld M7 ⟨k1, 0, none⟩) .i64 fun jf =>
aK (Mem.ld M7 ⟨k1, (0 + 1), none⟩) .i64 fun jg =>
aK (Mem.ld M7 ⟨k1, (0 + 2), none⟩) .i64 fun jc =>
aK (Mem.ld M7 ⟨k1, (0 + 3), none⟩) .i64 fun jY =>
aK (Mem.ld M7 ⟨k1, (0 + 4), none⟩) .u64 fun mB =>
aO M7 ⟨dP, eL, none⟩ (.int .i64 2) fun j8 =>
((Mem.fm j8 ⟨k1, 0, none⟩ 0 5) = some [(.int .i64 jf), (.int .i64 jg), (.int .i64 jc), (.int .i64 jY), (.int .u64 mB)]) ∧
aG A9 fun en jd =>
aO j8 ⟨en, jd, none⟩ (.int .i64 jf) fun nU =>
aO nU ⟨en, (jd + 1), none⟩ (.int .i64 jg) fun je =>
aO je ⟨en, (jd + 2), none⟩ (.int .i64 jc) fun cZ =>
aO cZ ⟨en, (jd + 3), none⟩ (.int .i64 jY) fun lg =>
aO lg ⟨en, (jd + 4), none⟩ (.int .u64 mB) fun iz =>
((Mem.fm iz ⟨k1, 0, none⟩ 0 5) = some [(.int .i64 jf), (.int .i64 jg), (.int .i64 jc), (.int .i64 jY), (.int .u64 mB)]) ∧
K v iz) :
  jW Tryz.prog 135 [.pointer (some ⟨c1, 0, none⟩), .pointer (some ⟨c2, 0, none⟩)] K Kp v (.panicking [{ v := .iface 155 (.agg #[.int .i64 at_, .int .i64 kind, .int .i64 n, .int .i64 k, .int .u64 x]), recovered := false }, { v := .iface 155 (.agg #[.int .i64 at_, .int .i64 kind, .int .i64 n, .int .i64 k, .int .u64 x]), recovered := true }]) M :=
 fO (C := Cx) good (args := [.pointer (some ⟨c1, 0, none⟩), .pointer (some ⟨c2, 0, none⟩)]) (d := 6) (x := .iface 155 (.agg #[.int .i64 at_, .int .i64 kind, .int .i64 n, .int .i64 k, .int .u64 x])) (u' := .panicking [{ v := .iface 155 (.agg #[.int .i64 at_, .int .i64 kind, .int .i64 n, .int .i64 k, .int .u64 x]), recovered := true }, { v := .iface 155 (.agg #[.int .i64 at_, .int .i64 kind, .int .i64 n, .int .i64 k, .int .u64 x]), recovered := true }]) [(10, .bT [0, 0, 0, 3, 11, 31, 63] (.step 0 (.step 1 (.step 3 (.dJ 2 (.step 4 (.step 5 (.step 6 .done))))))))] Tryz.func135 rfl rfl (by kernel_rfl) rfl (by kernel_rfl) h
end Go.Proofs
