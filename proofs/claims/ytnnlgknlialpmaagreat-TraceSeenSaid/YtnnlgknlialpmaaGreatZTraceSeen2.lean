/- A part of proofs about one program. -/
import Derived.Test.YtnnlgknlialpmaaGreatZTraceSeenDefer2
import Derived.Test.YtnnlgknlialpmaaGreatZTraceSeen1
set_option linter.unusedVariables false
namespace Go.Proofs
open Go.AF
set_option maxRecDepth 100000
variable {M : Mem} {K : Value → Mem → Prop} {Kp : List PanicEntry → Mem → Prop}
theorem u6 {b0 o0 : Nat} {x1 : Int} (h :
rS M b0 (o0 + 4) fun A1 k2 k3 =>
((0 : Int) ≤ x1) ∧
((x1 : Int) < k2) ∧
aE A1 fun k4 k5 =>
rP M k4 (k5 + (Int.toNat x1)) fun A6 =>
aE A6 fun k7 k8 =>
rS M k7 (k8 + 1) fun A9 fR eu =>
aa Tryz.prog 189 #[(.slice A9 fR eu)] M (fun Ls mZ =>
cy (some Ls) fun qQ =>
aE qQ fun iF eX =>
rS mZ b0 o0 fun ID fM jW =>
rI mZ iF eX fun eR =>
(0 ≤ eR) ∧
(eR < fM) ∧
aE ID fun fV gO =>
rS mZ fV (gO + (Int.toNat eR)) fun Po mX tr =>
aE qQ fun pM lP =>
rI mZ pM (lP + 1) fun xC =>
aP (decide (xC ≥ mX))
 (cD Tryz.prog 188 (.pointer (some ⟨b0, o0, none⟩)) K Kp (.bool false) (.panicking [{ v := (.iface 340 (iV (-7))), recovered := false }]) mZ)
 (aE qQ fun jX l9 =>
 rI mZ jX (l9 + 1) fun yL =>
 (0 ≤ yL) ∧
 (yL < mX) ∧
 aE Po fun yg vH =>
 bN mZ yg (vH + ((Int.toNat yL) * 4)) fun Ps IK vI J4 =>
 aX mZ wj fun fW Nf =>
 kQ Nf fW (iV Ps) (iV IK) (iV vI) (iV J4) fun wJ =>
 bN wJ fW 0 fun AE tC EL AT =>
 aa Tryz.prog 190 #[(.pointer qQ), (.agg #[(iV AE), (iV tC), (iV EL), (iV AT)])] wJ (fun v48 vF =>
 c7 (some v48) fun t50 =>
 aP t50
 (rI vF fW 0 fun Ba =>
 aP (Ba == 12)
 (cD Tryz.prog 188 (.pointer (some ⟨b0, o0, none⟩)) K Kp (.bool true) .returning vF)
 (rI vF fW 0 fun X4 =>
 cD Tryz.prog 188 (.pointer (some ⟨b0, o0, none⟩)) K Kp (.bool (X4 == 17)) .returning vF))
 (rI vF fW 0 fun X9 =>
 aP (X9 == 16)
 (rI vF fW 0 fun Qn =>
 rI vF fW 1 fun SI =>
 rI vF fW 2 fun F8 =>
 rI vF fW 3 fun Pv =>
 aa Tryz.prog 191 #[(.pointer (some ⟨b0, o0, none⟩)), (iV x1), (.pointer qQ), (.agg #[(iV Qn), (iV SI), (iV F8), (iV Pv)])] vF (fun v58 AH =>
 (v58 = (.tuple #[])) ∧
 rI AH fW 0 fun MJ =>
 aP (MJ == 12)
 (cD Tryz.prog 188 (.pointer (some ⟨b0, o0, none⟩)) K Kp (.bool true) .returning AH)
 (rI AH fW 0 fun Ka =>
 cD Tryz.prog 188 (.pointer (some ⟨b0, o0, none⟩)) K Kp (.bool (Ka == 17)) .returning AH)) (fun l62 AD => cD Tryz.prog 188 (.pointer (some ⟨b0, o0, none⟩)) K Kp (.bool false) (.panicking l62) AD))
 (rI vF fW 0 fun n64 =>
 aP (n64 == 21)
 (rI vF fW 0 fun wA =>
 rI vF fW 1 fun TP =>
 rI vF fW 2 fun X5 =>
 rI vF fW 3 fun MY =>
 aa Tryz.prog 192 #[(.pointer (some ⟨b0, o0, none⟩)), (iV x1), (.pointer qQ), (.agg #[(iV wA), (iV TP), (iV X5), (iV MY)])] vF (fun v69 EM =>
 (v69 = (.tuple #[])) ∧
 rI EM fW 0 fun n71 =>
 aP (n71 == 12)
 (cD Tryz.prog 188 (.pointer (some ⟨b0, o0, none⟩)) K Kp (.bool true) .returning EM)
 (rI EM fW 0 fun X6 =>
 cD Tryz.prog 188 (.pointer (some ⟨b0, o0, none⟩)) K Kp (.bool (X6 == 17)) .returning EM)) (fun l73 EN => cD Tryz.prog 188 (.pointer (some ⟨b0, o0, none⟩)) K Kp (.bool false) (.panicking l73) EN))
 (aE qQ fun Uc IN =>
 rI vF Uc (IN + 1) fun EG =>
 aE qQ fun Kl IP =>
 sT vF Kl (IP + 1) (iV (IntKind.wrap .i64 (EG + 1))) fun jn =>
 rI jn fW 0 fun W9 =>
 bN jn fW 0 fun IF Kb Kc Nk =>
 aa Tryz.prog 193 #[] jn (fun v86 E0 =>
 ((Mem.fK E0 ⟨fW, 0, none⟩ 0 4) = some [(iV IF), (iV Kb), (iV Kc), (iV Nk)]) ∧
 eI E0 fW 0 W9 ∧
 bk Tryz.prog (Go.Instr.lookup 345 v86 (iV W9) false) E0 (fun v88 EP =>
 ((Mem.fK EP ⟨fW, 0, none⟩ 0 4) = some [(iV IF), (iV Kb), (iV Kc), (iV Nk)]) ∧
 eI EP fW 0 W9 ∧
 gZ Cx v88 [(.pointer (some ⟨b0, o0, none⟩)), (iV x1), (.pointer qQ), (.agg #[(iV IF), (iV Kb), (iV Kc), (iV Nk)])] EP (fun Nh mK =>
 (Nh = (.tuple #[])) ∧
 ((Mem.fK mK ⟨fW, 0, none⟩ 0 4) = some [(iV IF), (iV Kb), (iV Kc), (iV Nk)]) ∧
 eI mK fW 0 W9 ∧
 rI mK fW 0 fun n92 =>
 aP (n92 == 12)
 (cD Tryz.prog 188 (.pointer (some ⟨b0, o0, none⟩)) K Kp (.bool true) .returning mK)
 (rI mK fW 0 fun QT =>
 cD Tryz.prog 188 (.pointer (some ⟨b0, o0, none⟩)) K Kp (.bool (QT == 17)) .returning mK)) (fun l94 DX => cD Tryz.prog 188 (.pointer (some ⟨b0, o0, none⟩)) K Kp (.bool false) (.panicking l94) DX)) (fun l96 F7 => cD Tryz.prog 188 (.pointer (some ⟨b0, o0, none⟩)) K Kp (.bool false) (.panicking l96) F7)) (fun l98 Qr => cD Tryz.prog 188 (.pointer (some ⟨b0, o0, none⟩)) K Kp (.bool false) (.panicking l98) Qr))))) (fun l100 gP => cD Tryz.prog 188 (.pointer (some ⟨b0, o0, none⟩)) K Kp (.bool false) (.panicking l100) gP))) (fun l102 T9 => cD Tryz.prog 188 (.pointer (some ⟨b0, o0, none⟩)) K Kp (.bool false) (.panicking l102) T9)) :
 aa Tryz.prog 159 #[.pointer (some ⟨b0, o0, none⟩), .int .i64 x1] M K Kp :=
 yd (C := Cx) good (s := 0) (d := 8) (g := 188) (r := 4) [(3, .bS [0, 1, 3, 7, 15, 0, 32, 96, 224, 511, 1023, 2047] (.step 0 (.step 1 (.step 2 (.step 3 (.step 5 (.step 6 (.step 7 (.step 4 (.step 8 (.step 9 (.step 10 (.step 11 .done))))))))))))), (8, .bS [0, 0, 2, 7, 0, 0, 0, 0, 255] (.step 1 (.step 4 (.step 5 (.step 6 (.dD 2 (.dD 7 (.step 0 (.step 3 (.step 8 .done))))))))))] Tryz.func159 rfl rfl (by decide) (by kernel_rfl) (by kernel_rfl) h
theorem E6 {b o : Nat} {v : Value} (h : K v M) : cD Tryz.prog 188 (.pointer (some ⟨b, o, none⟩)) K Kp v .returning M :=
 fQ (C := Cx) good (args := [.pointer (some ⟨b, o, none⟩)]) (d := 5) (x := .nilIface) (u' := .returning) [] Tryz.func188 rfl rfl (by kernel_rfl) rfl (by kernel_rfl) (vc := K v M) h
theorem Hj {b o : Nat} {n : Int} {v : Value} (h :
 aM M ⟨b, (o + 11), none⟩ (.int .i64 2) fun M1 => aM M1 ⟨b, (o + 12), none⟩ (.int .i64 n) fun M2 => K v M2) :
  cD Tryz.prog 188 (.pointer (some ⟨b, o, none⟩)) K Kp v (.panicking [{ v := .iface 340 (.int .i64 n), recovered := false }]) M :=
 fQ (C := Cx) good (args := [.pointer (some ⟨b, o, none⟩)]) (d := 5) (x := .iface 340 (.int .i64 n)) (u' := .panicking [{ v := .iface 340 (.int .i64 n), recovered := true }]) [] Tryz.func188 rfl rfl (by kernel_rfl) rfl (by kernel_rfl) h
theorem KC {b o : Nat} {w v : Value} (h : Kp [{ v := .iface 240 w, recovered := false }, { v := .iface 240 w, recovered := true }] M) :
  cD Tryz.prog 188 (.pointer (some ⟨b, o, none⟩)) K Kp v (.panicking [{ v := .iface 240 w, recovered := false }]) M :=
 fQ (C := Cx) good (args := [.pointer (some ⟨b, o, none⟩)]) (d := 5) (x := .iface 240 w) (u' := .panicking [{ v := .iface 240 w, recovered := true }]) [] Tryz.func188 rfl rfl (by kernel_rfl) rfl (by kernel_rfl) (vc := Kp [{ v := .iface 240 w, recovered := false }, { v := .iface 240 w, recovered := true }] M) h
theorem Dm {b o : Nat} {w v : Value} (h : Kp [{ v := .iface 97 w, recovered := false }, { v := .iface 97 w, recovered := true }] M) :
  cD Tryz.prog 188 (.pointer (some ⟨b, o, none⟩)) K Kp v (.panicking [{ v := .iface 97 w, recovered := false }]) M :=
 fQ (C := Cx) good (args := [.pointer (some ⟨b, o, none⟩)]) (d := 5) (x := .iface 97 w) (u' := .panicking [{ v := .iface 97 w, recovered := true }]) [] Tryz.func188 rfl rfl (by kernel_rfl) rfl (by kernel_rfl) (vc := Kp [{ v := .iface 97 w, recovered := false }, { v := .iface 97 w, recovered := true }] M) h
end Go.Proofs
namespace Go.Proofs
open Go.AF
set_option maxRecDepth 100000
variable {M : Mem} {K : Value → Mem → Prop} {Kp : List PanicEntry → Mem → Prop}
theorem wR {x0 : Value} {b1 o1 b2 o2 : Nat} (h :
aX M (cl [(.pointer (some ⟨b1, o1, none⟩))] 242) fun k1 M2 =>
aX M2 (cl [(.pointer (some ⟨b2, o2, none⟩))] 243) fun k3 M4 =>
gZ Cx x0 [] M4 (fun v5 M6 =>
(v5 = (.tuple #[])) ∧
j0 Tryz.prog 153 [(.pointer (some ⟨k1, 0, none⟩)), (.pointer (some ⟨k3, 0, none⟩))] K Kp (.tuple #[]) .returning M6) (fun l7 M8 => j0 Tryz.prog 153 [(.pointer (some ⟨k1, 0, none⟩)), (.pointer (some ⟨k3, 0, none⟩))] K Kp (.tuple #[]) (.panicking l7) M8)) :
 aa Tryz.prog 116 #[x0, .pointer (some ⟨b1, o1, none⟩), .pointer (some ⟨b2, o2, none⟩)] M K Kp :=
 wv (C := Cx) good (s1 := 4) (s2 := 5) (d := 6) (g := 153) (r := 0) [] Tryz.func116 rfl rfl (by decide) (by kernel_rfl) (by kernel_rfl) h
theorem KD {c1 c2 : Nat} {v : Value} (h : K v M) : j0 Tryz.prog 153 [.pointer (some ⟨c1, 0, none⟩), .pointer (some ⟨c2, 0, none⟩)] K Kp v .returning M :=
 fQ (C := Cx) good (args := [.pointer (some ⟨c1, 0, none⟩), .pointer (some ⟨c2, 0, none⟩)]) (d := 6) (x := .nilIface) (u' := .returning) [(10, .bS [0, 0, 0, 3, 11, 31, 63] (.step 0 (.step 1 (.step 3 (.dD 2 (.step 4 (.step 5 (.step 6 .done))))))))] Tryz.func153 rfl rfl (by kernel_rfl) rfl (by kernel_rfl) (vc := K v M) h
theorem Hl {c1 c2 : Nat} {v : Value} (h :
aX M (.cells #[] 240 (0, 0)) fun k1 M2 =>
cy (Mem.ld M2 ⟨c1, 0, none⟩) fun A3 =>
aE A3 fun k4 k5 =>
aM M2 ⟨k4, k5, none⟩ (.int .i64 1) fun M6 =>
K v M6) :
  j0 Tryz.prog 153 [.pointer (some ⟨c1, 0, none⟩), .pointer (some ⟨c2, 0, none⟩)] K Kp v (.panicking [{ v := .iface 240 (.agg #[]), recovered := false }]) M :=
 fQ (C := Cx) good (args := [.pointer (some ⟨c1, 0, none⟩), .pointer (some ⟨c2, 0, none⟩)]) (d := 6) (x := .iface 240 (.agg #[])) (u' := .panicking [{ v := .iface 240 (.agg #[]), recovered := true }]) [(10, .bS [0, 0, 0, 3, 11, 31, 63] (.step 0 (.step 1 (.step 3 (.dD 2 (.step 4 (.step 5 (.step 6 .done))))))))] Tryz.func153 rfl rfl (by kernel_rfl) rfl (by kernel_rfl) h
theorem E7 {c1 c2 : Nat} {v : Value} (h :
aX M (.cells #[] 240 (0, 0)) fun k1 M2 =>
cy (Mem.ld M2 ⟨c1, 0, none⟩) fun A3 =>
aE A3 fun k4 k5 =>
aM M2 ⟨k4, k5, none⟩ (.int .i64 1) fun M6 =>
K v M6) :
  j0 Tryz.prog 153 [.pointer (some ⟨c1, 0, none⟩), .pointer (some ⟨c2, 0, none⟩)] K Kp v (.panicking [{ v := .iface 240 (.agg #[]), recovered := false }, { v := .iface 240 (.agg #[]), recovered := true }]) M :=
 fQ (C := Cx) good (args := [.pointer (some ⟨c1, 0, none⟩), .pointer (some ⟨c2, 0, none⟩)]) (d := 6) (x := .iface 240 (.agg #[])) (u' := .panicking [{ v := .iface 240 (.agg #[]), recovered := true }, { v := .iface 240 (.agg #[]), recovered := true }]) [(10, .bS [0, 0, 0, 3, 11, 31, 63] (.step 0 (.step 1 (.step 3 (.dD 2 (.step 4 (.step 5 (.step 6 .done))))))))] Tryz.func153 rfl rfl (by kernel_rfl) rfl (by kernel_rfl) h
theorem Bi {c1 c2 : Nat} {at_ kind n k x : Int} {v : Value} (h :
aX M (.cells #[(.int .i64 0), (.int .i64 0), (.int .i64 0), (.int .i64 0), (.int .u64 0)] 97 (0, 0)) fun k1 M2 =>
aM M2 ⟨k1, 0, none⟩ (.int .i64 at_) fun M3 =>
aM M3 ⟨k1, (0 + 1), none⟩ (.int .i64 kind) fun M4 =>
aM M4 ⟨k1, (0 + 2), none⟩ (.int .i64 n) fun M5 =>
aM M5 ⟨k1, (0 + 3), none⟩ (.int .i64 k) fun M6 =>
aM M6 ⟨k1, (0 + 4), none⟩ (.int .u64 x) fun M7 =>
cy (Mem.ld M7 ⟨c1, 0, none⟩) fun A8 =>
cy (Mem.ld M7 ⟨c2, 0, none⟩) fun A9 =>
aE A8 fun fR eu =>
aI (Mem.ld M7 ⟨k1, 0, none⟩) .i64 fun j5 =>
aI (Mem.ld M7 ⟨k1, (0 + 1), none⟩) .i64 fun j6 =>
aI (Mem.ld M7 ⟨k1, (0 + 2), none⟩) .i64 fun nx =>
aI (Mem.ld M7 ⟨k1, (0 + 3), none⟩) .i64 fun lB =>
aI (Mem.ld M7 ⟨k1, (0 + 4), none⟩) .u64 fun oH =>
aM M7 ⟨fR, eu, none⟩ (.int .i64 2) fun ox =>
((Mem.fK ox ⟨k1, 0, none⟩ 0 5) = some [(.int .i64 j5), (.int .i64 j6), (.int .i64 nx), (.int .i64 lB), (.int .u64 oH)]) ∧
aE A9 fun fM jW =>
aM ox ⟨fM, jW, none⟩ (.int .i64 j5) fun uE =>
aM uE ⟨fM, (jW + 1), none⟩ (.int .i64 j6) fun kj =>
aM kj ⟨fM, (jW + 2), none⟩ (.int .i64 nx) fun dK =>
aM dK ⟨fM, (jW + 3), none⟩ (.int .i64 lB) fun mD =>
aM mD ⟨fM, (jW + 4), none⟩ (.int .u64 oH) fun kF =>
((Mem.fK kF ⟨k1, 0, none⟩ 0 5) = some [(.int .i64 j5), (.int .i64 j6), (.int .i64 nx), (.int .i64 lB), (.int .u64 oH)]) ∧
K v kF) :
  j0 Tryz.prog 153 [.pointer (some ⟨c1, 0, none⟩), .pointer (some ⟨c2, 0, none⟩)] K Kp v (.panicking [{ v := .iface 97 (.agg #[.int .i64 at_, .int .i64 kind, .int .i64 n, .int .i64 k, .int .u64 x]), recovered := false }]) M :=
 fQ (C := Cx) good (args := [.pointer (some ⟨c1, 0, none⟩), .pointer (some ⟨c2, 0, none⟩)]) (d := 6) (x := .iface 97 (.agg #[.int .i64 at_, .int .i64 kind, .int .i64 n, .int .i64 k, .int .u64 x])) (u' := .panicking [{ v := .iface 97 (.agg #[.int .i64 at_, .int .i64 kind, .int .i64 n, .int .i64 k, .int .u64 x]), recovered := true }]) [(10, .bS [0, 0, 0, 3, 11, 31, 63] (.step 0 (.step 1 (.step 3 (.dD 2 (.step 4 (.step 5 (.step 6 .done))))))))] Tryz.func153 rfl rfl (by kernel_rfl) rfl (by kernel_rfl) h
theorem zJ {c1 c2 : Nat} {at_ kind n k x : Int} {v : Value} (h :
aX M (.cells #[(.int .i64 0), (.int .i64 0), (.int .i64 0), (.int .i64 0), (.int .u64 0)] 97 (0, 0)) fun k1 M2 =>
aM M2 ⟨k1, 0, none⟩ (.int .i64 at_) fun M3 =>
aM M3 ⟨k1, (0 + 1), none⟩ (.int .i64 kind) fun M4 =>
aM M4 ⟨k1, (0 + 2), none⟩ (.int .i64 n) fun M5 =>
aM M5 ⟨k1, (0 + 3), none⟩ (.int .i64 k) fun M6 =>
aM M6 ⟨k1, (0 + 4), none⟩ (.int .u64 x) fun M7 =>
cy (Mem.ld M7 ⟨c1, 0, none⟩) fun A8 =>
cy (Mem.ld M7 ⟨c2, 0, none⟩) fun A9 =>
aE A8 fun fR eu =>
aI (Mem.ld M7 ⟨k1, 0, none⟩) .i64 fun j5 =>
aI (Mem.ld M7 ⟨k1, (0 + 1), none⟩) .i64 fun j6 =>
aI (Mem.ld M7 ⟨k1, (0 + 2), none⟩) .i64 fun nx =>
aI (Mem.ld M7 ⟨k1, (0 + 3), none⟩) .i64 fun lB =>
aI (Mem.ld M7 ⟨k1, (0 + 4), none⟩) .u64 fun oH =>
aM M7 ⟨fR, eu, none⟩ (.int .i64 2) fun ox =>
((Mem.fK ox ⟨k1, 0, none⟩ 0 5) = some [(.int .i64 j5), (.int .i64 j6), (.int .i64 nx), (.int .i64 lB), (.int .u64 oH)]) ∧
aE A9 fun fM jW =>
aM ox ⟨fM, jW, none⟩ (.int .i64 j5) fun uE =>
aM uE ⟨fM, (jW + 1), none⟩ (.int .i64 j6) fun kj =>
aM kj ⟨fM, (jW + 2), none⟩ (.int .i64 nx) fun dK =>
aM dK ⟨fM, (jW + 3), none⟩ (.int .i64 lB) fun mD =>
aM mD ⟨fM, (jW + 4), none⟩ (.int .u64 oH) fun kF =>
((Mem.fK kF ⟨k1, 0, none⟩ 0 5) = some [(.int .i64 j5), (.int .i64 j6), (.int .i64 nx), (.int .i64 lB), (.int .u64 oH)]) ∧
K v kF) :
  j0 Tryz.prog 153 [.pointer (some ⟨c1, 0, none⟩), .pointer (some ⟨c2, 0, none⟩)] K Kp v (.panicking [{ v := .iface 97 (.agg #[.int .i64 at_, .int .i64 kind, .int .i64 n, .int .i64 k, .int .u64 x]), recovered := false }, { v := .iface 97 (.agg #[.int .i64 at_, .int .i64 kind, .int .i64 n, .int .i64 k, .int .u64 x]), recovered := true }]) M :=
 fQ (C := Cx) good (args := [.pointer (some ⟨c1, 0, none⟩), .pointer (some ⟨c2, 0, none⟩)]) (d := 6) (x := .iface 97 (.agg #[.int .i64 at_, .int .i64 kind, .int .i64 n, .int .i64 k, .int .u64 x])) (u' := .panicking [{ v := .iface 97 (.agg #[.int .i64 at_, .int .i64 kind, .int .i64 n, .int .i64 k, .int .u64 x]), recovered := true }, { v := .iface 97 (.agg #[.int .i64 at_, .int .i64 kind, .int .i64 n, .int .i64 k, .int .u64 x]), recovered := true }]) [(10, .bS [0, 0, 0, 3, 11, 31, 63] (.step 0 (.step 1 (.step 3 (.dD 2 (.step 4 (.step 5 (.step 6 .done))))))))] Tryz.func153 rfl rfl (by kernel_rfl) rfl (by kernel_rfl) h
end Go.Proofs
