/- A part of proofs about one program. -/
import Derived.Test.YtfjgcljdnhkmaaaGreatZWorldDryDefer3
import Derived.Test.YtfjgcljdnhkmaaaGreatZWorldDry1
set_option linter.unusedVariables false
namespace Go.Proofs
open Go.AF
set_option maxRecDepth 100000
variable {M : Mem} {K : Value → Mem → Prop} {Kp : List PanicEntry → Mem → Prop}
theorem xE {b0 o0 : Nat} {x1 : Int} (h :
rS M b0 (o0 + 4) fun A1 k2 k3 =>
((0 : Int) ≤ x1) ∧
((x1 : Int) < k2) ∧
aE A1 fun k4 k5 =>
rP M k4 (k5 + (Int.toNat x1)) fun A6 =>
aE A6 fun k7 k8 =>
rS M k7 (k8 + 1) fun A9 eB eo =>
ae Tryz.prog 120 #[(.slice A9 eB eo)] M (fun Hs lG =>
dP (some Hs) fun ue =>
aE ue fun jy fx =>
rS lG b0 o0 fun AI fq jH =>
rI lG jy fx fun gF =>
(0 ≤ gF) ∧
(gF < fq) ∧
aE AI fun lH gi =>
rS lG lH (gi + (Int.toNat gF)) fun PG nW jJ =>
aE ue fun gM kK =>
rI lG gM (kK + 1) fun Ko =>
aM (decide (Ko ≥ nW))
 (di Tryz.prog 119 (.pointer (some ⟨b0, o0, none⟩)) K Kp (.bool false) (.panicking [{ v := (.iface 256 (iV (-7))), recovered := false }]) lG)
 (aE ue fun gk jg =>
 rI lG gk (jg + 1) fun ry =>
 (0 ≤ ry) ∧
 (ry < nW) ∧
 aE PG fun iy lz =>
 bP lG iy (lz + ((Int.toNat ry) * 4)) fun vg yK tH xU =>
 aO lG yw fun fE FE =>
 mB FE fE (iV vg) (iV yK) (iV tH) (iV xU) fun xd =>
 bP xd fE 0 fun yL uk ID Dh =>
 ae Tryz.prog 121 #[(.pointer ue), (.agg #[(iV yL), (iV uk), (iV ID), (iV Dh)])] xd (fun v48 w6 =>
 dF (some v48) fun t50 =>
 aM t50
 (rI w6 fE 0 fun C3 =>
 aM (C3 == 12)
 (di Tryz.prog 119 (.pointer (some ⟨b0, o0, none⟩)) K Kp (.bool true) .returning w6)
 (rI w6 fE 0 fun S9 =>
 di Tryz.prog 119 (.pointer (some ⟨b0, o0, none⟩)) K Kp (.bool (S9 == 17)) .returning w6))
 (rI w6 fE 0 fun Lz =>
 aM (Lz == 16)
 (rI w6 fE 0 fun vG =>
 rI w6 fE 1 fun KA =>
 rI w6 fE 2 fun Kz =>
 rI w6 fE 3 fun Xp =>
 ae Tryz.prog 122 #[(.pointer (some ⟨b0, o0, none⟩)), (iV x1), (.pointer ue), (.agg #[(iV vG), (iV KA), (iV Kz), (iV Xp)])] w6 (fun FL eL =>
 (FL = (.tuple #[])) ∧
 rI eL fE 0 fun vA =>
 aM (vA == 12)
 (di Tryz.prog 119 (.pointer (some ⟨b0, o0, none⟩)) K Kp (.bool true) .returning eL)
 (rI eL fE 0 fun n61 =>
 di Tryz.prog 119 (.pointer (some ⟨b0, o0, none⟩)) K Kp (.bool (n61 == 17)) .returning eL)) (fun l62 FB => di Tryz.prog 119 (.pointer (some ⟨b0, o0, none⟩)) K Kp (.bool false) (.panicking l62) FB))
 (rI w6 fE 0 fun n64 =>
 aM (n64 == 21)
 (rI w6 fE 0 fun Hv =>
 rI w6 fE 1 fun PJ =>
 rI w6 fE 2 fun IE =>
 rI w6 fE 3 fun xe =>
 ae Tryz.prog 123 #[(.pointer (some ⟨b0, o0, none⟩)), (iV x1), (.pointer ue), (.agg #[(iV Hv), (iV PJ), (iV IE), (iV xe)])] w6 (fun Lx Ry =>
 (Lx = (.tuple #[])) ∧
 rI Ry fE 0 fun WD =>
 aM (WD == 12)
 (di Tryz.prog 119 (.pointer (some ⟨b0, o0, none⟩)) K Kp (.bool true) .returning Ry)
 (rI Ry fE 0 fun IF =>
 di Tryz.prog 119 (.pointer (some ⟨b0, o0, none⟩)) K Kp (.bool (IF == 17)) .returning Ry)) (fun l73 Hz => di Tryz.prog 119 (.pointer (some ⟨b0, o0, none⟩)) K Kp (.bool false) (.panicking l73) Hz))
 (aE ue fun S3 P1 =>
 rI w6 S3 (P1 + 1) fun Xf =>
 aE ue fun Dq Ru =>
 sT w6 Dq (Ru + 1) (iV (IntKind.wrap .i64 (Xf + 1))) fun WH =>
 rI WH fE 0 fun Rz =>
 bP WH fE 0 fun Wv Ww Rs RA =>
 ae Tryz.prog 124 #[] WH (fun Uk OG =>
 ((Mem.fX OG ⟨fE, 0, none⟩ 0 4) = some [(iV Wv), (iV Ww), (iV Rs), (iV RA)]) ∧
 eI OG fE 0 Rz ∧
 bk Tryz.prog (Go.Instr.lookup 261 Uk (iV Rz) false) OG (fun Qa Kw =>
 ((Mem.fX Kw ⟨fE, 0, none⟩ 0 4) = some [(iV Wv), (iV Ww), (iV Rs), (iV RA)]) ∧
 eI Kw fE 0 Rz ∧
 qc Cx Qa [(.pointer (some ⟨b0, o0, none⟩)), (iV x1), (.pointer ue), (.agg #[(iV Wv), (iV Ww), (iV Rs), (iV RA)])] Kw (fun PY ov =>
 (PY = (.tuple #[])) ∧
 ((Mem.fX ov ⟨fE, 0, none⟩ 0 4) = some [(iV Wv), (iV Ww), (iV Rs), (iV RA)]) ∧
 eI ov fE 0 Rz ∧
 rI ov fE 0 fun Di =>
 aM (Di == 12)
 (di Tryz.prog 119 (.pointer (some ⟨b0, o0, none⟩)) K Kp (.bool true) .returning ov)
 (rI ov fE 0 fun Dz =>
 di Tryz.prog 119 (.pointer (some ⟨b0, o0, none⟩)) K Kp (.bool (Dz == 17)) .returning ov)) (fun l94 P2 => di Tryz.prog 119 (.pointer (some ⟨b0, o0, none⟩)) K Kp (.bool false) (.panicking l94) P2)) (fun l96 ZV => di Tryz.prog 119 (.pointer (some ⟨b0, o0, none⟩)) K Kp (.bool false) (.panicking l96) ZV)) (fun l98 M99 => di Tryz.prog 119 (.pointer (some ⟨b0, o0, none⟩)) K Kp (.bool false) (.panicking l98) M99))))) (fun l100 uh => di Tryz.prog 119 (.pointer (some ⟨b0, o0, none⟩)) K Kp (.bool false) (.panicking l100) uh))) (fun l102 Ls => di Tryz.prog 119 (.pointer (some ⟨b0, o0, none⟩)) K Kp (.bool false) (.panicking l102) Ls)) :
 ae Tryz.prog 88 #[.pointer (some ⟨b0, o0, none⟩), .int .i64 x1] M K Kp :=
 z3 (C := Cx) good (s := 0) (d := 8) (g := 119) (r := 4) [(3, .bH [0, 1, 3, 7, 15, 0, 32, 96, 224, 511, 1023, 2047] (.step 0 (.step 1 (.step 2 (.step 3 (.step 5 (.step 6 (.step 7 (.step 4 (.step 8 (.step 9 (.step 10 (.step 11 .done))))))))))))), (8, .bH [0, 0, 2, 7, 0, 0, 0, 0, 255] (.step 1 (.step 4 (.step 5 (.step 6 (.cS 2 (.cS 7 (.step 0 (.step 3 (.step 8 .done))))))))))] Tryz.func88 rfl rfl (by decide) (by kernel_rfl) (by kernel_rfl) h
theorem Jq {b o : Nat} {v : Value} (h : K v M) : di Tryz.prog 119 (.pointer (some ⟨b, o, none⟩)) K Kp v .returning M :=
 vv (C := Cx) good (args := [.pointer (some ⟨b, o, none⟩)]) (d := 5) (x := .nilIface) (u' := .returning) [] Tryz.func119 rfl rfl (by kernel_rfl) rfl (by kernel_rfl) (vc := K v M) h
theorem MY {b o : Nat} {n : Int} {v : Value} (h :
 b7 M ⟨b, (o + 11), none⟩ (.int .i64 2) fun M1 => b7 M1 ⟨b, (o + 12), none⟩ (.int .i64 n) fun M2 => K v M2) :
  di Tryz.prog 119 (.pointer (some ⟨b, o, none⟩)) K Kp v (.panicking [{ v := .iface 256 (.int .i64 n), recovered := false }]) M :=
 vv (C := Cx) good (args := [.pointer (some ⟨b, o, none⟩)]) (d := 5) (x := .iface 256 (.int .i64 n)) (u' := .panicking [{ v := .iface 256 (.int .i64 n), recovered := true }]) [] Tryz.func119 rfl rfl (by kernel_rfl) rfl (by kernel_rfl) h
theorem QC {b o : Nat} {w v : Value} (h : Kp [{ v := .iface 9 w, recovered := false }, { v := .iface 9 w, recovered := true }] M) :
  di Tryz.prog 119 (.pointer (some ⟨b, o, none⟩)) K Kp v (.panicking [{ v := .iface 9 w, recovered := false }]) M :=
 vv (C := Cx) good (args := [.pointer (some ⟨b, o, none⟩)]) (d := 5) (x := .iface 9 w) (u' := .panicking [{ v := .iface 9 w, recovered := true }]) [] Tryz.func119 rfl rfl (by kernel_rfl) rfl (by kernel_rfl) (vc := Kp [{ v := .iface 9 w, recovered := false }, { v := .iface 9 w, recovered := true }] M) h
end Go.Proofs
namespace Go.Proofs
open Go.AF
set_option maxRecDepth 100000
variable {M : Mem} {K : Value → Mem → Prop} {Kp : List PanicEntry → Mem → Prop}
theorem uZ {b0 o0 : Nat} {x1 : Int} (h :
aO M zc4_B fun k1 M2 =>
ae Tryz.prog 41 #[(.pointer (some ⟨b0, o0, none⟩)), (iV x1), (.func (.func 80) #[] #[])] M2 (fun v3 M4 =>
∃ t5 : Bool, ∃ A6 : Option Addr, ∃ k7 k8 : Nat, (v3 = (.agg #[(.bool t5), (.slice A6 k7 k8)])) ∧
sT M4 k1 0 (.bool false) fun M9 => pD Tryz.prog 79 (.pointer (some ⟨k1, 0, none⟩)) (.pointer (some ⟨k1, 0, none⟩)) K Kp .returning M9) (fun ch M3 => pD Tryz.prog 79 (.pointer (some ⟨k1, 0, none⟩)) (.pointer (some ⟨k1, 0, none⟩)) K Kp (.panicking ch) M3)) :
 ae Tryz.prog 39 #[.pointer (some ⟨b0, o0, none⟩), .int .i64 x1] M K Kp :=
 yB (C := Cx) good (s := 4) (d := 5) (g := 79) [] Tryz.func39 rfl rfl (by kernel_rfl) (by decide) (by kernel_rfl) (by kernel_rfl) h
theorem QD {c1 : Nat} {y : Value} (h :
b7 M ⟨c1, 0, none⟩ (.bool false) fun M1 =>
Bx K Kp y (settle .returning) M1) :
  pD Tryz.prog 79 (.pointer (some ⟨c1, 0, none⟩)) y K Kp .returning M :=
 zz (C := Cx) good (args := [.pointer (some ⟨c1, 0, none⟩)]) (d := 1) (x := .nilIface) (u' := .returning) Tryz.func79 rfl rfl (by kernel_rfl) rfl (by kernel_rfl) h
theorem MZ {c1 : Nat} {y : Value} (h :
b7 M ⟨c1, 0, none⟩ (.bool true) fun M1 =>
Bx K Kp y (settle (.panicking [{ v := (.iface 9 (.string { data := #[100, 114, 121] })), recovered := true }, { v := (.iface 9 (.string { data := #[100, 114, 121] })), recovered := true }])) M1) :
  pD Tryz.prog 79 (.pointer (some ⟨c1, 0, none⟩)) y K Kp (.panicking [{ v := (.iface 9 (.string { data := #[100, 114, 121] })), recovered := false }, { v := (.iface 9 (.string { data := #[100, 114, 121] })), recovered := true }]) M :=
 zz (C := Cx) good (args := [.pointer (some ⟨c1, 0, none⟩)]) (d := 1) (x := (.iface 9 (.string { data := #[100, 114, 121] }))) (u' := (.panicking [{ v := (.iface 9 (.string { data := #[100, 114, 121] })), recovered := true }, { v := (.iface 9 (.string { data := #[100, 114, 121] })), recovered := true }])) Tryz.func79 rfl rfl (by kernel_rfl) rfl (by kernel_rfl) h
end Go.Proofs
