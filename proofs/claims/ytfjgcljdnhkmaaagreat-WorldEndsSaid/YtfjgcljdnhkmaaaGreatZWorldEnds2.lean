/- A part of proofs about one program. -/
import Derived.Test.YtfjgcljdnhkmaaaGreatZWorldEndsDefer
import Derived.Test.YtfjgcljdnhkmaaaGreatZWorldEnds1
set_option linter.unusedVariables false
namespace Go.Proofs
open Go.AF
set_option maxRecDepth 100000
variable {M : Mem} {K : Value → Mem → Prop} {Kp : List PanicEntry → Mem → Prop}
theorem xq {b0 o0 : Nat} {x1 : Int} (h :
rS M b0 (o0 + 4) fun A1 k2 k3 =>
((0 : Int) ≤ x1) ∧
((x1 : Int) < k2) ∧
aE A1 fun k4 k5 =>
rP M k4 (k5 + (Int.toNat x1)) fun A6 =>
aE A6 fun k7 k8 =>
rS M k7 (k8 + 1) fun A9 eD eu =>
ae Tryz.prog 120 #[(.slice A9 eD eu)] M (fun GV lu =>
dP (some GV) fun ua =>
aE ua fun ju fq =>
rS lu b0 o0 fun Ay fm jC =>
rI lu ju fq fun gC =>
(0 ≤ gC) ∧
(gC < fm) ∧
aE Ay fun lz gf =>
rS lu lz (gf + (Int.toNat gC)) fun O3 nM jE =>
aE ua fun gH kF =>
rI lu gH (kF + 1) fun JV =>
aM (decide (JV ≥ nM))
 (dk Tryz.prog 119 (.pointer (some ⟨b0, o0, none⟩)) K Kp (.bool false) (.panicking [{ v := (.iface 256 (iV (-7))), recovered := false }]) lu)
 (aE ua fun gi jc =>
 rI lu gi (jc + 1) fun q9 =>
 (0 ≤ q9) ∧
 (q9 < nM) ∧
 aE O3 fun ie lg =>
 bO lu ie (lg + ((Int.toNat q9) * 4)) fun u6 yz tC xK =>
 aO lu yg fun fB Fi =>
 mh Fi fB (iV u6) (iV yz) (iV tC) (iV xK) fun wV =>
 bO wV fB 0 fun yA ue Ij CX =>
 ae Tryz.prog 121 #[(.pointer ua), (.agg #[(iV yA), (iV ue), (iV Ij), (iV CX)])] wV (fun v48 wQ =>
 dG (some v48) fun t50 =>
 aM t50
 (rI wQ fB 0 fun CN =>
 aM (CN == 12)
 (dk Tryz.prog 119 (.pointer (some ⟨b0, o0, none⟩)) K Kp (.bool true) .returning wQ)
 (rI wQ fB 0 fun Sw =>
 dk Tryz.prog 119 (.pointer (some ⟨b0, o0, none⟩)) K Kp (.bool (Sw == 17)) .returning wQ))
 (rI wQ fB 0 fun K3 =>
 aM (K3 == 16)
 (rI wQ fB 0 fun vz =>
 rI wQ fB 1 fun J5 =>
 rI wQ fB 2 fun J4 =>
 rI wQ fB 3 fun WG =>
 ae Tryz.prog 122 #[(.pointer (some ⟨b0, o0, none⟩)), (iV x1), (.pointer ua), (.agg #[(iV vz), (iV J5), (iV J4), (iV WG)])] wQ (fun Fq eM =>
 (Fq = (.tuple #[])) ∧
 rI eM fB 0 fun vp =>
 aM (vp == 12)
 (dk Tryz.prog 119 (.pointer (some ⟨b0, o0, none⟩)) K Kp (.bool true) .returning eM)
 (rI eM fB 0 fun n61 =>
 dk Tryz.prog 119 (.pointer (some ⟨b0, o0, none⟩)) K Kp (.bool (n61 == 17)) .returning eM)) (fun l62 Fe => dk Tryz.prog 119 (.pointer (some ⟨b0, o0, none⟩)) K Kp (.bool false) (.panicking l62) Fe))
 (rI wQ fB 0 fun n64 =>
 aM (n64 == 21)
 (rI wQ fB 0 fun GZ =>
 rI wQ fB 1 fun O5 =>
 rI wQ fB 2 fun Ik =>
 rI wQ fB 3 fun wW =>
 ae Tryz.prog 123 #[(.pointer (some ⟨b0, o0, none⟩)), (iV x1), (.pointer ua), (.agg #[(iV GZ), (iV O5), (iV Ik), (iV wW)])] wQ (fun Ph NY =>
 (Ph = (.tuple #[])) ∧
 rI NY fB 0 fun VR =>
 aM (VR == 12)
 (dk Tryz.prog 119 (.pointer (some ⟨b0, o0, none⟩)) K Kp (.bool true) .returning NY)
 (rI NY fB 0 fun Il =>
 dk Tryz.prog 119 (.pointer (some ⟨b0, o0, none⟩)) K Kp (.bool (Il == 17)) .returning NY)) (fun l73 G4 => dk Tryz.prog 119 (.pointer (some ⟨b0, o0, none⟩)) K Kp (.bool false) (.panicking l73) G4))
 (aE ua fun Pf K9 =>
 rI wQ Pf (K9 + 1) fun RY =>
 aE ua fun C4 NU =>
 sT wQ C4 (NU + 1) (iV (IntKind.wrap .i64 (RY + 1))) fun VT =>
 rI VT fB 0 fun QS =>
 bO VT fB 0 fun VN VO QJ QT =>
 ae Tryz.prog 124 #[] VT (fun TG SF =>
 ((Mem.fT SF ⟨fB, 0, none⟩ 0 4) = some [(iV VN), (iV VO), (iV QJ), (iV QT)]) ∧
 eI SF fB 0 QS ∧
 bj Tryz.prog (Go.Instr.lookup 261 TG (iV QS) false) SF (fun Px J1 =>
 ((Mem.fT J1 ⟨fB, 0, none⟩ 0 4) = some [(iV VN), (iV VO), (iV QJ), (iV QT)]) ∧
 eI J1 fB 0 QS ∧
 pU Cx Px [(.pointer (some ⟨b0, o0, none⟩)), (iV x1), (.pointer ua), (.agg #[(iV VN), (iV VO), (iV QJ), (iV QT)])] J1 (fun Pm oa =>
 (Pm = (.tuple #[])) ∧
 ((Mem.fT oa ⟨fB, 0, none⟩ 0 4) = some [(iV VN), (iV VO), (iV QJ), (iV QT)]) ∧
 eI oa fB 0 QS ∧
 rI oa fB 0 fun CY =>
 aM (CY == 12)
 (dk Tryz.prog 119 (.pointer (some ⟨b0, o0, none⟩)) K Kp (.bool true) .returning oa)
 (rI oa fB 0 fun Pq =>
 dk Tryz.prog 119 (.pointer (some ⟨b0, o0, none⟩)) K Kp (.bool (Pq == 17)) .returning oa)) (fun l94 Pr => dk Tryz.prog 119 (.pointer (some ⟨b0, o0, none⟩)) K Kp (.bool false) (.panicking l94) Pr)) (fun l96 Zg => dk Tryz.prog 119 (.pointer (some ⟨b0, o0, none⟩)) K Kp (.bool false) (.panicking l96) Zg)) (fun l98 M99 => dk Tryz.prog 119 (.pointer (some ⟨b0, o0, none⟩)) K Kp (.bool false) (.panicking l98) M99))))) (fun l100 uc => dk Tryz.prog 119 (.pointer (some ⟨b0, o0, none⟩)) K Kp (.bool false) (.panicking l100) uc))) (fun l102 KV => dk Tryz.prog 119 (.pointer (some ⟨b0, o0, none⟩)) K Kp (.bool false) (.panicking l102) KV)) :
 ae Tryz.prog 88 #[.pointer (some ⟨b0, o0, none⟩), .int .i64 x1] M K Kp :=
 zU (C := Cx) good (s := 0) (d := 8) (g := 119) (r := 4) [(3, .bH [0, 1, 3, 7, 15, 0, 32, 96, 224, 511, 1023, 2047] (.step 0 (.step 1 (.step 2 (.step 3 (.step 5 (.step 6 (.step 7 (.step 4 (.step 8 (.step 9 (.step 10 (.step 11 .done))))))))))))), (8, .bH [0, 0, 2, 7, 0, 0, 0, 0, 255] (.step 1 (.step 4 (.step 5 (.step 6 (.cQ 2 (.cQ 7 (.step 0 (.step 3 (.step 8 .done))))))))))] Tryz.func88 rfl rfl (by decide) (by kernel_rfl) (by kernel_rfl) h
theorem IX {b o : Nat} {v : Value} (h : K v M) : dk Tryz.prog 119 (.pointer (some ⟨b, o, none⟩)) K Kp v .returning M :=
 Bt (C := Cx) good (args := [.pointer (some ⟨b, o, none⟩)]) (d := 5) (x := .nilIface) (u' := .returning) [] Tryz.func119 rfl rfl (by kernel_rfl) rfl (by kernel_rfl) (vc := K v M) h
theorem Mr {b o : Nat} {n : Int} {v : Value} (h :
 b7 M ⟨b, (o + 11), none⟩ (.int .i64 2) fun M1 => b7 M1 ⟨b, (o + 12), none⟩ (.int .i64 n) fun M2 => K v M2) :
  dk Tryz.prog 119 (.pointer (some ⟨b, o, none⟩)) K Kp v (.panicking [{ v := .iface 256 (.int .i64 n), recovered := false }]) M :=
 Bt (C := Cx) good (args := [.pointer (some ⟨b, o, none⟩)]) (d := 5) (x := .iface 256 (.int .i64 n)) (u' := .panicking [{ v := .iface 256 (.int .i64 n), recovered := true }]) [] Tryz.func119 rfl rfl (by kernel_rfl) rfl (by kernel_rfl) h
end Go.Proofs
