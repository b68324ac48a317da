/- A part of proofs about one program. -/
import Derived.Test.YtfjgcljdnhkmaaaZWorldSleepsDefer
import Derived.Test.YtfjgcljdnhkmaaaZWorldSleeps0
set_option linter.unusedVariables false
namespace Go.Proofs
open Go.AF
set_option maxRecDepth 100000
variable {M : Mem} {K : Value → Mem → Prop} {Kp : List PanicEntry → Mem → Prop}
theorem nJ {b0 o0 : Nat} {x1 : Int} (h :
rS M b0 (o0 + 4) fun A1 k2 k3 =>
((0 : Int) ≤ x1) ∧
((x1 : Int) < k2) ∧
aB A1 fun k4 k5 =>
rP M k4 (k5 + (Int.toNat x1)) fun A6 =>
aB A6 fun k7 k8 =>
rS M k7 (k8 + 1) fun A9 fm dM =>
ae Try.prog 11 #[(.slice A9 fm dM)] M (fun D3 m5 =>
dU (some D3) fun vG =>
aB vG fun mY fY =>
rS m5 b0 o0 fun Bt iw oe =>
rI m5 mY fY fun jx =>
(0 ≤ jx) ∧
(jx < iw) ∧
aB Bt fun uM iL =>
rS m5 uM (iL + (Int.toNat jx)) fun Hq r8 s9 =>
aB vG fun rY D8 =>
rI m5 rY (D8 + 1) fun D9 =>
aX (decide (D9 ≥ r8))
 (bH Try.prog 31 (.pointer (some ⟨b0, o0, none⟩)) K Kp (.bool false) (.panicking [{ v := (.iface 92 (iV (-7))), recovered := false }]) m5)
 (aB vG fun qf pT =>
 rI m5 qf (pT + 1) fun td =>
 (0 ≤ td) ∧
 (td < r8) ∧
 aB Hq fun uN qT =>
 j9 m5 uN (qT + ((Int.toNat td) * 4)) fun KM Cu Fq E7 =>
 bq m5 oG fun g6 Je =>
 Ke Je g6 (iV KM) (iV Cu) (iV Fq) (iV E7) fun tp =>
 j9 tp g6 0 fun xE BG Fs C4 =>
 ae Try.prog 32 #[(.pointer vG), (.agg #[(iV xE), (iV BG), (iV Fs), (iV C4)])] tp (fun Pp qN =>
 dz (some Pp) fun t50 =>
 aX t50
 (rI qN g6 0 fun HQ =>
 aX (HQ == 12)
 (bH Try.prog 31 (.pointer (some ⟨b0, o0, none⟩)) K Kp (.bool true) .returning qN)
 (rI qN g6 0 fun KQ =>
 bH Try.prog 31 (.pointer (some ⟨b0, o0, none⟩)) K Kp (.bool (KQ == 17)) .returning qN))
 (rI qN g6 0 fun HY =>
 aX (HY == 16)
 (rI qN g6 0 fun HZ =>
 rI qN g6 1 fun Pq =>
 rI qN g6 2 fun Pr =>
 rI qN g6 3 fun Cv =>
 ae Try.prog 33 #[(.pointer (some ⟨b0, o0, none⟩)), (iV x1), (.pointer vG), (.agg #[(iV HZ), (iV Pq), (iV Pr), (iV Cv)])] qN (fun Ps Af =>
 (Ps = (.tuple #[])) ∧
 rI Af g6 0 fun Fa =>
 aX (Fa == 12)
 (bH Try.prog 31 (.pointer (some ⟨b0, o0, none⟩)) K Kp (.bool true) .returning Af)
 (rI Af g6 0 fun HB =>
 bH Try.prog 31 (.pointer (some ⟨b0, o0, none⟩)) K Kp (.bool (HB == 17)) .returning Af)) (fun Pt Fb => bH Try.prog 31 (.pointer (some ⟨b0, o0, none⟩)) K Kp (.bool false) (.panicking Pt) Fb))
 (rI qN g6 0 fun n64 =>
 aX (n64 == 21)
 (rI qN g6 0 fun C3 =>
 rI qN g6 1 fun Kn =>
 rI qN g6 2 fun KR =>
 rI qN g6 3 fun Da =>
 ae Try.prog 34 #[(.pointer (some ⟨b0, o0, none⟩)), (iV x1), (.pointer vG), (.agg #[(iV C3), (iV Kn), (iV KR), (iV Da)])] qN (fun KS Ft =>
 (KS = (.tuple #[])) ∧
 rI Ft g6 0 fun Jc =>
 aX (Jc == 12)
 (bH Try.prog 31 (.pointer (some ⟨b0, o0, none⟩)) K Kp (.bool true) .returning Ft)
 (rI Ft g6 0 fun KT =>
 bH Try.prog 31 (.pointer (some ⟨b0, o0, none⟩)) K Kp (.bool (KT == 17)) .returning Ft)) (fun Pu BH => bH Try.prog 31 (.pointer (some ⟨b0, o0, none⟩)) K Kp (.bool false) (.panicking Pu) BH))
 (aB vG fun Gw Pv =>
 rI qN Gw (Pv + 1) fun Fg =>
 aB vG fun Ld Pw =>
 sT qN Ld (Pw + 1) (iV (IntKind.wrap .i64 (Fg + 1))) fun Fx =>
 rI Fx g6 0 fun Jl =>
 j9 Fx g6 0 fun Gp Gq Gr Jm =>
 ae Try.prog 35 #[] Fx (fun Px LP =>
 ((Mem.gr LP ⟨g6, 0, none⟩ 0 4) = some [(iV Gp), (iV Gq), (iV Gr), (iV Jm)]) ∧
 eI LP g6 0 Jl ∧
 aW Try.prog (Go.Instr.lookup 97 Px (iV Jl) false) LP (fun Py Cw =>
 ((Mem.gr Cw ⟨g6, 0, none⟩ 0 4) = some [(iV Gp), (iV Gq), (iV Gr), (iV Jm)]) ∧
 eI Cw g6 0 Jl ∧
 lY Cx Py [(.pointer (some ⟨b0, o0, none⟩)), (iV x1), (.pointer vG), (.agg #[(iV Gp), (iV Gq), (iV Gr), (iV Jm)])] Cw (fun Ik ue =>
 (Ik = (.tuple #[])) ∧
 ((Mem.gr ue ⟨g6, 0, none⟩ 0 4) = some [(iV Gp), (iV Gq), (iV Gr), (iV Jm)]) ∧
 eI ue g6 0 Jl ∧
 rI ue g6 0 fun Gs =>
 aX (Gs == 12)
 (bH Try.prog 31 (.pointer (some ⟨b0, o0, none⟩)) K Kp (.bool true) .returning ue)
 (rI ue g6 0 fun Pz =>
 bH Try.prog 31 (.pointer (some ⟨b0, o0, none⟩)) K Kp (.bool (Pz == 17)) .returning ue)) (fun PB PC => bH Try.prog 31 (.pointer (some ⟨b0, o0, none⟩)) K Kp (.bool false) (.panicking PB) PC)) (fun PD Lh => bH Try.prog 31 (.pointer (some ⟨b0, o0, none⟩)) K Kp (.bool false) (.panicking PD) Lh)) (fun PE Li => bH Try.prog 31 (.pointer (some ⟨b0, o0, none⟩)) K Kp (.bool false) (.panicking PE) Li))))) (fun LQ LR => bH Try.prog 31 (.pointer (some ⟨b0, o0, none⟩)) K Kp (.bool false) (.panicking LQ) LR))) (fun LS Fy => bH Try.prog 31 (.pointer (some ⟨b0, o0, none⟩)) K Kp (.bool false) (.panicking LS) Fy)) :
 ae Try.prog 25 #[.pointer (some ⟨b0, o0, none⟩), .int .i64 x1] M K Kp :=
 pS (C := Cx) good (s := 0) (d := 8) (g := 31) (r := 4) [(3, .bL [0, 1, 3, 7, 15, 0, 32, 96, 224, 511, 1023, 2047] (.step 0 (.step 1 (.step 2 (.step 3 (.step 5 (.step 6 (.step 7 (.step 4 (.step 8 (.step 9 (.step 10 (.step 11 .done))))))))))))), (8, .bL [0, 0, 2, 7, 0, 0, 0, 0, 255] (.step 1 (.step 4 (.step 5 (.step 6 (.lz 2 (.lz 7 (.step 0 (.step 3 (.step 8 .done))))))))))] Try.func25 rfl rfl (by decide) (by kernel_rfl) (by kernel_rfl) h
theorem vL {b o : Nat} {v : Value} (h : K v M) : bH Try.prog 31 (.pointer (some ⟨b, o, none⟩)) K Kp v .returning M :=
 qM (C := Cx) good (args := [.pointer (some ⟨b, o, none⟩)]) (d := 5) (x := .nilIface) (u' := .returning) [] Try.func31 rfl rfl (by kernel_rfl) rfl (by kernel_rfl) (vc := K v M) h
theorem xF {b o : Nat} {n : Int} {v : Value} (h :
 bW M ⟨b, (o + 11), none⟩ (.int .i64 2) fun M1 => bW M1 ⟨b, (o + 12), none⟩ (.int .i64 n) fun M2 => K v M2) :
  bH Try.prog 31 (.pointer (some ⟨b, o, none⟩)) K Kp v (.panicking [{ v := .iface 92 (.int .i64 n), recovered := false }]) M :=
 qM (C := Cx) good (args := [.pointer (some ⟨b, o, none⟩)]) (d := 5) (x := .iface 92 (.int .i64 n)) (u' := .panicking [{ v := .iface 92 (.int .i64 n), recovered := true }]) [] Try.func31 rfl rfl (by kernel_rfl) rfl (by kernel_rfl) h
end Go.Proofs
