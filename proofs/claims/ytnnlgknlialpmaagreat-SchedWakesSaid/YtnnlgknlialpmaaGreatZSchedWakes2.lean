/- A part of proofs about one program. -/
import Derived.Test.YtnnlgknlialpmaaGreatZSchedWakesDefer2
import Derived.Test.YtnnlgknlialpmaaGreatZSchedWakes1
set_option linter.unusedVariables false
namespace Go.Proofs
open Go.AF
set_option maxRecDepth 100000
variable {M : Mem} {K : Value → Mem → Prop} {Kp : List PanicEntry → Mem → Prop}
theorem sH {b0 o0 : Nat} {x1 : Int} (h :
rS M b0 (o0 + 4) fun A1 k2 k3 =>
((0 : Int) ≤ x1) ∧
((x1 : Int) < k2) ∧
aD A1 fun k4 k5 =>
rP M k4 (k5 + (Int.toNat x1)) fun A6 =>
aD A6 fun k7 k8 =>
rS M k7 (k8 + 1) fun A9 eJ en =>
aa Tryz.prog 189 #[(.slice A9 eJ en)] M (fun HG kz =>
b8 (some HG) fun nj =>
aD nj fun gI gi =>
rS kz b0 o0 fun K8 gq iI =>
rI kz gI gi fun iu =>
(0 ≤ iu) ∧
(iu < gq) ∧
aD K8 fun fe hG =>
rS kz fe (hG + (Int.toNat iu)) fun S5 r6 vb =>
aD nj fun r9 zX =>
rI kz r9 (zX + 1) fun sg =>
aO (decide (sg ≥ r6))
 (b9 Tryz.prog 188 (.pointer (some ⟨b0, o0, none⟩)) K Kp (.bool false) (.panicking [{ v := (.iface 340 (iV (-7))), recovered := false }]) kz)
 (aD nj fun uJ lH =>
 rI kz uJ (lH + 1) fun vF =>
 (0 ≤ vF) ∧
 (vF < r6) ∧
 aD S5 fun nI z0 =>
 jy kz nI (z0 + ((Int.toNat vF) * 4)) fun LZ Fa wI LK =>
 bh kz tN fun hU RV =>
 DA RV hU (iV LZ) (iV Fa) (iV wI) (iV LK) fun xO =>
 jy xO hU 0 fun Gy Gx Ja AV =>
 aa Tryz.prog 190 #[(.pointer nj), (.agg #[(iV Gy), (iV Gx), (iV Ja), (iV AV)])] xO (fun v48 ve =>
 cV (some v48) fun t50 =>
 aO t50
 (rI ve hU 0 fun Jb =>
 aO (Jb == 12)
 (b9 Tryz.prog 188 (.pointer (some ⟨b0, o0, none⟩)) K Kp (.bool true) .returning ve)
 (rI ve hU 0 fun WG =>
 b9 Tryz.prog 188 (.pointer (some ⟨b0, o0, none⟩)) K Kp (.bool (WG == 17)) .returning ve))
 (rI ve hU 0 fun Tn =>
 aO (Tn == 16)
 (rI ve hU 0 fun Tr =>
 rI ve hU 1 fun W8 =>
 rI ve hU 2 fun Mv =>
 rI ve hU 3 fun Ts =>
 aa Tryz.prog 191 #[(.pointer (some ⟨b0, o0, none⟩)), (iV x1), (.pointer nj), (.agg #[(iV Tr), (iV W8), (iV Mv), (iV Ts)])] ve (fun v58 tv =>
 (v58 = (.tuple #[])) ∧
 rI tv hU 0 fun Pf =>
 aO (Pf == 12)
 (b9 Tryz.prog 188 (.pointer (some ⟨b0, o0, none⟩)) K Kp (.bool true) .returning tv)
 (rI tv hU 0 fun vf =>
 b9 Tryz.prog 188 (.pointer (some ⟨b0, o0, none⟩)) K Kp (.bool (vf == 17)) .returning tv)) (fun l62 BN => b9 Tryz.prog 188 (.pointer (some ⟨b0, o0, none⟩)) K Kp (.bool false) (.panicking l62) BN))
 (rI ve hU 0 fun n64 =>
 aO (n64 == 21)
 (rI ve hU 0 fun BO =>
 rI ve hU 1 fun Wp =>
 rI ve hU 2 fun WH =>
 rI ve hU 3 fun Mc =>
 aa Tryz.prog 192 #[(.pointer (some ⟨b0, o0, none⟩)), (iV x1), (.pointer nj), (.agg #[(iV BO), (iV Wp), (iV WH), (iV Mc)])] ve (fun Tg Ae =>
 (Tg = (.tuple #[])) ∧
 rI Ae hU 0 fun Vd =>
 aO (Vd == 12)
 (b9 Tryz.prog 188 (.pointer (some ⟨b0, o0, none⟩)) K Kp (.bool true) .returning Ae)
 (rI Ae hU 0 fun Th =>
 b9 Tryz.prog 188 (.pointer (some ⟨b0, o0, none⟩)) K Kp (.bool (Th == 17)) .returning Ae)) (fun l73 BZ => b9 Tryz.prog 188 (.pointer (some ⟨b0, o0, none⟩)) K Kp (.bool false) (.panicking l73) BZ))
 (aD nj fun W4 k76 =>
 rI ve W4 (k76 + 1) fun DH =>
 aD nj fun Mi Tx =>
 sT ve Mi (Tx + 1) (iV (IntKind.wrap .i64 (DH + 1))) fun Ai =>
 rI Ai hU 0 fun R7 =>
 jy Ai hU 0 fun HJ RR N8 Oh =>
 aa Tryz.prog 193 #[] Ai (fun Y6 Jw =>
 ((Mem.gp Jw ⟨hU, 0, none⟩ 0 4) = some [(iV HJ), (iV RR), (iV N8), (iV Oh)]) ∧
 eI Jw hU 0 R7 ∧
 aW Tryz.prog (Go.Instr.lookup 345 Y6 (iV R7) false) Jw (fun v88 DS =>
 ((Mem.gp DS ⟨hU, 0, none⟩ 0 4) = some [(iV HJ), (iV RR), (iV N8), (iV Oh)]) ∧
 eI DS hU 0 R7 ∧
 gK Cx v88 [(.pointer (some ⟨b0, o0, none⟩)), (iV x1), (.pointer nj), (.agg #[(iV HJ), (iV RR), (iV N8), (iV Oh)])] DS (fun Jo oX =>
 (Jo = (.tuple #[])) ∧
 ((Mem.gp oX ⟨hU, 0, none⟩ 0 4) = some [(iV HJ), (iV RR), (iV N8), (iV Oh)]) ∧
 eI oX hU 0 R7 ∧
 rI oX hU 0 fun Wv =>
 aO (Wv == 12)
 (b9 Tryz.prog 188 (.pointer (some ⟨b0, o0, none⟩)) K Kp (.bool true) .returning oX)
 (rI oX hU 0 fun n93 =>
 b9 Tryz.prog 188 (.pointer (some ⟨b0, o0, none⟩)) K Kp (.bool (n93 == 17)) .returning oX)) (fun l94 TP => b9 Tryz.prog 188 (.pointer (some ⟨b0, o0, none⟩)) K Kp (.bool false) (.panicking l94) TP)) (fun l96 Jp => b9 Tryz.prog 188 (.pointer (some ⟨b0, o0, none⟩)) K Kp (.bool false) (.panicking l96) Jp)) (fun l98 RW => b9 Tryz.prog 188 (.pointer (some ⟨b0, o0, none⟩)) K Kp (.bool false) (.panicking l98) RW))))) (fun ZH qc => b9 Tryz.prog 188 (.pointer (some ⟨b0, o0, none⟩)) K Kp (.bool false) (.panicking ZH) qc))) (fun ZI PF => b9 Tryz.prog 188 (.pointer (some ⟨b0, o0, none⟩)) K Kp (.bool false) (.panicking ZI) PF)) :
 aa Tryz.prog 159 #[.pointer (some ⟨b0, o0, none⟩), .int .i64 x1] M K Kp :=
 u9 (C := Cx) good (s := 0) (d := 8) (g := 188) (r := 4) [(3, .bN [0, 1, 3, 7, 15, 0, 32, 96, 224, 511, 1023, 2047] (.step 0 (.step 1 (.step 2 (.step 3 (.step 5 (.step 6 (.step 7 (.step 4 (.step 8 (.step 9 (.step 10 (.step 11 .done))))))))))))), (8, .bN [0, 0, 2, 7, 0, 0, 0, 0, 255] (.step 1 (.step 4 (.step 5 (.step 6 (.fT 2 (.fT 7 (.step 0 (.step 3 (.step 8 .done))))))))))] Tryz.func159 rfl rfl (by decide) (by kernel_rfl) (by kernel_rfl) h
theorem Ca {b o : Nat} {v : Value} (h : K v M) : b9 Tryz.prog 188 (.pointer (some ⟨b, o, none⟩)) K Kp v .returning M :=
 eT (C := Cx) good (args := [.pointer (some ⟨b, o, none⟩)]) (d := 5) (x := .nilIface) (u' := .returning) [] Tryz.func188 rfl rfl (by kernel_rfl) rfl (by kernel_rfl) (vc := K v M) h
theorem D2 {b o : Nat} {n : Int} {v : Value} (h :
 aF M ⟨b, (o + 11), none⟩ (.int .i64 2) fun M1 => aF M1 ⟨b, (o + 12), none⟩ (.int .i64 n) fun M2 => K v M2) :
  b9 Tryz.prog 188 (.pointer (some ⟨b, o, none⟩)) K Kp v (.panicking [{ v := .iface 340 (.int .i64 n), recovered := false }]) M :=
 eT (C := Cx) good (args := [.pointer (some ⟨b, o, none⟩)]) (d := 5) (x := .iface 340 (.int .i64 n)) (u' := .panicking [{ v := .iface 340 (.int .i64 n), recovered := true }]) [] Tryz.func188 rfl rfl (by kernel_rfl) rfl (by kernel_rfl) h
theorem GR {b o : Nat} {w v : Value} (h : Kp [{ v := .iface 240 w, recovered := false }, { v := .iface 240 w, recovered := true }] M) :
  b9 Tryz.prog 188 (.pointer (some ⟨b, o, none⟩)) K Kp v (.panicking [{ v := .iface 240 w, recovered := false }]) M :=
 eT (C := Cx) good (args := [.pointer (some ⟨b, o, none⟩)]) (d := 5) (x := .iface 240 w) (u' := .panicking [{ v := .iface 240 w, recovered := true }]) [] Tryz.func188 rfl rfl (by kernel_rfl) rfl (by kernel_rfl) (vc := Kp [{ v := .iface 240 w, recovered := false }, { v := .iface 240 w, recovered := true }] M) h
theorem Av {b o : Nat} {w v : Value} (h : Kp [{ v := .iface 97 w, recovered := false }, { v := .iface 97 w, recovered := true }] M) :
  b9 Tryz.prog 188 (.pointer (some ⟨b, o, none⟩)) K Kp v (.panicking [{ v := .iface 97 w, recovered := false }]) M :=
 eT (C := Cx) good (args := [.pointer (some ⟨b, o, none⟩)]) (d := 5) (x := .iface 97 w) (u' := .panicking [{ v := .iface 97 w, recovered := true }]) [] Tryz.func188 rfl rfl (by kernel_rfl) rfl (by kernel_rfl) (vc := Kp [{ v := .iface 97 w, recovered := false }, { v := .iface 97 w, recovered := true }] M) h
end Go.Proofs
namespace Go.Proofs
open Go.AF
set_option maxRecDepth 100000
variable {M : Mem} {K : Value → Mem → Prop} {Kp : List PanicEntry → Mem → Prop}
theorem tZ {x0 : Value} {b1 o1 b2 o2 : Nat} (h :
bh M (cl [(.pointer (some ⟨b1, o1, none⟩))] 242) fun k1 M2 =>
bh M2 (cl [(.pointer (some ⟨b2, o2, none⟩))] 243) fun k3 M4 =>
gK Cx x0 [] M4 (fun v5 M6 =>
(v5 = (.tuple #[])) ∧
iK Tryz.prog 153 [(.pointer (some ⟨k1, 0, none⟩)), (.pointer (some ⟨k3, 0, none⟩))] K Kp (.tuple #[]) .returning M6) (fun l7 M8 => iK Tryz.prog 153 [(.pointer (some ⟨k1, 0, none⟩)), (.pointer (some ⟨k3, 0, none⟩))] K Kp (.tuple #[]) (.panicking l7) M8)) :
 aa Tryz.prog 116 #[x0, .pointer (some ⟨b1, o1, none⟩), .pointer (some ⟨b2, o2, none⟩)] M K Kp :=
 tO (C := Cx) good (s1 := 4) (s2 := 5) (d := 6) (g := 153) (r := 0) [] Tryz.func116 rfl rfl (by decide) (by kernel_rfl) (by kernel_rfl) h
theorem GS {c1 c2 : Nat} {v : Value} (h : K v M) : iK Tryz.prog 153 [.pointer (some ⟨c1, 0, none⟩), .pointer (some ⟨c2, 0, none⟩)] K Kp v .returning M :=
 eT (C := Cx) good (args := [.pointer (some ⟨c1, 0, none⟩), .pointer (some ⟨c2, 0, none⟩)]) (d := 6) (x := .nilIface) (u' := .returning) [(10, .bN [0, 0, 0, 3, 11, 31, 63] (.step 0 (.step 1 (.step 3 (.fT 2 (.step 4 (.step 5 (.step 6 .done))))))))] Tryz.func153 rfl rfl (by kernel_rfl) rfl (by kernel_rfl) (vc := K v M) h
theorem D3 {c1 c2 : Nat} {v : Value} (h :
bh M (.cells #[] 240 (0, 0)) fun k1 M2 =>
b8 (Mem.ld M2 ⟨c1, 0, none⟩) fun A3 =>
aD A3 fun k4 k5 =>
aF M2 ⟨k4, k5, none⟩ (.int .i64 1) fun M6 =>
K v M6) :
  iK Tryz.prog 153 [.pointer (some ⟨c1, 0, none⟩), .pointer (some ⟨c2, 0, none⟩)] K Kp v (.panicking [{ v := .iface 240 (.agg #[]), recovered := false }]) M :=
 eT (C := Cx) good (args := [.pointer (some ⟨c1, 0, none⟩), .pointer (some ⟨c2, 0, none⟩)]) (d := 6) (x := .iface 240 (.agg #[])) (u' := .panicking [{ v := .iface 240 (.agg #[]), recovered := true }]) [(10, .bN [0, 0, 0, 3, 11, 31, 63] (.step 0 (.step 1 (.step 3 (.fT 2 (.step 4 (.step 5 (.step 6 .done))))))))] Tryz.func153 rfl rfl (by kernel_rfl) rfl (by kernel_rfl) h
theorem Cb {c1 c2 : Nat} {v : Value} (h :
bh M (.cells #[] 240 (0, 0)) fun k1 M2 =>
b8 (Mem.ld M2 ⟨c1, 0, none⟩) fun A3 =>
aD A3 fun k4 k5 =>
aF M2 ⟨k4, k5, none⟩ (.int .i64 1) fun M6 =>
K v M6) :
  iK Tryz.prog 153 [.pointer (some ⟨c1, 0, none⟩), .pointer (some ⟨c2, 0, none⟩)] K Kp v (.panicking [{ v := .iface 240 (.agg #[]), recovered := false }, { v := .iface 240 (.agg #[]), recovered := true }]) M :=
 eT (C := Cx) good (args := [.pointer (some ⟨c1, 0, none⟩), .pointer (some ⟨c2, 0, none⟩)]) (d := 6) (x := .iface 240 (.agg #[])) (u' := .panicking [{ v := .iface 240 (.agg #[]), recovered := true }, { v := .iface 240 (.agg #[]), recovered := true }]) [(10, .bN [0, 0, 0, 3, 11, 31, 63] (.step 0 (.step 1 (.step 3 (.fT 2 (.step 4 (.step 5 (.step 6 .done))))))))] Tryz.func153 rfl rfl (by kernel_rfl) rfl (by kernel_rfl) h
theorem ym {c1 c2 : Nat} {at_ kind n k x : Int} {v : Value} (h :
bh M (.cells #[(.int .i64 0), (.int .i64 0), (.int .i64 0), (.int .i64 0), (.int .u64 0)] 97 (0, 0)) fun k1 M2 =>
aF M2 ⟨k1, 0, none⟩ (.int .i64 at_) fun M3 =>
aF M3 ⟨k1, (0 + 1), none⟩ (.int .i64 kind) fun M4 =>
aF M4 ⟨k1, (0 + 2), none⟩ (.int .i64 n) fun M5 =>
aF M5 ⟨k1, (0 + 3), none⟩ (.int .i64 k) fun M6 =>
aF M6 ⟨k1, (0 + 4), none⟩ (.int .u64 x) fun M7 =>
b8 (Mem.ld M7 ⟨c1, 0, none⟩) fun A8 =>
b8 (Mem.ld M7 ⟨c2, 0, none⟩) fun A9 =>
aD A8 fun eJ en =>
aG (Mem.ld M7 ⟨k1, 0, none⟩) .i64 fun iw =>
aG (Mem.ld M7 ⟨k1, (0 + 1), none⟩) .i64 fun jN =>
aG (Mem.ld M7 ⟨k1, (0 + 2), none⟩) .i64 fun mK =>
aG (Mem.ld M7 ⟨k1, (0 + 3), none⟩) .i64 fun jM =>
aG (Mem.ld M7 ⟨k1, (0 + 4), none⟩) .u64 fun oV =>
aF M7 ⟨eJ, en, none⟩ (.int .i64 2) fun pz =>
((Mem.gp pz ⟨k1, 0, none⟩ 0 5) = some [(.int .i64 iw), (.int .i64 jN), (.int .i64 mK), (.int .i64 jM), (.int .u64 oV)]) ∧
aD A9 fun gq iI =>
aF pz ⟨gq, iI, none⟩ (.int .i64 iw) fun r8 =>
aF r8 ⟨gq, (iI + 1), none⟩ (.int .i64 jN) fun uI =>
aF uI ⟨gq, (iI + 2), none⟩ (.int .i64 mK) fun mE =>
aF mE ⟨gq, (iI + 3), none⟩ (.int .i64 jM) fun mF =>
aF mF ⟨gq, (iI + 4), none⟩ (.int .u64 oV) fun jj =>
((Mem.gp jj ⟨k1, 0, none⟩ 0 5) = some [(.int .i64 iw), (.int .i64 jN), (.int .i64 mK), (.int .i64 jM), (.int .u64 oV)]) ∧
K v jj) :
  iK Tryz.prog 153 [.pointer (some ⟨c1, 0, none⟩), .pointer (some ⟨c2, 0, none⟩)] K Kp v (.panicking [{ v := .iface 97 (.agg #[.int .i64 at_, .int .i64 kind, .int .i64 n, .int .i64 k, .int .u64 x]), recovered := false }]) M :=
 eT (C := Cx) good (args := [.pointer (some ⟨c1, 0, none⟩), .pointer (some ⟨c2, 0, none⟩)]) (d := 6) (x := .iface 97 (.agg #[.int .i64 at_, .int .i64 kind, .int .i64 n, .int .i64 k, .int .u64 x])) (u' := .panicking [{ v := .iface 97 (.agg #[.int .i64 at_, .int .i64 kind, .int .i64 n, .int .i64 k, .int .u64 x]), recovered := true }]) [(10, .bN [0, 0, 0, 3, 11, 31, 63] (.step 0 (.step 1 (.step 3 (.fT 2 (.step 4 (.step 5 (.step 6 .done))))))))] Tryz.func153 rfl rfl (by kernel_rfl) rfl (by kernel_rfl) h
theorem wQ {c1 c2 : Nat} {at_ kind n k x : Int} {v : Value} (h :
bh M (.cells #[(.int .i64 0), (.int .i64 0), (.int .i64 0), (.int .i64 0), (.int .u64 0)] 97 (0, 0)) fun k1 M2 =>
aF M2 ⟨k1, 0, none⟩ (.int .i64 at_) fun M3 =>
aF M3 ⟨k1, (0 + 1), none⟩ (.int .i64 kind) fun M4 =>
aF M4 ⟨k1, (0 + 2), none⟩ (.int .i64 n) fun M5 =>
aF M5 ⟨k1, (0 + 3), none⟩ (.int .i64 k) fun M6 =>
aF M6 ⟨k1, (0 + 4), none⟩ (.int .u64 x) fun M7 =>
b8 (Mem.ld M7 ⟨c1, 0, none⟩) fun A8 =>
b8 (Mem.ld M7 ⟨c2, 0, none⟩) fun A9 =>
aD A8 fun eJ en =>
aG (Mem.ld M7 ⟨k1, 0, none⟩) .i64 fun iw =>
aG (Mem.ld M7 ⟨k1, (0 + 1), none⟩) .i64 fun jN =>
aG (Mem.ld M7 ⟨k1, (0 + 2), none⟩) .i64 fun mK =>
aG (Mem.ld M7 ⟨k1, (0 + 3), none⟩) .i64 fun jM =>
aG (Mem.ld M7 ⟨k1, (0 + 4), none⟩) .u64 fun oV =>
aF M7 ⟨eJ, en, none⟩ (.int .i64 2) fun pz =>
((Mem.gp pz ⟨k1, 0, none⟩ 0 5) = some [(.int .i64 iw), (.int .i64 jN), (.int .i64 mK), (.int .i64 jM), (.int .u64 oV)]) ∧
aD A9 fun gq iI =>
aF pz ⟨gq, iI, none⟩ (.int .i64 iw) fun r8 =>
aF r8 ⟨gq, (iI + 1), none⟩ (.int .i64 jN) fun uI =>
aF uI ⟨gq, (iI + 2), none⟩ (.int .i64 mK) fun mE =>
aF mE ⟨gq, (iI + 3), none⟩ (.int .i64 jM) fun mF =>
aF mF ⟨gq, (iI + 4), none⟩ (.int .u64 oV) fun jj =>
((Mem.gp jj ⟨k1, 0, none⟩ 0 5) = some [(.int .i64 iw), (.int .i64 jN), (.int .i64 mK), (.int .i64 jM), (.int .u64 oV)]) ∧
K v jj) :
  iK Tryz.prog 153 [.pointer (some ⟨c1, 0, none⟩), .pointer (some ⟨c2, 0, none⟩)] K Kp v (.panicking [{ v := .iface 97 (.agg #[.int .i64 at_, .int .i64 kind, .int .i64 n, .int .i64 k, .int .u64 x]), recovered := false }, { v := .iface 97 (.agg #[.int .i64 at_, .int .i64 kind, .int .i64 n, .int .i64 k, .int .u64 x]), recovered := true }]) M :=
 eT (C := Cx) good (args := [.pointer (some ⟨c1, 0, none⟩), .pointer (some ⟨c2, 0, none⟩)]) (d := 6) (x := .iface 97 (.agg #[.int .i64 at_, .int .i64 kind, .int .i64 n, .int .i64 k, .int .u64 x])) (u' := .panicking [{ v := .iface 97 (.agg #[.int .i64 at_, .int .i64 kind, .int .i64 n, .int .i64 k, .int .u64 x]), recovered := true }, { v := .iface 97 (.agg #[.int .i64 at_, .int .i64 kind, .int .i64 n, .int .i64 k, .int .u64 x]), recovered := true }]) [(10, .bN [0, 0, 0, 3, 11, 31, 63] (.step 0 (.step 1 (.step 3 (.fT 2 (.step 4 (.step 5 (.step 6 .done))))))))] Tryz.func153 rfl rfl (by kernel_rfl) rfl (by kernel_rfl) h
end Go.Proofs
