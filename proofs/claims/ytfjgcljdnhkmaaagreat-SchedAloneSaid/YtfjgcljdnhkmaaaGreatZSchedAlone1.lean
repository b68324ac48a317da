/- A part of proofs about one program. -/
import Derived.Test.YtfjgcljdnhkmaaaGreatZSchedAloneDefer2
import Derived.Test.YtfjgcljdnhkmaaaGreatZSchedAlone0
set_option linter.unusedVariables false
namespace Go.Proofs
open Go.AF
set_option maxRecDepth 100000
variable {M : Mem} {K : Value → Mem → Prop} {Kp : List PanicEntry → Mem → Prop}
theorem rQ {b0 o0 : Nat} {x1 : Int} (h :
rS M b0 (o0 + 4) fun A1 k2 k3 =>
((0 : Int) ≤ x1) ∧
((x1 : Int) < k2) ∧
aD A1 fun k4 k5 =>
rP M k4 (k5 + (Int.toNat x1)) fun A6 =>
aD A6 fun k7 k8 =>
rS M k7 (k8 + 1) fun A9 eM ei =>
aa Tryz.prog 120 #[(.slice A9 eM ei)] M (fun GK ku =>
cj (some GK) fun mP =>
aD mP fun gn fU =>
rS ku b0 o0 fun Kk fV iw =>
rI ku gn fU fun hG =>
(0 ≤ hG) ∧
(hG < fV) ∧
aD Kk fun eY gO =>
rS ku eY (gO + (Int.toNat hG)) fun TG sS uR =>
aD mP fun rq zl =>
rI ku rq (zl + 1) fun tT =>
aQ (decide (tT ≥ sS))
 (bZ Tryz.prog 119 (.pointer (some ⟨b0, o0, none⟩)) K Kp (.bool false) (.panicking [{ v := (.iface 256 (iV (-7))), recovered := false }]) ku)
 (aD mP fun tU lF =>
 rI ku tU (lF + 1) fun uS =>
 (0 ≤ uS) ∧
 (uS < sS) ∧
 aD TG fun w9 zo =>
 jg ku w9 (zo + ((Int.toNat uS) * 4)) fun Oy GS xF Of =>
 bg ku sQ fun ia TM =>
 Fv TM ia (iV Oy) (iV GS) (iV xF) (iV Of) fun xd =>
 jg xd ia 0 fun FK FI Io z0 =>
 aa Tryz.prog 121 #[(.pointer mP), (.agg #[(iV FK), (iV FI), (iV Io), (iV z0)])] xd (fun v48 vB =>
 c6 (some v48) fun t50 =>
 aQ t50
 (rI vB ia 0 fun Ip =>
 aQ (Ip == 12)
 (bZ Tryz.prog 119 (.pointer (some ⟨b0, o0, none⟩)) K Kp (.bool true) .returning vB)
 (rI vB ia 0 fun U8 =>
 bZ Tryz.prog 119 (.pointer (some ⟨b0, o0, none⟩)) K Kp (.bool (U8 == 17)) .returning vB))
 (rI vB ia 0 fun RT =>
 aQ (RT == 16)
 (rI vB ia 0 fun RX =>
 rI vB ia 1 fun VC =>
 rI vB ia 2 fun Li =>
 rI vB ia 3 fun RY =>
 aa Tryz.prog 122 #[(.pointer (some ⟨b0, o0, none⟩)), (iV x1), (.pointer mP), (.agg #[(iV RX), (iV VC), (iV Li), (iV RY)])] vB (fun v58 yx =>
 (v58 = (.tuple #[])) ∧
 rI yx ia 0 fun KW =>
 aQ (KW == 12)
 (bZ Tryz.prog 119 (.pointer (some ⟨b0, o0, none⟩)) K Kp (.bool true) .returning yx)
 (rI yx ia 0 fun Ie =>
 bZ Tryz.prog 119 (.pointer (some ⟨b0, o0, none⟩)) K Kp (.bool (Ie == 17)) .returning yx)) (fun l62 zk => bZ Tryz.prog 119 (.pointer (some ⟨b0, o0, none⟩)) K Kp (.bool false) (.panicking l62) zk))
 (rI vB ia 0 fun n64 =>
 aQ (n64 == 21)
 (rI vB ia 0 fun yo =>
 rI vB ia 1 fun QC =>
 rI vB ia 2 fun QH =>
 rI vB ia 3 fun K7 =>
 aa Tryz.prog 123 #[(.pointer (some ⟨b0, o0, none⟩)), (iV x1), (.pointer mP), (.agg #[(iV yo), (iV QC), (iV QH), (iV K7)])] vB (fun U9 Cf =>
 (U9 = (.tuple #[])) ∧
 rI Cf ia 0 fun TK =>
 aQ (TK == 12)
 (bZ Tryz.prog 119 (.pointer (some ⟨b0, o0, none⟩)) K Kp (.bool true) .returning Cf)
 (rI Cf ia 0 fun RR =>
 bZ Tryz.prog 119 (.pointer (some ⟨b0, o0, none⟩)) K Kp (.bool (RR == 17)) .returning Cf)) (fun l73 Bf => bZ Tryz.prog 119 (.pointer (some ⟨b0, o0, none⟩)) K Kp (.bool false) (.panicking l73) Bf))
 (aD mP fun Vy k76 =>
 rI vB Vy (k76 + 1) fun sU =>
 aD mP fun OE Sg =>
 sT vB OE (Sg + 1) (iV (IntKind.wrap .i64 (sU + 1))) fun zx =>
 rI zx ia 0 fun QM =>
 jg zx ia 0 fun GQ QE MS Nf =>
 aa Tryz.prog 124 #[] zx (fun XR IN =>
 ((Mem.gh IN ⟨ia, 0, none⟩ 0 4) = some [(iV GQ), (iV QE), (iV MS), (iV Nf)]) ∧
 eI IN ia 0 QM ∧
 aZ Tryz.prog (Go.Instr.lookup 261 XR (iV QM) false) IN (fun XT Aa =>
 ((Mem.gh Aa ⟨ia, 0, none⟩ 0 4) = some [(iV GQ), (iV QE), (iV MS), (iV Nf)]) ∧
 eI Aa ia 0 QM ∧
 gy Cx XT [(.pointer (some ⟨b0, o0, none⟩)), (iV x1), (.pointer mP), (.agg #[(iV GQ), (iV QE), (iV MS), (iV Nf)])] Aa (fun La pX =>
 (La = (.tuple #[])) ∧
 ((Mem.gh pX ⟨ia, 0, none⟩ 0 4) = some [(iV GQ), (iV QE), (iV MS), (iV Nf)]) ∧
 eI pX ia 0 QM ∧
 rI pX ia 0 fun U2 =>
 aQ (U2 == 12)
 (bZ Tryz.prog 119 (.pointer (some ⟨b0, o0, none⟩)) K Kp (.bool true) .returning pX)
 (rI pX ia 0 fun n93 =>
 bZ Tryz.prog 119 (.pointer (some ⟨b0, o0, none⟩)) K Kp (.bool (n93 == 17)) .returning pX)) (fun l94 Lo => bZ Tryz.prog 119 (.pointer (some ⟨b0, o0, none⟩)) K Kp (.bool false) (.panicking l94) Lo)) (fun l96 Lb => bZ Tryz.prog 119 (.pointer (some ⟨b0, o0, none⟩)) K Kp (.bool false) (.panicking l96) Lb)) (fun l98 Vt => bZ Tryz.prog 119 (.pointer (some ⟨b0, o0, none⟩)) K Kp (.bool false) (.panicking l98) Vt))))) (fun Yb pG => bZ Tryz.prog 119 (.pointer (some ⟨b0, o0, none⟩)) K Kp (.bool false) (.panicking Yb) pG))) (fun Yc OI => bZ Tryz.prog 119 (.pointer (some ⟨b0, o0, none⟩)) K Kp (.bool false) (.panicking Yc) OI)) :
 aa Tryz.prog 88 #[.pointer (some ⟨b0, o0, none⟩), .int .i64 x1] M K Kp :=
 uw (C := Cx) good (s := 0) (d := 8) (g := 119) (r := 4) [(3, .bL [0, 1, 3, 7, 15, 0, 32, 96, 224, 511, 1023, 2047] (.step 0 (.step 1 (.step 2 (.step 3 (.step 5 (.step 6 (.step 7 (.step 4 (.step 8 (.step 9 (.step 10 (.step 11 .done))))))))))))), (8, .bL [0, 0, 2, 7, 0, 0, 0, 0, 255] (.step 1 (.step 4 (.step 5 (.step 6 (.fK 2 (.fK 7 (.step 0 (.step 3 (.step 8 .done))))))))))] Tryz.func88 rfl rfl (by decide) (by kernel_rfl) (by kernel_rfl) h
theorem Bj {b o : Nat} {v : Value} (h : K v M) : bZ Tryz.prog 119 (.pointer (some ⟨b, o, none⟩)) K Kp v .returning M :=
 eB (C := Cx) good (args := [.pointer (some ⟨b, o, none⟩)]) (d := 5) (x := .nilIface) (u' := .returning) [] Tryz.func119 rfl rfl (by kernel_rfl) rfl (by kernel_rfl) (vc := K v M) h
theorem Dc {b o : Nat} {n : Int} {v : Value} (h :
 aF M ⟨b, (o + 11), none⟩ (.int .i64 2) fun M1 => aF M1 ⟨b, (o + 12), none⟩ (.int .i64 n) fun M2 => K v M2) :
  bZ Tryz.prog 119 (.pointer (some ⟨b, o, none⟩)) K Kp v (.panicking [{ v := .iface 256 (.int .i64 n), recovered := false }]) M :=
 eB (C := Cx) good (args := [.pointer (some ⟨b, o, none⟩)]) (d := 5) (x := .iface 256 (.int .i64 n)) (u' := .panicking [{ v := .iface 256 (.int .i64 n), recovered := true }]) [] Tryz.func119 rfl rfl (by kernel_rfl) rfl (by kernel_rfl) h
theorem F3 {b o : Nat} {w v : Value} (h : Kp [{ v := .iface 227 w, recovered := false }, { v := .iface 227 w, recovered := true }] M) :
  bZ Tryz.prog 119 (.pointer (some ⟨b, o, none⟩)) K Kp v (.panicking [{ v := .iface 227 w, recovered := false }]) M :=
 eB (C := Cx) good (args := [.pointer (some ⟨b, o, none⟩)]) (d := 5) (x := .iface 227 w) (u' := .panicking [{ v := .iface 227 w, recovered := true }]) [] Tryz.func119 rfl rfl (by kernel_rfl) rfl (by kernel_rfl) (vc := Kp [{ v := .iface 227 w, recovered := false }, { v := .iface 227 w, recovered := true }] M) h
theorem zE {b o : Nat} {w v : Value} (h : Kp [{ v := .iface 155 w, recovered := false }, { v := .iface 155 w, recovered := true }] M) :
  bZ Tryz.prog 119 (.pointer (some ⟨b, o, none⟩)) K Kp v (.panicking [{ v := .iface 155 w, recovered := false }]) M :=
 eB (C := Cx) good (args := [.pointer (some ⟨b, o, none⟩)]) (d := 5) (x := .iface 155 w) (u' := .panicking [{ v := .iface 155 w, recovered := true }]) [] Tryz.func119 rfl rfl (by kernel_rfl) rfl (by kernel_rfl) (vc := Kp [{ v := .iface 155 w, recovered := false }, { v := .iface 155 w, recovered := true }] M) h
end Go.Proofs
namespace Go.Proofs
open Go.AF
set_option maxRecDepth 100000
variable {M : Mem} {K : Value → Mem → Prop} {Kp : List PanicEntry → Mem → Prop}
theorem tg {x0 : Value} {b1 o1 b2 o2 : Nat} (h :
bg M (cl [(.pointer (some ⟨b1, o1, none⟩))] 229) fun k1 M2 =>
bg M2 (cl [(.pointer (some ⟨b2, o2, none⟩))] 230) fun k3 M4 =>
gy Cx x0 [] M4 (fun v5 M6 =>
(v5 = (.tuple #[])) ∧
iA Tryz.prog 135 [(.pointer (some ⟨k1, 0, none⟩)), (.pointer (some ⟨k3, 0, none⟩))] K Kp (.tuple #[]) .returning M6) (fun l7 M8 => iA Tryz.prog 135 [(.pointer (some ⟨k1, 0, none⟩)), (.pointer (some ⟨k3, 0, none⟩))] K Kp (.tuple #[]) (.panicking l7) M8)) :
 aa Tryz.prog 104 #[x0, .pointer (some ⟨b1, o1, none⟩), .pointer (some ⟨b2, o2, none⟩)] M K Kp :=
 sR (C := Cx) good (s1 := 4) (s2 := 5) (d := 6) (g := 135) (r := 0) [] Tryz.func104 rfl rfl (by decide) (by kernel_rfl) (by kernel_rfl) h
theorem F4 {c1 c2 : Nat} {v : Value} (h : K v M) : iA Tryz.prog 135 [.pointer (some ⟨c1, 0, none⟩), .pointer (some ⟨c2, 0, none⟩)] K Kp v .returning M :=
 eB (C := Cx) good (args := [.pointer (some ⟨c1, 0, none⟩), .pointer (some ⟨c2, 0, none⟩)]) (d := 6) (x := .nilIface) (u' := .returning) [(10, .bL [0, 0, 0, 3, 11, 31, 63] (.step 0 (.step 1 (.step 3 (.fK 2 (.step 4 (.step 5 (.step 6 .done))))))))] Tryz.func135 rfl rfl (by kernel_rfl) rfl (by kernel_rfl) (vc := K v M) h
theorem Dd {c1 c2 : Nat} {v : Value} (h :
bg M (.cells #[] 227 (0, 0)) fun k1 M2 =>
cj (Mem.ld M2 ⟨c1, 0, none⟩) fun A3 =>
aD A3 fun k4 k5 =>
aF M2 ⟨k4, k5, none⟩ (.int .i64 1) fun M6 =>
K v M6) :
  iA Tryz.prog 135 [.pointer (some ⟨c1, 0, none⟩), .pointer (some ⟨c2, 0, none⟩)] K Kp v (.panicking [{ v := .iface 227 (.agg #[]), recovered := false }]) M :=
 eB (C := Cx) good (args := [.pointer (some ⟨c1, 0, none⟩), .pointer (some ⟨c2, 0, none⟩)]) (d := 6) (x := .iface 227 (.agg #[])) (u' := .panicking [{ v := .iface 227 (.agg #[]), recovered := true }]) [(10, .bL [0, 0, 0, 3, 11, 31, 63] (.step 0 (.step 1 (.step 3 (.fK 2 (.step 4 (.step 5 (.step 6 .done))))))))] Tryz.func135 rfl rfl (by kernel_rfl) rfl (by kernel_rfl) h
theorem Bk {c1 c2 : Nat} {v : Value} (h :
bg M (.cells #[] 227 (0, 0)) fun k1 M2 =>
cj (Mem.ld M2 ⟨c1, 0, none⟩) fun A3 =>
aD A3 fun k4 k5 =>
aF M2 ⟨k4, k5, none⟩ (.int .i64 1) fun M6 =>
K v M6) :
  iA Tryz.prog 135 [.pointer (some ⟨c1, 0, none⟩), .pointer (some ⟨c2, 0, none⟩)] K Kp v (.panicking [{ v := .iface 227 (.agg #[]), recovered := false }, { v := .iface 227 (.agg #[]), recovered := true }]) M :=
 eB (C := Cx) good (args := [.pointer (some ⟨c1, 0, none⟩), .pointer (some ⟨c2, 0, none⟩)]) (d := 6) (x := .iface 227 (.agg #[])) (u' := .panicking [{ v := .iface 227 (.agg #[]), recovered := true }, { v := .iface 227 (.agg #[]), recovered := true }]) [(10, .bL [0, 0, 0, 3, 11, 31, 63] (.step 0 (.step 1 (.step 3 (.fK 2 (.step 4 (.step 5 (.step 6 .done))))))))] Tryz.func135 rfl rfl (by kernel_rfl) rfl (by kernel_rfl) h
theorem xJ {c1 c2 : Nat} {at_ kind n k x : Int} {v : Value} (h :
bg M (.cells #[(.int .i64 0), (.int .i64 0), (.int .i64 0), (.int .i64 0), (.int .u64 0)] 155 (0, 0)) fun k1 M2 =>
aF M2 ⟨k1, 0, none⟩ (.int .i64 at_) fun M3 =>
aF M3 ⟨k1, (0 + 1), none⟩ (.int .i64 kind) fun M4 =>
aF M4 ⟨k1, (0 + 2), none⟩ (.int .i64 n) fun M5 =>
aF M5 ⟨k1, (0 + 3), none⟩ (.int .i64 k) fun M6 =>
aF M6 ⟨k1, (0 + 4), none⟩ (.int .u64 x) fun M7 =>
cj (Mem.ld M7 ⟨c1, 0, none⟩) fun A8 =>
cj (Mem.ld M7 ⟨c2, 0, none⟩) fun A9 =>
aD A8 fun eM ei =>
aG (Mem.ld M7 ⟨k1, 0, none⟩) .i64 fun iy =>
aG (Mem.ld M7 ⟨k1, (0 + 1), none⟩) .i64 fun ju =>
aG (Mem.ld M7 ⟨k1, (0 + 2), none⟩) .i64 fun mj =>
aG (Mem.ld M7 ⟨k1, (0 + 3), none⟩) .i64 fun jt =>
aG (Mem.ld M7 ⟨k1, (0 + 4), none⟩) .u64 fun oy =>
aF M7 ⟨eM, ei, none⟩ (.int .i64 2) fun oN =>
((Mem.gh oN ⟨k1, 0, none⟩ 0 5) = some [(.int .i64 iy), (.int .i64 ju), (.int .i64 mj), (.int .i64 jt), (.int .u64 oy)]) ∧
aD A9 fun fV iw =>
aF oN ⟨fV, iw, none⟩ (.int .i64 iy) fun rm =>
aF rm ⟨fV, (iw + 1), none⟩ (.int .i64 ju) fun tS =>
aF tS ⟨fV, (iw + 2), none⟩ (.int .i64 mj) fun oL =>
aF oL ⟨fV, (iw + 3), none⟩ (.int .i64 jt) fun l8 =>
aF l8 ⟨fV, (iw + 4), none⟩ (.int .u64 oy) fun iS =>
((Mem.gh iS ⟨k1, 0, none⟩ 0 5) = some [(.int .i64 iy), (.int .i64 ju), (.int .i64 mj), (.int .i64 jt), (.int .u64 oy)]) ∧
K v iS) :
  iA Tryz.prog 135 [.pointer (some ⟨c1, 0, none⟩), .pointer (some ⟨c2, 0, none⟩)] K Kp v (.panicking [{ v := .iface 155 (.agg #[.int .i64 at_, .int .i64 kind, .int .i64 n, .int .i64 k, .int .u64 x]), recovered := false }]) M :=
 eB (C := Cx) good (args := [.pointer (some ⟨c1, 0, none⟩), .pointer (some ⟨c2, 0, none⟩)]) (d := 6) (x := .iface 155 (.agg #[.int .i64 at_, .int .i64 kind, .int .i64 n, .int .i64 k, .int .u64 x])) (u' := .panicking [{ v := .iface 155 (.agg #[.int .i64 at_, .int .i64 kind, .int .i64 n, .int .i64 k, .int .u64 x]), recovered := true }]) [(10, .bL [0, 0, 0, 3, 11, 31, 63] (.step 0 (.step 1 (.step 3 (.fK 2 (.step 4 (.step 5 (.step 6 .done))))))))] Tryz.func135 rfl rfl (by kernel_rfl) rfl (by kernel_rfl) h
theorem vQ {c1 c2 : Nat} {at_ kind n k x : Int} {v : Value} (h :
bg M (.cells #[(.int .i64 0), (.int .i64 0), (.int .i64 0), (.int .i64 0), (.int .u64 0)] 155 (0, 0)) fun k1 M2 =>
aF M2 ⟨k1, 0, none⟩ (.int .i64 at_) fun M3 =>
aF M3 ⟨k1, (0 + 1), none⟩ (.int .i64 kind) fun M4 =>
aF M4 ⟨k1, (0 + 2), none⟩ (.int .i64 n) fun M5 =>
aF M5 ⟨k1, (0 + 3), none⟩ (.int .i64 k) fun M6 =>
aF M6 ⟨k1, (0 + 4), none⟩ (.int .u64 x) fun M7 =>
cj (Mem.ld M7 ⟨c1, 0, none⟩) fun A8 =>
cj (Mem.ld M7 ⟨c2, 0, none⟩) fun A9 =>
aD A8 fun eM ei =>
aG (Mem.ld M7 ⟨k1, 0, none⟩) .i64 fun iy =>
aG (Mem.ld M7 ⟨k1, (0 + 1), none⟩) .i64 fun ju =>
aG (Mem.ld M7 ⟨k1, (0 + 2), none⟩) .i64 fun mj =>
aG (Mem.ld M7 ⟨k1, (0 + 3), none⟩) .i64 fun jt =>
aG (Mem.ld M7 ⟨k1, (0 + 4), none⟩) .u64 fun oy =>
aF M7 ⟨eM, ei, none⟩ (.int .i64 2) fun oN =>
((Mem.gh oN ⟨k1, 0, none⟩ 0 5) = some [(.int .i64 iy), (.int .i64 ju), (.int .i64 mj), (.int .i64 jt), (.int .u64 oy)]) ∧
aD A9 fun fV iw =>
aF oN ⟨fV, iw, none⟩ (.int .i64 iy) fun rm =>
aF rm ⟨fV, (iw + 1), none⟩ (.int .i64 ju) fun tS =>
aF tS ⟨fV, (iw + 2), none⟩ (.int .i64 mj) fun oL =>
aF oL ⟨fV, (iw + 3), none⟩ (.int .i64 jt) fun l8 =>
aF l8 ⟨fV, (iw + 4), none⟩ (.int .u64 oy) fun iS =>
((Mem.gh iS ⟨k1, 0, none⟩ 0 5) = some [(.int .i64 iy), (.int .i64 ju), (.int .i64 mj), (.int .i64 jt), (.int .u64 oy)]) ∧
K v iS) :
  iA Tryz.prog 135 [.pointer (some ⟨c1, 0, none⟩), .pointer (some ⟨c2, 0, none⟩)] K Kp v (.panicking [{ v := .iface 155 (.agg #[.int .i64 at_, .int .i64 kind, .int .i64 n, .int .i64 k, .int .u64 x]), recovered := false }, { v := .iface 155 (.agg #[.int .i64 at_, .int .i64 kind, .int .i64 n, .int .i64 k, .int .u64 x]), recovered := true }]) M :=
 eB (C := Cx) good (args := [.pointer (some ⟨c1, 0, none⟩), .pointer (some ⟨c2, 0, none⟩)]) (d := 6) (x := .iface 155 (.agg #[.int .i64 at_, .int .i64 kind, .int .i64 n, .int .i64 k, .int .u64 x])) (u' := .panicking [{ v := .iface 155 (.agg #[.int .i64 at_, .int .i64 kind, .int .i64 n, .int .i64 k, .int .u64 x]), recovered := true }, { v := .iface 155 (.agg #[.int .i64 at_, .int .i64 kind, .int .i64 n, .int .i64 k, .int .u64 x]), recovered := true }]) [(10, .bL [0, 0, 0, 3, 11, 31, 63] (.step 0 (.step 1 (.step 3 (.fK 2 (.step 4 (.step 5 (.step 6 .done))))))))] Tryz.func135 rfl rfl (by kernel_rfl) rfl (by kernel_rfl) h
end Go.Proofs
