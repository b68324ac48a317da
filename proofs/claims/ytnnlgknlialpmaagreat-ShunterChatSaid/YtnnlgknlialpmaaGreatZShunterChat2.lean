/- A part of proofs about one program. -/
import Derived.Test.YtnnlgknlialpmaaGreatZShunterChatDefer2
import Derived.Test.YtnnlgknlialpmaaGreatZShunterChat1
set_option linter.unusedVariables false
namespace Go.Proofs
open Go.AF
set_option maxRecDepth 100000
variable {M : Mem} {K : Value → Mem → Prop} {Kp : List PanicEntry → Mem → Prop}
theorem tF {b0 o0 : Nat} {x1 : Int} (h :
rS M b0 (o0 + 4) fun A1 k2 k3 =>
((0 : Int) ≤ x1) ∧
((x1 : Int) < k2) ∧
aF A1 fun k4 k5 =>
rP M k4 (k5 + (Int.toNat x1)) fun A6 =>
aF A6 fun k7 k8 =>
rS M k7 (k8 + 1) fun A9 fm eT =>
aa Tryz.prog 189 #[(.slice A9 fm eT)] M (fun CX kj =>
b8 (some CX) fun mq =>
aF mq fun gX gA =>
rS kj b0 o0 fun Oo fZ iz =>
rI kj gX gA fun iD =>
(0 ≤ iD) ∧
(iD < fZ) ∧
aF Oo fun eZ gU =>
rS kj eZ (gU + (Int.toNat iD)) fun Yn sE oB =>
aF mq fun uS DE =>
rI kj uS (DE + 1) fun vR =>
aM (decide (vR ≥ sE))
 (cn Tryz.prog 188 (.pointer (some ⟨b0, o0, none⟩)) K Kp (.bool false) (.panicking [{ v := (.iface 340 (iV (-7))), recovered := false }]) kj)
 (aF mq fun gY mQ =>
 rI kj gY (mQ + 1) fun td =>
 (0 ≤ td) ∧
 (td < sE) ∧
 aF Yn fun ur qR =>
 iB kj ur (qR + ((Int.toNat td) * 4)) fun Pk KD zM O9 =>
 aX kj uP fun iE Rt =>
 Lx Rt iE (iV Pk) (iV KD) (iV zM) (iV O9) fun uv =>
 iB uv iE 0 fun B5 FO FP xN =>
 aa Tryz.prog 190 #[(.pointer mq), (.agg #[(iV B5), (iV FO), (iV FP), (iV xN)])] uv (fun v48 xO =>
 cK (some v48) fun t50 =>
 aM t50
 (rI xO iE 0 fun Me =>
 aM (Me == 12)
 (cn Tryz.prog 188 (.pointer (some ⟨b0, o0, none⟩)) K Kp (.bool true) .returning xO)
 (rI xO iE 0 fun ZE =>
 cn Tryz.prog 188 (.pointer (some ⟨b0, o0, none⟩)) K Kp (.bool (ZE == 17)) .returning xO))
 (rI xO iE 0 fun WK =>
 aM (WK == 16)
 (rI xO iE 0 fun Tb =>
 rI xO iE 1 fun Z2 =>
 rI xO iE 2 fun PE =>
 rI xO iE 3 fun KF =>
 aa Tryz.prog 191 #[(.pointer (some ⟨b0, o0, none⟩)), (iV x1), (.pointer mq), (.agg #[(iV Tb), (iV Z2), (iV PE), (iV KF)])] xO (fun v58 AM =>
 (v58 = (.tuple #[])) ∧
 rI AM iE 0 fun SQ =>
 aM (SQ == 12)
 (cn Tryz.prog 188 (.pointer (some ⟨b0, o0, none⟩)) K Kp (.bool true) .returning AM)
 (rI AM iE 0 fun LU =>
 cn Tryz.prog 188 (.pointer (some ⟨b0, o0, none⟩)) K Kp (.bool (LU == 17)) .returning AM)) (fun l62 BT => cn Tryz.prog 188 (.pointer (some ⟨b0, o0, none⟩)) K Kp (.bool false) (.panicking l62) BT))
 (rI xO iE 0 fun n64 =>
 aM (n64 == 21)
 (rI xO iE 0 fun BU =>
 rI xO iE 1 fun Zx =>
 rI xO iE 2 fun ZF =>
 rI xO iE 3 fun Pm =>
 aa Tryz.prog 192 #[(.pointer (some ⟨b0, o0, none⟩)), (iV x1), (.pointer mq), (.agg #[(iV BU), (iV Zx), (iV ZF), (iV Pm)])] xO (fun ZG HA =>
 (ZG = (.tuple #[])) ∧
 rI HA iE 0 fun KE =>
 aM (KE == 12)
 (cn Tryz.prog 188 (.pointer (some ⟨b0, o0, none⟩)) K Kp (.bool true) .returning HA)
 (rI HA iE 0 fun WD =>
 cn Tryz.prog 188 (.pointer (some ⟨b0, o0, none⟩)) K Kp (.bool (WD == 17)) .returning HA)) (fun l73 DL => cn Tryz.prog 188 (.pointer (some ⟨b0, o0, none⟩)) K Kp (.bool false) (.panicking l73) DL))
 (aF mq fun Tk k76 =>
 rI xO Tk (k76 + 1) fun FE =>
 aF mq fun WO Rv =>
 sT xO WO (Rv + 1) (iV (IntKind.wrap .i64 (FE + 1))) fun uW =>
 rI uW iE 0 fun YB =>
 iB uW iE 0 fun Ot Vp Ou Vu =>
 aa Tryz.prog 193 #[] uW (fun v86 PF =>
 ((Mem.iH PF ⟨iE, 0, none⟩ 0 4) = some [(iV Ot), (iV Vp), (iV Ou), (iV Vu)]) ∧
 eI PF iE 0 YB ∧
 aN Tryz.prog (Go.Instr.lookup 345 v86 (iV YB) false) PF (fun v88 FQ =>
 ((Mem.iH FQ ⟨iE, 0, none⟩ 0 4) = some [(iV Ot), (iV Vp), (iV Ou), (iV Vu)]) ∧
 eI FQ iE 0 YB ∧
 g6 Cx v88 [(.pointer (some ⟨b0, o0, none⟩)), (iV x1), (.pointer mq), (.agg #[(iV Ot), (iV Vp), (iV Ou), (iV Vu)])] FQ (fun Mg nE =>
 (Mg = (.tuple #[])) ∧
 ((Mem.iH nE ⟨iE, 0, none⟩ 0 4) = some [(iV Ot), (iV Vp), (iV Ou), (iV Vu)]) ∧
 eI nE iE 0 YB ∧
 rI nE iE 0 fun Wv =>
 aM (Wv == 12)
 (cn Tryz.prog 188 (.pointer (some ⟨b0, o0, none⟩)) K Kp (.bool true) .returning nE)
 (rI nE iE 0 fun n93 =>
 cn Tryz.prog 188 (.pointer (some ⟨b0, o0, none⟩)) K Kp (.bool (n93 == 17)) .returning nE)) (fun l94 Xg => cn Tryz.prog 188 (.pointer (some ⟨b0, o0, none⟩)) K Kp (.bool false) (.panicking l94) Xg)) (fun l96 Pv => cn Tryz.prog 188 (.pointer (some ⟨b0, o0, none⟩)) K Kp (.bool false) (.panicking l96) Pv)) (fun l98 ZV => cn Tryz.prog 188 (.pointer (some ⟨b0, o0, none⟩)) K Kp (.bool false) (.panicking l98) ZV))))) (fun l100 qL => cn Tryz.prog 188 (.pointer (some ⟨b0, o0, none⟩)) K Kp (.bool false) (.panicking l100) qL))) (fun l102 Ti => cn Tryz.prog 188 (.pointer (some ⟨b0, o0, none⟩)) K Kp (.bool false) (.panicking l102) Ti)) :
 aa Tryz.prog 159 #[.pointer (some ⟨b0, o0, none⟩), .int .i64 x1] M K Kp :=
 wA (C := Cx) good (s := 0) (d := 8) (g := 188) (r := 4) [(3, .bQ [0, 1, 3, 7, 15, 0, 32, 96, 224, 511, 1023, 2047] (.step 0 (.step 1 (.step 2 (.step 3 (.step 5 (.step 6 (.step 7 (.step 4 (.step 8 (.step 9 (.step 10 (.step 11 .done))))))))))))), (8, .bQ [0, 0, 2, 7, 0, 0, 0, 0, 255] (.step 1 (.step 4 (.step 5 (.step 6 (.eN 2 (.eN 7 (.step 0 (.step 3 (.step 8 .done))))))))))] Tryz.func159 rfl rfl (by decide) (by kernel_rfl) (by kernel_rfl) h
theorem DY {b o : Nat} {v : Value} (h : K v M) : cn Tryz.prog 188 (.pointer (some ⟨b, o, none⟩)) K Kp v .returning M :=
 eY (C := Cx) good (args := [.pointer (some ⟨b, o, none⟩)]) (d := 5) (x := .nilIface) (u' := .returning) [] Tryz.func188 rfl rfl (by kernel_rfl) rfl (by kernel_rfl) (vc := K v M) h
theorem F4 {b o : Nat} {n : Int} {v : Value} (h :
 aI M ⟨b, (o + 11), none⟩ (.int .i64 2) fun M1 => aI M1 ⟨b, (o + 12), none⟩ (.int .i64 n) fun M2 => K v M2) :
  cn Tryz.prog 188 (.pointer (some ⟨b, o, none⟩)) K Kp v (.panicking [{ v := .iface 340 (.int .i64 n), recovered := false }]) M :=
 eY (C := Cx) good (args := [.pointer (some ⟨b, o, none⟩)]) (d := 5) (x := .iface 340 (.int .i64 n)) (u' := .panicking [{ v := .iface 340 (.int .i64 n), recovered := true }]) [] Tryz.func188 rfl rfl (by kernel_rfl) rfl (by kernel_rfl) h
theorem JI {b o : Nat} {w v : Value} (h : Kp [{ v := .iface 240 w, recovered := false }, { v := .iface 240 w, recovered := true }] M) :
  cn Tryz.prog 188 (.pointer (some ⟨b, o, none⟩)) K Kp v (.panicking [{ v := .iface 240 w, recovered := false }]) M :=
 eY (C := Cx) good (args := [.pointer (some ⟨b, o, none⟩)]) (d := 5) (x := .iface 240 w) (u' := .panicking [{ v := .iface 240 w, recovered := true }]) [] Tryz.func188 rfl rfl (by kernel_rfl) rfl (by kernel_rfl) (vc := Kp [{ v := .iface 240 w, recovered := false }, { v := .iface 240 w, recovered := true }] M) h
theorem Ck {b o : Nat} {w v : Value} (h : Kp [{ v := .iface 97 w, recovered := false }, { v := .iface 97 w, recovered := true }] M) :
  cn Tryz.prog 188 (.pointer (some ⟨b, o, none⟩)) K Kp v (.panicking [{ v := .iface 97 w, recovered := false }]) M :=
 eY (C := Cx) good (args := [.pointer (some ⟨b, o, none⟩)]) (d := 5) (x := .iface 97 w) (u' := .panicking [{ v := .iface 97 w, recovered := true }]) [] Tryz.func188 rfl rfl (by kernel_rfl) rfl (by kernel_rfl) (vc := Kp [{ v := .iface 97 w, recovered := false }, { v := .iface 97 w, recovered := true }] M) h
end Go.Proofs
namespace Go.Proofs
open Go.AF
set_option maxRecDepth 100000
variable {M : Mem} {K : Value → Mem → Prop} {Kp : List PanicEntry → Mem → Prop}
theorem u6 {x0 : Value} {b1 o1 b2 o2 : Nat} (h :
aX M (cl [(.pointer (some ⟨b1, o1, none⟩))] 242) fun k1 M2 =>
aX M2 (cl [(.pointer (some ⟨b2, o2, none⟩))] 243) fun k3 M4 =>
g6 Cx x0 [] M4 (fun v5 M6 =>
(v5 = (.tuple #[])) ∧
jl Tryz.prog 153 [(.pointer (some ⟨k1, 0, none⟩)), (.pointer (some ⟨k3, 0, none⟩))] K Kp (.tuple #[]) .returning M6) (fun l7 M8 => jl Tryz.prog 153 [(.pointer (some ⟨k1, 0, none⟩)), (.pointer (some ⟨k3, 0, none⟩))] K Kp (.tuple #[]) (.panicking l7) M8)) :
 aa Tryz.prog 116 #[x0, .pointer (some ⟨b1, o1, none⟩), .pointer (some ⟨b2, o2, none⟩)] M K Kp :=
 uQ (C := Cx) good (s1 := 4) (s2 := 5) (d := 6) (g := 153) (r := 0) [] Tryz.func116 rfl rfl (by decide) (by kernel_rfl) (by kernel_rfl) h
theorem JJ {c1 c2 : Nat} {v : Value} (h : K v M) : jl Tryz.prog 153 [.pointer (some ⟨c1, 0, none⟩), .pointer (some ⟨c2, 0, none⟩)] K Kp v .returning M :=
 eY (C := Cx) good (args := [.pointer (some ⟨c1, 0, none⟩), .pointer (some ⟨c2, 0, none⟩)]) (d := 6) (x := .nilIface) (u' := .returning) [(10, .bQ [0, 0, 0, 3, 11, 31, 63] (.step 0 (.step 1 (.step 3 (.eN 2 (.step 4 (.step 5 (.step 6 .done))))))))] Tryz.func153 rfl rfl (by kernel_rfl) rfl (by kernel_rfl) (vc := K v M) h
theorem F5 {c1 c2 : Nat} {v : Value} (h :
aX M (.cells #[] 240 (0, 0)) fun k1 M2 =>
b8 (Mem.ld M2 ⟨c1, 0, none⟩) fun A3 =>
aF A3 fun k4 k5 =>
aI M2 ⟨k4, k5, none⟩ (.int .i64 1) fun M6 =>
K v M6) :
  jl Tryz.prog 153 [.pointer (some ⟨c1, 0, none⟩), .pointer (some ⟨c2, 0, none⟩)] K Kp v (.panicking [{ v := .iface 240 (.agg #[]), recovered := false }]) M :=
 eY (C := Cx) good (args := [.pointer (some ⟨c1, 0, none⟩), .pointer (some ⟨c2, 0, none⟩)]) (d := 6) (x := .iface 240 (.agg #[])) (u' := .panicking [{ v := .iface 240 (.agg #[]), recovered := true }]) [(10, .bQ [0, 0, 0, 3, 11, 31, 63] (.step 0 (.step 1 (.step 3 (.eN 2 (.step 4 (.step 5 (.step 6 .done))))))))] Tryz.func153 rfl rfl (by kernel_rfl) rfl (by kernel_rfl) h
theorem DZ {c1 c2 : Nat} {v : Value} (h :
aX M (.cells #[] 240 (0, 0)) fun k1 M2 =>
b8 (Mem.ld M2 ⟨c1, 0, none⟩) fun A3 =>
aF A3 fun k4 k5 =>
aI M2 ⟨k4, k5, none⟩ (.int .i64 1) fun M6 =>
K v M6) :
  jl Tryz.prog 153 [.pointer (some ⟨c1, 0, none⟩), .pointer (some ⟨c2, 0, none⟩)] K Kp v (.panicking [{ v := .iface 240 (.agg #[]), recovered := false }, { v := .iface 240 (.agg #[]), recovered := true }]) M :=
 eY (C := Cx) good (args := [.pointer (some ⟨c1, 0, none⟩), .pointer (some ⟨c2, 0, none⟩)]) (d := 6) (x := .iface 240 (.agg #[])) (u' := .panicking [{ v := .iface 240 (.agg #[]), recovered := true }, { v := .iface 240 (.agg #[]), recovered := true }]) [(10, .bQ [0, 0, 0, 3, 11, 31, 63] (.step 0 (.step 1 (.step 3 (.eN 2 (.step 4 (.step 5 (.step 6 .done))))))))] Tryz.func153 rfl rfl (by kernel_rfl) rfl (by kernel_rfl) h
theorem zS {c1 c2 : Nat} {at_ kind n k x : Int} {v : Value} (h :
aX M (.cells #[(.int .i64 0), (.int .i64 0), (.int .i64 0), (.int .i64 0), (.int .u64 0)] 97 (0, 0)) fun k1 M2 =>
aI M2 ⟨k1, 0, none⟩ (.int .i64 at_) fun M3 =>
aI M3 ⟨k1, (0 + 1), none⟩ (.int .i64 kind) fun M4 =>
aI M4 ⟨k1, (0 + 2), none⟩ (.int .i64 n) fun M5 =>
aI M5 ⟨k1, (0 + 3), none⟩ (.int .i64 k) fun M6 =>
aI M6 ⟨k1, (0 + 4), none⟩ (.int .u64 x) fun M7 =>
b8 (Mem.ld M7 ⟨c1, 0, none⟩) fun A8 =>
b8 (Mem.ld M7 ⟨c2, 0, none⟩) fun A9 =>
aF A8 fun fm eT =>
aH (Mem.ld M7 ⟨k1, 0, none⟩) .i64 fun iQ =>
aH (Mem.ld M7 ⟨k1, (0 + 1), none⟩) .i64 fun kY =>
aH (Mem.ld M7 ⟨k1, (0 + 2), none⟩) .i64 fun pR =>
aH (Mem.ld M7 ⟨k1, (0 + 3), none⟩) .i64 fun jm =>
aH (Mem.ld M7 ⟨k1, (0 + 4), none⟩) .u64 fun lN =>
aI M7 ⟨fm, eT, none⟩ (.int .i64 2) fun mo =>
((Mem.iH mo ⟨k1, 0, none⟩ 0 5) = some [(.int .i64 iQ), (.int .i64 kY), (.int .i64 pR), (.int .i64 jm), (.int .u64 lN)]) ∧
aF A9 fun fZ iz =>
aI mo ⟨fZ, iz, none⟩ (.int .i64 iQ) fun rA =>
aI rA ⟨fZ, (iz + 1), none⟩ (.int .i64 kY) fun wB =>
aI wB ⟨fZ, (iz + 2), none⟩ (.int .i64 pR) fun rC =>
aI rC ⟨fZ, (iz + 3), none⟩ (.int .i64 jm) fun j5 =>
aI j5 ⟨fZ, (iz + 4), none⟩ (.int .u64 lN) fun jn =>
((Mem.iH jn ⟨k1, 0, none⟩ 0 5) = some [(.int .i64 iQ), (.int .i64 kY), (.int .i64 pR), (.int .i64 jm), (.int .u64 lN)]) ∧
K v jn) :
  jl Tryz.prog 153 [.pointer (some ⟨c1, 0, none⟩), .pointer (some ⟨c2, 0, none⟩)] K Kp v (.panicking [{ v := .iface 97 (.agg #[.int .i64 at_, .int .i64 kind, .int .i64 n, .int .i64 k, .int .u64 x]), recovered := false }]) M :=
 eY (C := Cx) good (args := [.pointer (some ⟨c1, 0, none⟩), .pointer (some ⟨c2, 0, none⟩)]) (d := 6) (x := .iface 97 (.agg #[.int .i64 at_, .int .i64 kind, .int .i64 n, .int .i64 k, .int .u64 x])) (u' := .panicking [{ v := .iface 97 (.agg #[.int .i64 at_, .int .i64 kind, .int .i64 n, .int .i64 k, .int .u64 x]), recovered := true }]) [(10, .bQ [0, 0, 0, 3, 11, 31, 63] (.step 0 (.step 1 (.step 3 (.eN 2 (.step 4 (.step 5 (.step 6 .done))))))))] Tryz.func153 rfl rfl (by kernel_rfl) rfl (by kernel_rfl) h
theorem yj {c1 c2 : Nat} {at_ kind n k x : Int} {v : Value} (h :
aX M (.cells #[(.int .i64 0), (.int .i64 0), (.int .i64 0), (.int .i64 0), (.int .u64 0)] 97 (0, 0)) fun k1 M2 =>
aI M2 ⟨k1, 0, none⟩ (.int .i64 at_) fun M3 =>
aI M3 ⟨k1, (0 + 1), none⟩ (.int .i64 kind) fun M4 =>
aI M4 ⟨k1, (0 + 2), none⟩ (.int .i64 n) fun M5 =>
aI M5 ⟨k1, (0 + 3), none⟩ (.int .i64 k) fun M6 =>
aI M6 ⟨k1, (0 + 4), none⟩ (.int .u64 x) fun M7 =>
b8 (Mem.ld M7 ⟨c1, 0, none⟩) fun A8 =>
b8 (Mem.ld M7 ⟨c2, 0, none⟩) fun A9 =>
aF A8 fun fm eT =>
aH (Mem.ld M7 ⟨k1, 0, none⟩) .i64 fun iQ =>
aH (Mem.ld M7 ⟨k1, (0 + 1), none⟩) .i64 fun kY =>
aH (Mem.ld M7 ⟨k1, (0 + 2), none⟩) .i64 fun pR =>
aH (Mem.ld M7 ⟨k1, (0 + 3), none⟩) .i64 fun jm =>
aH (Mem.ld M7 ⟨k1, (0 + 4), none⟩) .u64 fun lN =>
aI M7 ⟨fm, eT, none⟩ (.int .i64 2) fun mo =>
((Mem.iH mo ⟨k1, 0, none⟩ 0 5) = some [(.int .i64 iQ), (.int .i64 kY), (.int .i64 pR), (.int .i64 jm), (.int .u64 lN)]) ∧
aF A9 fun fZ iz =>
aI mo ⟨fZ, iz, none⟩ (.int .i64 iQ) fun rA =>
aI rA ⟨fZ, (iz + 1), none⟩ (.int .i64 kY) fun wB =>
aI wB ⟨fZ, (iz + 2), none⟩ (.int .i64 pR) fun rC =>
aI rC ⟨fZ, (iz + 3), none⟩ (.int .i64 jm) fun j5 =>
aI j5 ⟨fZ, (iz + 4), none⟩ (.int .u64 lN) fun jn =>
((Mem.iH jn ⟨k1, 0, none⟩ 0 5) = some [(.int .i64 iQ), (.int .i64 kY), (.int .i64 pR), (.int .i64 jm), (.int .u64 lN)]) ∧
K v jn) :
  jl Tryz.prog 153 [.pointer (some ⟨c1, 0, none⟩), .pointer (some ⟨c2, 0, none⟩)] K Kp v (.panicking [{ v := .iface 97 (.agg #[.int .i64 at_, .int .i64 kind, .int .i64 n, .int .i64 k, .int .u64 x]), recovered := false }, { v := .iface 97 (.agg #[.int .i64 at_, .int .i64 kind, .int .i64 n, .int .i64 k, .int .u64 x]), recovered := true }]) M :=
 eY (C := Cx) good (args := [.pointer (some ⟨c1, 0, none⟩), .pointer (some ⟨c2, 0, none⟩)]) (d := 6) (x := .iface 97 (.agg #[.int .i64 at_, .int .i64 kind, .int .i64 n, .int .i64 k, .int .u64 x])) (u' := .panicking [{ v := .iface 97 (.agg #[.int .i64 at_, .int .i64 kind, .int .i64 n, .int .i64 k, .int .u64 x]), recovered := true }, { v := .iface 97 (.agg #[.int .i64 at_, .int .i64 kind, .int .i64 n, .int .i64 k, .int .u64 x]), recovered := true }]) [(10, .bQ [0, 0, 0, 3, 11, 31, 63] (.step 0 (.step 1 (.step 3 (.eN 2 (.step 4 (.step 5 (.step 6 .done))))))))] Tryz.func153 rfl rfl (by kernel_rfl) rfl (by kernel_rfl) h
end Go.Proofs
