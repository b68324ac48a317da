/- A part of proofs about one program. -/
import Derived.Test.YtnnlgknlialpmaaGreatZTaperSumsDefer2
import Derived.Test.YtnnlgknlialpmaaGreatZTaperSums1
set_option linter.unusedVariables false
namespace Go.Proofs
open Go.AF
set_option maxRecDepth 100000
variable {M : Mem} {K : Value → Mem → Prop} {Kp : List PanicEntry → Mem → Prop}
theorem wk {b0 o0 : Nat} {x1 : Int} (h :
rS M b0 (o0 + 4) fun A1 k2 k3 =>
((0 : Int) ≤ x1) ∧
((x1 : Int) < k2) ∧
aE A1 fun k4 k5 =>
rP M k4 (k5 + (Int.toNat x1)) fun A6 =>
aE A6 fun k7 k8 =>
rS M k7 (k8 + 1) fun A9 c6 dL =>
aa Tryz.prog 189 #[(.slice A9 c6 dL)] M (fun zL jl =>
cv (some zL) fun jo =>
aE jo fun gj dK =>
rS jl b0 o0 fun Ed dx gZ =>
rI jl gj dK fun dZ =>
(0 ≤ dZ) ∧
(dZ < dx) ∧
aE Ed fun eG g6 =>
rS jl eG (g6 + (Int.toNat dZ)) fun HR kC nj =>
aE jo fun lV oT =>
rI jl lV (oT + 1) fun rM =>
aQ (decide (rM ≥ kC))
 (cJ Tryz.prog 188 (.pointer (some ⟨b0, o0, none⟩)) K Kp (.bool false) (.panicking [{ v := (.iface 340 (iV (-7))), recovered := false }]) jl)
 (aE jo fun nT kZ =>
 rI jl nT (kZ + 1) fun tQ =>
 (0 ≤ tQ) ∧
 (tQ < kC) ∧
 aE HR fun nO nQ =>
 bN jl nO (nQ + ((Int.toNat tQ) * 4)) fun KS Ek zj KM =>
 aW jl xk fun gm Zn =>
 kB Zn gm (iV KS) (iV Ek) (iV zj) (iV KM) fun zP =>
 bN zP gm 0 fun Di vU BZ wT =>
 aa Tryz.prog 190 #[(.pointer jo), (.agg #[(iV Di), (iV vU), (iV BZ), (iV wT)])] zP (fun v48 zg =>
 dH (some v48) fun t50 =>
 aQ t50
 (rI zg gm 0 fun Fi =>
 aQ (Fi == 12)
 (cJ Tryz.prog 188 (.pointer (some ⟨b0, o0, none⟩)) K Kp (.bool true) .returning zg)
 (rI zg gm 0 fun RV =>
 cJ Tryz.prog 188 (.pointer (some ⟨b0, o0, none⟩)) K Kp (.bool (RV == 17)) .returning zg))
 (rI zg gm 0 fun IY =>
 aQ (IY == 16)
 (rI zg gm 0 fun Ws =>
 rI zg gm 1 fun n55 =>
 rI zg gm 2 fun Gp =>
 rI zg gm 3 fun KW =>
 aa Tryz.prog 191 #[(.pointer (some ⟨b0, o0, none⟩)), (iV x1), (.pointer jo), (.agg #[(iV Ws), (iV n55), (iV Gp), (iV KW)])] zg (fun v58 B4 =>
 (v58 = (.tuple #[])) ∧
 rI B4 gm 0 fun HS =>
 aQ (HS == 12)
 (cJ Tryz.prog 188 (.pointer (some ⟨b0, o0, none⟩)) K Kp (.bool true) .returning B4)
 (rI B4 gm 0 fun De =>
 cJ Tryz.prog 188 (.pointer (some ⟨b0, o0, none⟩)) K Kp (.bool (De == 17)) .returning B4)) (fun l62 zf => cJ Tryz.prog 188 (.pointer (some ⟨b0, o0, none⟩)) K Kp (.bool false) (.panicking l62) zf))
 (rI zg gm 0 fun n64 =>
 aQ (n64 == 21)
 (rI zg gm 0 fun vL =>
 rI zg gm 1 fun N8 =>
 rI zg gm 2 fun RW =>
 rI zg gm 3 fun IW =>
 aa Tryz.prog 192 #[(.pointer (some ⟨b0, o0, none⟩)), (iV x1), (.pointer jo), (.agg #[(iV vL), (iV N8), (iV RW), (iV IW)])] zg (fun v69 KT =>
 (v69 = (.tuple #[])) ∧
 rI KT gm 0 fun Zl =>
 aQ (Zl == 12)
 (cJ Tryz.prog 188 (.pointer (some ⟨b0, o0, none⟩)) K Kp (.bool true) .returning KT)
 (rI KT gm 0 fun Wn =>
 cJ Tryz.prog 188 (.pointer (some ⟨b0, o0, none⟩)) K Kp (.bool (Wn == 17)) .returning KT)) (fun l73 Gf => cJ Tryz.prog 188 (.pointer (some ⟨b0, o0, none⟩)) K Kp (.bool false) (.panicking l73) Gf))
 (aE jo fun k75 k76 =>
 rI zg k75 (k76 + 1) fun zh =>
 aE jo fun RX SY =>
 sT zg RX (SY + 1) (iV (IntKind.wrap .i64 (zh + 1))) fun En =>
 rI En gm 0 fun Zw =>
 bN En gm 0 fun Oa Vb Ob HZ =>
 aa Tryz.prog 193 #[] En (fun v86 K3 =>
 ((Mem.gd K3 ⟨gm, 0, none⟩ 0 4) = some [(iV Oa), (iV Vb), (iV Ob), (iV HZ)]) ∧
 eI K3 gm 0 Zw ∧
 aX Tryz.prog (Go.Instr.lookup 345 v86 (iV Zw) false) K3 (fun v88 Gi =>
 ((Mem.gd Gi ⟨gm, 0, none⟩ 0 4) = some [(iV Oa), (iV Vb), (iV Ob), (iV HZ)]) ∧
 eI Gi gm 0 Zw ∧
 gf Cx v88 [(.pointer (some ⟨b0, o0, none⟩)), (iV x1), (.pointer jo), (.agg #[(iV Oa), (iV Vb), (iV Ob), (iV HZ)])] Gi (fun SS my =>
 (SS = (.tuple #[])) ∧
 ((Mem.gd my ⟨gm, 0, none⟩ 0 4) = some [(iV Oa), (iV Vb), (iV Ob), (iV HZ)]) ∧
 eI my gm 0 Zw ∧
 rI my gm 0 fun n92 =>
 aQ (n92 == 12)
 (cJ Tryz.prog 188 (.pointer (some ⟨b0, o0, none⟩)) K Kp (.bool true) .returning my)
 (rI my gm 0 fun Tk =>
 cJ Tryz.prog 188 (.pointer (some ⟨b0, o0, none⟩)) K Kp (.bool (Tk == 17)) .returning my)) (fun l94 R9 => cJ Tryz.prog 188 (.pointer (some ⟨b0, o0, none⟩)) K Kp (.bool false) (.panicking l94) R9)) (fun l96 PC => cJ Tryz.prog 188 (.pointer (some ⟨b0, o0, none⟩)) K Kp (.bool false) (.panicking l96) PC)) (fun l98 M99 => cJ Tryz.prog 188 (.pointer (some ⟨b0, o0, none⟩)) K Kp (.bool false) (.panicking l98) M99))))) (fun l100 iP => cJ Tryz.prog 188 (.pointer (some ⟨b0, o0, none⟩)) K Kp (.bool false) (.panicking l100) iP))) (fun l102 Gj => cJ Tryz.prog 188 (.pointer (some ⟨b0, o0, none⟩)) K Kp (.bool false) (.panicking l102) Gj)) :
 aa Tryz.prog 159 #[.pointer (some ⟨b0, o0, none⟩), .int .i64 x1] M K Kp :=
 zd (C := Cx) good (s := 0) (d := 8) (g := 188) (r := 4) [(3, .bQ [0, 1, 3, 7, 15, 0, 32, 96, 224, 511, 1023, 2047] (.step 0 (.step 1 (.step 2 (.step 3 (.step 5 (.step 6 (.step 7 (.step 4 (.step 8 (.step 9 (.step 10 (.step 11 .done))))))))))))), (8, .bQ [0, 0, 2, 7, 0, 0, 0, 0, 255] (.step 1 (.step 4 (.step 5 (.step 6 (.cE 2 (.cE 7 (.step 0 (.step 3 (.step 8 .done))))))))))] Tryz.func159 rfl rfl (by decide) (by kernel_rfl) (by kernel_rfl) h
theorem GB {b o : Nat} {v : Value} (h : K v M) : cJ Tryz.prog 188 (.pointer (some ⟨b, o, none⟩)) K Kp v .returning M :=
 fW (C := Cx) good (args := [.pointer (some ⟨b, o, none⟩)]) (d := 5) (x := .nilIface) (u' := .returning) [] Tryz.func188 rfl rfl (by kernel_rfl) rfl (by kernel_rfl) (vc := K v M) h
theorem Jq {b o : Nat} {n : Int} {v : Value} (h :
 aN M ⟨b, (o + 11), none⟩ (.int .i64 2) fun M1 => aN M1 ⟨b, (o + 12), none⟩ (.int .i64 n) fun M2 => K v M2) :
  cJ Tryz.prog 188 (.pointer (some ⟨b, o, none⟩)) K Kp v (.panicking [{ v := .iface 340 (.int .i64 n), recovered := false }]) M :=
 fW (C := Cx) good (args := [.pointer (some ⟨b, o, none⟩)]) (d := 5) (x := .iface 340 (.int .i64 n)) (u' := .panicking [{ v := .iface 340 (.int .i64 n), recovered := true }]) [] Tryz.func188 rfl rfl (by kernel_rfl) rfl (by kernel_rfl) h
theorem Nd {b o : Nat} {w v : Value} (h : Kp [{ v := .iface 240 w, recovered := false }, { v := .iface 240 w, recovered := true }] M) :
  cJ Tryz.prog 188 (.pointer (some ⟨b, o, none⟩)) K Kp v (.panicking [{ v := .iface 240 w, recovered := false }]) M :=
 fW (C := Cx) good (args := [.pointer (some ⟨b, o, none⟩)]) (d := 5) (x := .iface 240 w) (u' := .panicking [{ v := .iface 240 w, recovered := true }]) [] Tryz.func188 rfl rfl (by kernel_rfl) rfl (by kernel_rfl) (vc := Kp [{ v := .iface 240 w, recovered := false }, { v := .iface 240 w, recovered := true }] M) h
theorem EB {b o : Nat} {w v : Value} (h : Kp [{ v := .iface 97 w, recovered := false }, { v := .iface 97 w, recovered := true }] M) :
  cJ Tryz.prog 188 (.pointer (some ⟨b, o, none⟩)) K Kp v (.panicking [{ v := .iface 97 w, recovered := false }]) M :=
 fW (C := Cx) good (args := [.pointer (some ⟨b, o, none⟩)]) (d := 5) (x := .iface 97 w) (u' := .panicking [{ v := .iface 97 w, recovered := true }]) [] Tryz.func188 rfl rfl (by kernel_rfl) rfl (by kernel_rfl) (vc := Kp [{ v := .iface 97 w, recovered := false }, { v := .iface 97 w, recovered := true }] M) h
end Go.Proofs
namespace Go.Proofs
open Go.AF
set_option maxRecDepth 100000
variable {M : Mem} {K : Value → Mem → Prop} {Kp : List PanicEntry → Mem → Prop}
theorem xS {x0 : Value} {b1 o1 b2 o2 : Nat} (h :
aW M (cl [(.pointer (some ⟨b1, o1, none⟩))] 242) fun k1 M2 =>
aW M2 (cl [(.pointer (some ⟨b2, o2, none⟩))] 243) fun k3 M4 =>
gf Cx x0 [] M4 (fun v5 M6 =>
(v5 = (.tuple #[])) ∧
ke Tryz.prog 153 [(.pointer (some ⟨k1, 0, none⟩)), (.pointer (some ⟨k3, 0, none⟩))] K Kp (.tuple #[]) .returning M6) (fun l7 M8 => ke Tryz.prog 153 [(.pointer (some ⟨k1, 0, none⟩)), (.pointer (some ⟨k3, 0, none⟩))] K Kp (.tuple #[]) (.panicking l7) M8)) :
 aa Tryz.prog 116 #[x0, .pointer (some ⟨b1, o1, none⟩), .pointer (some ⟨b2, o2, none⟩)] M K Kp :=
 xp (C := Cx) good (s1 := 4) (s2 := 5) (d := 6) (g := 153) (r := 0) [] Tryz.func116 rfl rfl (by decide) (by kernel_rfl) (by kernel_rfl) h
theorem Nf {c1 c2 : Nat} {v : Value} (h : K v M) : ke Tryz.prog 153 [.pointer (some ⟨c1, 0, none⟩), .pointer (some ⟨c2, 0, none⟩)] K Kp v .returning M :=
 fW (C := Cx) good (args := [.pointer (some ⟨c1, 0, none⟩), .pointer (some ⟨c2, 0, none⟩)]) (d := 6) (x := .nilIface) (u' := .returning) [(10, .bQ [0, 0, 0, 3, 11, 31, 63] (.step 0 (.step 1 (.step 3 (.cE 2 (.step 4 (.step 5 (.step 6 .done))))))))] Tryz.func153 rfl rfl (by kernel_rfl) rfl (by kernel_rfl) (vc := K v M) h
theorem Jr {c1 c2 : Nat} {v : Value} (h :
aW M (.cells #[] 240 (0, 0)) fun k1 M2 =>
cv (Mem.ld M2 ⟨c1, 0, none⟩) fun A3 =>
aE A3 fun k4 k5 =>
aN M2 ⟨k4, k5, none⟩ (.int .i64 1) fun M6 =>
K v M6) :
  ke Tryz.prog 153 [.pointer (some ⟨c1, 0, none⟩), .pointer (some ⟨c2, 0, none⟩)] K Kp v (.panicking [{ v := .iface 240 (.agg #[]), recovered := false }]) M :=
 fW (C := Cx) good (args := [.pointer (some ⟨c1, 0, none⟩), .pointer (some ⟨c2, 0, none⟩)]) (d := 6) (x := .iface 240 (.agg #[])) (u' := .panicking [{ v := .iface 240 (.agg #[]), recovered := true }]) [(10, .bQ [0, 0, 0, 3, 11, 31, 63] (.step 0 (.step 1 (.step 3 (.cE 2 (.step 4 (.step 5 (.step 6 .done))))))))] Tryz.func153 rfl rfl (by kernel_rfl) rfl (by kernel_rfl) h
theorem GC {c1 c2 : Nat} {v : Value} (h :
aW M (.cells #[] 240 (0, 0)) fun k1 M2 =>
cv (Mem.ld M2 ⟨c1, 0, none⟩) fun A3 =>
aE A3 fun k4 k5 =>
aN M2 ⟨k4, k5, none⟩ (.int .i64 1) fun M6 =>
K v M6) :
  ke Tryz.prog 153 [.pointer (some ⟨c1, 0, none⟩), .pointer (some ⟨c2, 0, none⟩)] K Kp v (.panicking [{ v := .iface 240 (.agg #[]), recovered := false }, { v := .iface 240 (.agg #[]), recovered := true }]) M :=
 fW (C := Cx) good (args := [.pointer (some ⟨c1, 0, none⟩), .pointer (some ⟨c2, 0, none⟩)]) (d := 6) (x := .iface 240 (.agg #[])) (u' := .panicking [{ v := .iface 240 (.agg #[]), recovered := true }, { v := .iface 240 (.agg #[]), recovered := true }]) [(10, .bQ [0, 0, 0, 3, 11, 31, 63] (.step 0 (.step 1 (.step 3 (.cE 2 (.step 4 (.step 5 (.step 6 .done))))))))] Tryz.func153 rfl rfl (by kernel_rfl) rfl (by kernel_rfl) h
theorem CA {c1 c2 : Nat} {at_ kind n k x : Int} {v : Value} (h :
aW M (.cells #[(.int .i64 0), (.int .i64 0), (.int .i64 0), (.int .i64 0), (.int .u64 0)] 97 (0, 0)) fun k1 M2 =>
aN M2 ⟨k1, 0, none⟩ (.int .i64 at_) fun M3 =>
aN M3 ⟨k1, (0 + 1), none⟩ (.int .i64 kind) fun M4 =>
aN M4 ⟨k1, (0 + 2), none⟩ (.int .i64 n) fun M5 =>
aN M5 ⟨k1, (0 + 3), none⟩ (.int .i64 k) fun M6 =>
aN M6 ⟨k1, (0 + 4), none⟩ (.int .u64 x) fun M7 =>
cv (Mem.ld M7 ⟨c1, 0, none⟩) fun A8 =>
cv (Mem.ld M7 ⟨c2, 0, none⟩) fun A9 =>
aE A8 fun c6 dL =>
aK (Mem.ld M7 ⟨k1, 0, none⟩) .i64 fun gy =>
aK (Mem.ld M7 ⟨k1, (0 + 1), none⟩) .i64 fun hG =>
aK (Mem.ld M7 ⟨k1, (0 + 2), none⟩) .i64 fun j5 =>
aK (Mem.ld M7 ⟨k1, (0 + 3), none⟩) .i64 fun gT =>
aK (Mem.ld M7 ⟨k1, (0 + 4), none⟩) .u64 fun jz =>
aN M7 ⟨c6, dL, none⟩ (.int .i64 2) fun kY =>
((Mem.gd kY ⟨k1, 0, none⟩ 0 5) = some [(.int .i64 gy), (.int .i64 hG), (.int .i64 j5), (.int .i64 gT), (.int .u64 jz)]) ∧
aE A9 fun dx gZ =>
aN kY ⟨dx, gZ, none⟩ (.int .i64 gy) fun kX =>
aN kX ⟨dx, (gZ + 1), none⟩ (.int .i64 hG) fun jG =>
aN jG ⟨dx, (gZ + 2), none⟩ (.int .i64 j5) fun cU =>
aN cU ⟨dx, (gZ + 3), none⟩ (.int .i64 gT) fun gQ =>
aN gQ ⟨dx, (gZ + 4), none⟩ (.int .u64 jz) fun j6 =>
((Mem.gd j6 ⟨k1, 0, none⟩ 0 5) = some [(.int .i64 gy), (.int .i64 hG), (.int .i64 j5), (.int .i64 gT), (.int .u64 jz)]) ∧
K v j6) :
  ke Tryz.prog 153 [.pointer (some ⟨c1, 0, none⟩), .pointer (some ⟨c2, 0, none⟩)] K Kp v (.panicking [{ v := .iface 97 (.agg #[.int .i64 at_, .int .i64 kind, .int .i64 n, .int .i64 k, .int .u64 x]), recovered := false }]) M :=
 fW (C := Cx) good (args := [.pointer (some ⟨c1, 0, none⟩), .pointer (some ⟨c2, 0, none⟩)]) (d := 6) (x := .iface 97 (.agg #[.int .i64 at_, .int .i64 kind, .int .i64 n, .int .i64 k, .int .u64 x])) (u' := .panicking [{ v := .iface 97 (.agg #[.int .i64 at_, .int .i64 kind, .int .i64 n, .int .i64 k, .int .u64 x]), recovered := true }]) [(10, .bQ [0, 0, 0, 3, 11, 31, 63] (.step 0 (.step 1 (.step 3 (.cE 2 (.step 4 (.step 5 (.step 6 .done))))))))] Tryz.func153 rfl rfl (by kernel_rfl) rfl (by kernel_rfl) h
theorem AY {c1 c2 : Nat} {at_ kind n k x : Int} {v : Value} (h :
aW M (.cells #[(.int .i64 0), (.int .i64 0), (.int .i64 0), (.int .i64 0), (.int .u64 0)] 97 (0, 0)) fun k1 M2 =>
aN M2 ⟨k1, 0, none⟩ (.int .i64 at_) fun M3 =>
aN M3 ⟨k1, (0 + 1), none⟩ (.int .i64 kind) fun M4 =>
aN M4 ⟨k1, (0 + 2), none⟩ (.int .i64 n) fun M5 =>
aN M5 ⟨k1, (0 + 3), none⟩ (.int .i64 k) fun M6 =>
aN M6 ⟨k1, (0 + 4), none⟩ (.int .u64 x) fun M7 =>
cv (Mem.ld M7 ⟨c1, 0, none⟩) fun A8 =>
cv (Mem.ld M7 ⟨c2, 0, none⟩) fun A9 =>
aE A8 fun c6 dL =>
aK (Mem.ld M7 ⟨k1, 0, none⟩) .i64 fun gy =>
aK (Mem.ld M7 ⟨k1, (0 + 1), none⟩) .i64 fun hG =>
aK (Mem.ld M7 ⟨k1, (0 + 2), none⟩) .i64 fun j5 =>
aK (Mem.ld M7 ⟨k1, (0 + 3), none⟩) .i64 fun gT =>
aK (Mem.ld M7 ⟨k1, (0 + 4), none⟩) .u64 fun jz =>
aN M7 ⟨c6, dL, none⟩ (.int .i64 2) fun kY =>
((Mem.gd kY ⟨k1, 0, none⟩ 0 5) = some [(.int .i64 gy), (.int .i64 hG), (.int .i64 j5), (.int .i64 gT), (.int .u64 jz)]) ∧
aE A9 fun dx gZ =>
aN kY ⟨dx, gZ, none⟩ (.int .i64 gy) fun kX =>
aN kX ⟨dx, (gZ + 1), none⟩ (.int .i64 hG) fun jG =>
aN jG ⟨dx, (gZ + 2), none⟩ (.int .i64 j5) fun cU =>
aN cU ⟨dx, (gZ + 3), none⟩ (.int .i64 gT) fun gQ =>
aN gQ ⟨dx, (gZ + 4), none⟩ (.int .u64 jz) fun j6 =>
((Mem.gd j6 ⟨k1, 0, none⟩ 0 5) = some [(.int .i64 gy), (.int .i64 hG), (.int .i64 j5), (.int .i64 gT), (.int .u64 jz)]) ∧
K v j6) :
  ke Tryz.prog 153 [.pointer (some ⟨c1, 0, none⟩), .pointer (some ⟨c2, 0, none⟩)] K Kp v (.panicking [{ v := .iface 97 (.agg #[.int .i64 at_, .int .i64 kind, .int .i64 n, .int .i64 k, .int .u64 x]), recovered := false }, { v := .iface 97 (.agg #[.int .i64 at_, .int .i64 kind, .int .i64 n, .int .i64 k, .int .u64 x]), recovered := true }]) M :=
 fW (C := Cx) good (args := [.pointer (some ⟨c1, 0, none⟩), .pointer (some ⟨c2, 0, none⟩)]) (d := 6) (x := .iface 97 (.agg #[.int .i64 at_, .int .i64 kind, .int .i64 n, .int .i64 k, .int .u64 x])) (u' := .panicking [{ v := .iface 97 (.agg #[.int .i64 at_, .int .i64 kind, .int .i64 n, .int .i64 k, .int .u64 x]), recovered := true }, { v := .iface 97 (.agg #[.int .i64 at_, .int .i64 kind, .int .i64 n, .int .i64 k, .int .u64 x]), recovered := true }]) [(10, .bQ [0, 0, 0, 3, 11, 31, 63] (.step 0 (.step 1 (.step 3 (.cE 2 (.step 4 (.step 5 (.step 6 .done))))))))] Tryz.func153 rfl rfl (by kernel_rfl) rfl (by kernel_rfl) h
end Go.Proofs
