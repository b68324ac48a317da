/- A part of proofs about one program. -/
import Derived.Test.YtnnlgknlialpmaaGreatZReplayToldDefer2
import Derived.Test.YtnnlgknlialpmaaGreatZReplayTold1
set_option linter.unusedVariables false
namespace Go.Proofs
open Go.AF
set_option maxRecDepth 100000
variable {M : Mem} {K : Value → Mem → Prop} {Kp : List PanicEntry → Mem → Prop}
theorem qK {b0 o0 : Nat} {x1 : Int} (h :
rS M b0 (o0 + 4) fun A1 k2 k3 =>
((0 : Int) ≤ x1) ∧
((x1 : Int) < k2) ∧
az A1 fun k4 k5 =>
rP M k4 (k5 + (Int.toNat x1)) fun A6 =>
az A6 fun k7 k8 =>
rS M k7 (k8 + 1) fun A9 cX cN =>
aa Tryz.prog 189 #[(.slice A9 cX cN)] M (fun F2 jB =>
cz (some F2) fun gz =>
az gz fun eV dk =>
rS jB b0 o0 fun BU dK gN =>
rI jB eV dk fun eP =>
(0 ≤ eP) ∧
(eP < dK) ∧
az BU fun cU eX =>
rS jB cU (eX + (Int.toNat eP)) fun CA kU oq =>
az gz fun oN qd =>
rI jB oN (qd + 1) fun oO =>
aK (decide (oO ≥ kU))
 (bW Tryz.prog 188 (.pointer (some ⟨b0, o0, none⟩)) K Kp (.bool false) (.panicking [{ v := (.iface 340 (iV (-7))), recovered := false }]) jB)
 (az gz fun m5 jL =>
 rI jB m5 (jL + 1) fun sP =>
 (0 ≤ sP) ∧
 (sP < kU) ∧
 az CA fun l8 kX =>
 gM jB l8 (kX + ((Int.toNat sP) * 4)) fun D1 wW r5 wA =>
 aX jB rQ fun fC Sy =>
 MT Sy fC (iV D1) (iV wW) (iV r5) (iV wA) fun wF =>
 gM wF fC 0 fun sW tG wX ru =>
 aa Tryz.prog 190 #[(.pointer gz), (.agg #[(iV sW), (iV tG), (iV wX), (iV ru)])] wF (fun Wg tC =>
 cY (some Wg) fun t50 =>
 aK t50
 (rI tC fC 0 fun zE =>
 aK (zE == 12)
 (bW Tryz.prog 188 (.pointer (some ⟨b0, o0, none⟩)) K Kp (.bool true) .returning tC)
 (rI tC fC 0 fun Gb =>
 bW Tryz.prog 188 (.pointer (some ⟨b0, o0, none⟩)) K Kp (.bool (Gb == 17)) .returning tC))
 (rI tC fC 0 fun Gc =>
 aK (Gc == 16)
 (rI tC fC 0 fun Jt =>
 rI tC fC 1 fun Jv =>
 rI tC fC 2 fun wH =>
 rI tC fC 3 fun BY =>
 aa Tryz.prog 191 #[(.pointer (some ⟨b0, o0, none⟩)), (iV x1), (.pointer gz), (.agg #[(iV Jt), (iV Jv), (iV wH), (iV BY)])] tC (fun v58 xT =>
 (v58 = (.tuple #[])) ∧
 rI xT fC 0 fun CB =>
 aK (CB == 12)
 (bW Tryz.prog 188 (.pointer (some ⟨b0, o0, none⟩)) K Kp (.bool true) .returning xT)
 (rI xT fC 0 fun yR =>
 bW Tryz.prog 188 (.pointer (some ⟨b0, o0, none⟩)) K Kp (.bool (yR == 17)) .returning xT)) (fun l62 tB => bW Tryz.prog 188 (.pointer (some ⟨b0, o0, none⟩)) K Kp (.bool false) (.panicking l62) tB))
 (rI tC fC 0 fun n64 =>
 aK (n64 == 21)
 (rI tC fC 0 fun pG =>
 rI tC fC 1 fun E5 =>
 rI tC fC 2 fun Jr =>
 rI tC fC 3 fun BW =>
 aa Tryz.prog 192 #[(.pointer (some ⟨b0, o0, none⟩)), (iV x1), (.pointer gz), (.agg #[(iV pG), (iV E5), (iV Jr), (iV BW)])] tC (fun T3 D2 =>
 (T3 = (.tuple #[])) ∧
 rI D2 fC 0 fun Px =>
 aK (Px == 12)
 (bW Tryz.prog 188 (.pointer (some ⟨b0, o0, none⟩)) K Kp (.bool true) .returning D2)
 (rI D2 fC 0 fun Ng =>
 bW Tryz.prog 188 (.pointer (some ⟨b0, o0, none⟩)) K Kp (.bool (Ng == 17)) .returning D2)) (fun l73 xS => bW Tryz.prog 188 (.pointer (some ⟨b0, o0, none⟩)) K Kp (.bool false) (.panicking l73) xS))
 (az gz fun Uh k76 =>
 rI tC Uh (k76 + 1) fun uO =>
 az gz fun QN Jx =>
 sT tC QN (Jx + 1) (iV (IntKind.wrap .i64 (uO + 1))) fun wZ =>
 rI wZ fC 0 fun SS =>
 gM wZ fC 0 fun F7 LG Jp Kr =>
 aa Tryz.prog 193 #[] wZ (fun v86 Kt =>
 ((Mem.dP Kt ⟨fC, 0, none⟩ 0 4) = some [(iV F7), (iV LG), (iV Jp), (iV Kr)]) ∧
 eI Kt fC 0 SS ∧
 bh Tryz.prog (Go.Instr.lookup 345 v86 (iV SS) false) Kt (fun v88 CM =>
 ((Mem.dP CM ⟨fC, 0, none⟩ 0 4) = some [(iV F7), (iV LG), (iV Jp), (iV Kr)]) ∧
 eI CM fC 0 SS ∧
 gn Cx v88 [(.pointer (some ⟨b0, o0, none⟩)), (iV x1), (.pointer gz), (.agg #[(iV F7), (iV LG), (iV Jp), (iV Kr)])] CM (fun Kj oP =>
 (Kj = (.tuple #[])) ∧
 ((Mem.dP oP ⟨fC, 0, none⟩ 0 4) = some [(iV F7), (iV LG), (iV Jp), (iV Kr)]) ∧
 eI oP fC 0 SS ∧
 rI oP fC 0 fun Qy =>
 aK (Qy == 12)
 (bW Tryz.prog 188 (.pointer (some ⟨b0, o0, none⟩)) K Kp (.bool true) .returning oP)
 (rI oP fC 0 fun n93 =>
 bW Tryz.prog 188 (.pointer (some ⟨b0, o0, none⟩)) K Kp (.bool (n93 == 17)) .returning oP)) (fun l94 Rb => bW Tryz.prog 188 (.pointer (some ⟨b0, o0, none⟩)) K Kp (.bool false) (.panicking l94) Rb)) (fun l96 Kl => bW Tryz.prog 188 (.pointer (some ⟨b0, o0, none⟩)) K Kp (.bool false) (.panicking l96) Kl)) (fun l98 Ud => bW Tryz.prog 188 (.pointer (some ⟨b0, o0, none⟩)) K Kp (.bool false) (.panicking l98) Ud))))) (fun l100 kF => bW Tryz.prog 188 (.pointer (some ⟨b0, o0, none⟩)) K Kp (.bool false) (.panicking l100) kF))) (fun l102 Nm => bW Tryz.prog 188 (.pointer (some ⟨b0, o0, none⟩)) K Kp (.bool false) (.panicking l102) Nm)) :
 aa Tryz.prog 159 #[.pointer (some ⟨b0, o0, none⟩), .int .i64 x1] M K Kp :=
 tx (C := Cx) good (s := 0) (d := 8) (g := 188) (r := 4) [(3, .bL [0, 1, 3, 7, 15, 0, 32, 96, 224, 511, 1023, 2047] (.step 0 (.step 1 (.step 2 (.step 3 (.step 5 (.step 6 (.step 7 (.step 4 (.step 8 (.step 9 (.step 10 (.step 11 .done))))))))))))), (8, .bL [0, 0, 2, 7, 0, 0, 0, 0, 255] (.step 1 (.step 4 (.step 5 (.step 6 (.eo 2 (.eo 7 (.step 0 (.step 3 (.step 8 .done))))))))))] Tryz.func159 rfl rfl (by decide) (by kernel_rfl) (by kernel_rfl) h
theorem AV {b o : Nat} {v : Value} (h : K v M) : bW Tryz.prog 188 (.pointer (some ⟨b, o, none⟩)) K Kp v .returning M :=
 dV (C := Cx) good (args := [.pointer (some ⟨b, o, none⟩)]) (d := 5) (x := .nilIface) (u' := .returning) [] Tryz.func188 rfl rfl (by kernel_rfl) rfl (by kernel_rfl) (vc := K v M) h
theorem CV {b o : Nat} {n : Int} {v : Value} (h :
 aF M ⟨b, (o + 11), none⟩ (.int .i64 2) fun M1 => aF M1 ⟨b, (o + 12), none⟩ (.int .i64 n) fun M2 => K v M2) :
  bW Tryz.prog 188 (.pointer (some ⟨b, o, none⟩)) K Kp v (.panicking [{ v := .iface 340 (.int .i64 n), recovered := false }]) M :=
 dV (C := Cx) good (args := [.pointer (some ⟨b, o, none⟩)]) (d := 5) (x := .iface 340 (.int .i64 n)) (u' := .panicking [{ v := .iface 340 (.int .i64 n), recovered := true }]) [] Tryz.func188 rfl rfl (by kernel_rfl) rfl (by kernel_rfl) h
theorem Fw {b o : Nat} {w v : Value} (h : Kp [{ v := .iface 240 w, recovered := false }, { v := .iface 240 w, recovered := true }] M) :
  bW Tryz.prog 188 (.pointer (some ⟨b, o, none⟩)) K Kp v (.panicking [{ v := .iface 240 w, recovered := false }]) M :=
 dV (C := Cx) good (args := [.pointer (some ⟨b, o, none⟩)]) (d := 5) (x := .iface 240 w) (u' := .panicking [{ v := .iface 240 w, recovered := true }]) [] Tryz.func188 rfl rfl (by kernel_rfl) rfl (by kernel_rfl) (vc := Kp [{ v := .iface 240 w, recovered := false }, { v := .iface 240 w, recovered := true }] M) h
theorem zh {b o : Nat} {w v : Value} (h : Kp [{ v := .iface 97 w, recovered := false }, { v := .iface 97 w, recovered := true }] M) :
  bW Tryz.prog 188 (.pointer (some ⟨b, o, none⟩)) K Kp v (.panicking [{ v := .iface 97 w, recovered := false }]) M :=
 dV (C := Cx) good (args := [.pointer (some ⟨b, o, none⟩)]) (d := 5) (x := .iface 97 w) (u' := .panicking [{ v := .iface 97 w, recovered := true }]) [] Tryz.func188 rfl rfl (by kernel_rfl) rfl (by kernel_rfl) (vc := Kp [{ v := .iface 97 w, recovered := false }, { v := .iface 97 w, recovered := true }] M) h
end Go.Proofs
namespace Go.Proofs
open Go.AF
set_option maxRecDepth 100000
variable {M : Mem} {K : Value → Mem → Prop} {Kp : List PanicEntry → Mem → Prop}
theorem si {x0 : Value} {b1 o1 b2 o2 : Nat} (h :
aX M (cl [(.pointer (some ⟨b1, o1, none⟩))] 242) fun k1 M2 =>
aX M2 (cl [(.pointer (some ⟨b2, o2, none⟩))] 243) fun k3 M4 =>
gn Cx x0 [] M4 (fun v5 M6 =>
(v5 = (.tuple #[])) ∧
gU Tryz.prog 153 [(.pointer (some ⟨k1, 0, none⟩)), (.pointer (some ⟨k3, 0, none⟩))] K Kp (.tuple #[]) .returning M6) (fun l7 M8 => gU Tryz.prog 153 [(.pointer (some ⟨k1, 0, none⟩)), (.pointer (some ⟨k3, 0, none⟩))] K Kp (.tuple #[]) (.panicking l7) M8)) :
 aa Tryz.prog 116 #[x0, .pointer (some ⟨b1, o1, none⟩), .pointer (some ⟨b2, o2, none⟩)] M K Kp :=
 rR (C := Cx) good (s1 := 4) (s2 := 5) (d := 6) (g := 153) (r := 0) [] Tryz.func116 rfl rfl (by decide) (by kernel_rfl) (by kernel_rfl) h
theorem Fx {c1 c2 : Nat} {v : Value} (h : K v M) : gU Tryz.prog 153 [.pointer (some ⟨c1, 0, none⟩), .pointer (some ⟨c2, 0, none⟩)] K Kp v .returning M :=
 dV (C := Cx) good (args := [.pointer (some ⟨c1, 0, none⟩), .pointer (some ⟨c2, 0, none⟩)]) (d := 6) (x := .nilIface) (u' := .returning) [(10, .bL [0, 0, 0, 3, 11, 31, 63] (.step 0 (.step 1 (.step 3 (.eo 2 (.step 4 (.step 5 (.step 6 .done))))))))] Tryz.func153 rfl rfl (by kernel_rfl) rfl (by kernel_rfl) (vc := K v M) h
theorem CW {c1 c2 : Nat} {v : Value} (h :
aX M (.cells #[] 240 (0, 0)) fun k1 M2 =>
cz (Mem.ld M2 ⟨c1, 0, none⟩) fun A3 =>
az A3 fun k4 k5 =>
aF M2 ⟨k4, k5, none⟩ (.int .i64 1) fun M6 =>
K v M6) :
  gU Tryz.prog 153 [.pointer (some ⟨c1, 0, none⟩), .pointer (some ⟨c2, 0, none⟩)] K Kp v (.panicking [{ v := .iface 240 (.agg #[]), recovered := false }]) M :=
 dV (C := Cx) good (args := [.pointer (some ⟨c1, 0, none⟩), .pointer (some ⟨c2, 0, none⟩)]) (d := 6) (x := .iface 240 (.agg #[])) (u' := .panicking [{ v := .iface 240 (.agg #[]), recovered := true }]) [(10, .bL [0, 0, 0, 3, 11, 31, 63] (.step 0 (.step 1 (.step 3 (.eo 2 (.step 4 (.step 5 (.step 6 .done))))))))] Tryz.func153 rfl rfl (by kernel_rfl) rfl (by kernel_rfl) h
theorem AW {c1 c2 : Nat} {v : Value} (h :
aX M (.cells #[] 240 (0, 0)) fun k1 M2 =>
cz (Mem.ld M2 ⟨c1, 0, none⟩) fun A3 =>
az A3 fun k4 k5 =>
aF M2 ⟨k4, k5, none⟩ (.int .i64 1) fun M6 =>
K v M6) :
  gU Tryz.prog 153 [.pointer (some ⟨c1, 0, none⟩), .pointer (some ⟨c2, 0, none⟩)] K Kp v (.panicking [{ v := .iface 240 (.agg #[]), recovered := false }, { v := .iface 240 (.agg #[]), recovered := true }]) M :=
 dV (C := Cx) good (args := [.pointer (some ⟨c1, 0, none⟩), .pointer (some ⟨c2, 0, none⟩)]) (d := 6) (x := .iface 240 (.agg #[])) (u' := .panicking [{ v := .iface 240 (.agg #[]), recovered := true }, { v := .iface 240 (.agg #[]), recovered := true }]) [(10, .bL [0, 0, 0, 3, 11, 31, 63] (.step 0 (.step 1 (.step 3 (.eo 2 (.step 4 (.step 5 (.step 6 .done))))))))] Tryz.func153 rfl rfl (by kernel_rfl) rfl (by kernel_rfl) h
theorem w8 {c1 c2 : Nat} {at_ kind n k x : Int} {v : Value} (h :
aX M (.cells #[(.int .i64 0), (.int .i64 0), (.int .i64 0), (.int .i64 0), (.int .u64 0)] 97 (0, 0)) fun k1 M2 =>
aF M2 ⟨k1, 0, none⟩ (.int .i64 at_) fun M3 =>
aF M3 ⟨k1, (0 + 1), none⟩ (.int .i64 kind) fun M4 =>
aF M4 ⟨k1, (0 + 2), none⟩ (.int .i64 n) fun M5 =>
aF M5 ⟨k1, (0 + 3), none⟩ (.int .i64 k) fun M6 =>
aF M6 ⟨k1, (0 + 4), none⟩ (.int .u64 x) fun M7 =>
cz (Mem.ld M7 ⟨c1, 0, none⟩) fun A8 =>
cz (Mem.ld M7 ⟨c2, 0, none⟩) fun A9 =>
az A8 fun cX cN =>
aE (Mem.ld M7 ⟨k1, 0, none⟩) .i64 fun ek =>
aE (Mem.ld M7 ⟨k1, (0 + 1), none⟩) .i64 fun gG =>
aE (Mem.ld M7 ⟨k1, (0 + 2), none⟩) .i64 fun ot =>
aE (Mem.ld M7 ⟨k1, (0 + 3), none⟩) .i64 fun fk =>
aE (Mem.ld M7 ⟨k1, (0 + 4), none⟩) .u64 fun jf =>
aF M7 ⟨cX, cN, none⟩ (.int .i64 2) fun l6 =>
((Mem.dP l6 ⟨k1, 0, none⟩ 0 5) = some [(.int .i64 ek), (.int .i64 gG), (.int .i64 ot), (.int .i64 fk), (.int .u64 jf)]) ∧
az A9 fun dK gN =>
aF l6 ⟨dK, gN, none⟩ (.int .i64 ek) fun oM =>
aF oM ⟨dK, (gN + 1), none⟩ (.int .i64 gG) fun rq =>
aF rq ⟨dK, (gN + 2), none⟩ (.int .i64 ot) fun kx =>
aF kx ⟨dK, (gN + 3), none⟩ (.int .i64 fk) fun jZ =>
aF jZ ⟨dK, (gN + 4), none⟩ (.int .u64 jf) fun iH =>
((Mem.dP iH ⟨k1, 0, none⟩ 0 5) = some [(.int .i64 ek), (.int .i64 gG), (.int .i64 ot), (.int .i64 fk), (.int .u64 jf)]) ∧
K v iH) :
  gU Tryz.prog 153 [.pointer (some ⟨c1, 0, none⟩), .pointer (some ⟨c2, 0, none⟩)] K Kp v (.panicking [{ v := .iface 97 (.agg #[.int .i64 at_, .int .i64 kind, .int .i64 n, .int .i64 k, .int .u64 x]), recovered := false }]) M :=
 dV (C := Cx) good (args := [.pointer (some ⟨c1, 0, none⟩), .pointer (some ⟨c2, 0, none⟩)]) (d := 6) (x := .iface 97 (.agg #[.int .i64 at_, .int .i64 kind, .int .i64 n, .int .i64 k, .int .u64 x])) (u' := .panicking [{ v := .iface 97 (.agg #[.int .i64 at_, .int .i64 kind, .int .i64 n, .int .i64 k, .int .u64 x]), recovered := true }]) [(10, .bL [0, 0, 0, 3, 11, 31, 63] (.step 0 (.step 1 (.step 3 (.eo 2 (.step 4 (.step 5 (.step 6 .done))))))))] Tryz.func153 rfl rfl (by kernel_rfl) rfl (by kernel_rfl) h
theorem vu {c1 c2 : Nat} {at_ kind n k x : Int} {v : Value} (h :
aX M (.cells #[(.int .i64 0), (.int .i64 0), (.int .i64 0), (.int .i64 0), (.int .u64 0)] 97 (0, 0)) fun k1 M2 =>
aF M2 ⟨k1, 0, none⟩ (.int .i64 at_) fun M3 =>
aF M3 ⟨k1, (0 + 1), none⟩ (.int .i64 kind) fun M4 =>
aF M4 ⟨k1, (0 + 2), none⟩ (.int .i64 n) fun M5 =>
aF M5 ⟨k1, (0 + 3), none⟩ (.int .i64 k) fun M6 =>
aF M6 ⟨k1, (0 + 4), none⟩ (.int .u64 x) fun M7 =>
cz (Mem.ld M7 ⟨c1, 0, none⟩) fun A8 =>
cz (Mem.ld M7 ⟨c2, 0, none⟩) fun A9 =>
az A8 fun cX cN =>
aE (Mem.ld M7 ⟨k1, 0, none⟩) .i64 fun ek =>
aE (Mem.ld M7 ⟨k1, (0 + 1), none⟩) .i64 fun gG =>
aE (Mem.ld M7 ⟨k1, (0 + 2), none⟩) .i64 fun ot =>
aE (Mem.ld M7 ⟨k1, (0 + 3), none⟩) .i64 fun fk =>
aE (Mem.ld M7 ⟨k1, (0 + 4), none⟩) .u64 fun jf =>
aF M7 ⟨cX, cN, none⟩ (.int .i64 2) fun l6 =>
((Mem.dP l6 ⟨k1, 0, none⟩ 0 5) = some [(.int .i64 ek), (.int .i64 gG), (.int .i64 ot), (.int .i64 fk), (.int .u64 jf)]) ∧
az A9 fun dK gN =>
aF l6 ⟨dK, gN, none⟩ (.int .i64 ek) fun oM =>
aF oM ⟨dK, (gN + 1), none⟩ (.int .i64 gG) fun rq =>
aF rq ⟨dK, (gN + 2), none⟩ (.int .i64 ot) fun kx =>
aF kx ⟨dK, (gN + 3), none⟩ (.int .i64 fk) fun jZ =>
aF jZ ⟨dK, (gN + 4), none⟩ (.int .u64 jf) fun iH =>
((Mem.dP iH ⟨k1, 0, none⟩ 0 5) = some [(.int .i64 ek), (.int .i64 gG), (.int .i64 ot), (.int .i64 fk), (.int .u64 jf)]) ∧
K v iH) :
  gU Tryz.prog 153 [.pointer (some ⟨c1, 0, none⟩), .pointer (some ⟨c2, 0, none⟩)] K Kp v (.panicking [{ v := .iface 97 (.agg #[.int .i64 at_, .int .i64 kind, .int .i64 n, .int .i64 k, .int .u64 x]), recovered := false }, { v := .iface 97 (.agg #[.int .i64 at_, .int .i64 kind, .int .i64 n, .int .i64 k, .int .u64 x]), recovered := true }]) M :=
 dV (C := Cx) good (args := [.pointer (some ⟨c1, 0, none⟩), .pointer (some ⟨c2, 0, none⟩)]) (d := 6) (x := .iface 97 (.agg #[.int .i64 at_, .int .i64 kind, .int .i64 n, .int .i64 k, .int .u64 x])) (u' := .panicking [{ v := .iface 97 (.agg #[.int .i64 at_, .int .i64 kind, .int .i64 n, .int .i64 k, .int .u64 x]), recovered := true }, { v := .iface 97 (.agg #[.int .i64 at_, .int .i64 kind, .int .i64 n, .int .i64 k, .int .u64 x]), recovered := true }]) [(10, .bL [0, 0, 0, 3, 11, 31, 63] (.step 0 (.step 1 (.step 3 (.eo 2 (.step 4 (.step 5 (.step 6 .done))))))))] Tryz.func153 rfl rfl (by kernel_rfl) rfl (by kernel_rfl) h
end Go.Proofs
