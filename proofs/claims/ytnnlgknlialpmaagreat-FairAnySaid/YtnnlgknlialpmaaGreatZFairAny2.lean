/- A part of proofs about one program. -/
import Derived.Test.YtnnlgknlialpmaaGreatZFairAnyDefer2
import Derived.Test.YtnnlgknlialpmaaGreatZFairAny1
set_option linter.unusedVariables false
namespace Go.Proofs
open Go.AF
set_option maxRecDepth 100000
variable {M : Mem} {K : Value → Mem → Prop} {Kp : List PanicEntry → Mem → Prop}
theorem uH {b0 o0 : Nat} {x1 : Int} (h :
rS M b0 (o0 + 4) fun A1 k2 k3 =>
((0 : Int) ≤ x1) ∧
((x1 : Int) < k2) ∧
aF A1 fun k4 k5 =>
rP M k4 (k5 + (Int.toNat x1)) fun A6 =>
aF A6 fun k7 k8 =>
rS M k7 (k8 + 1) fun A9 gh fu =>
aa Tryz.prog 189 #[(.slice A9 gh fu)] M (fun Im mG =>
cy (some Im) fun oT =>
aF oT fun iW fH =>
rS mG b0 o0 fun Py fI jI =>
rI mG iW fH fun gd =>
(0 ≤ gd) ∧
(gd < fI) ∧
aF Py fun fQ iw =>
rS mG fQ (iw + (Int.toNat gd)) fun A23 vg qP =>
aF oT fun sj Am =>
rI mG sj (Am + 1) fun wU =>
aO (decide (wU ≥ vg))
 (cv Tryz.prog 188 (.pointer (some ⟨b0, o0, none⟩)) K Kp (.bool false) (.panicking [{ v := (.iface 340 (iV (-7))), recovered := false }]) mG)
 (aF oT fun iq mH =>
 rI mG iq (mH + 1) fun si =>
 (0 ≤ si) ∧
 (si < vg) ∧
 aF A23 fun uo so =>
 bH mG uo (so + ((Int.toNat si) * 4)) fun Ke DH vP Eo =>
 bh mG vH fun iR Nj =>
 kB Nj iR (iV Ke) (iV DH) (iV vP) (iV Eo) fun tL =>
 bH tL iR 0 fun CX Aq DI xq =>
 aa Tryz.prog 190 #[(.pointer oT), (.agg #[(iV CX), (iV Aq), (iV DI), (iV xq)])] tL (fun v48 yN =>
 de (some v48) fun t50 =>
 aO t50
 (rI yN iR 0 fun GC =>
 aO (GC == 12)
 (cv Tryz.prog 188 (.pointer (some ⟨b0, o0, none⟩)) K Kp (.bool true) .returning yN)
 (rI yN iR 0 fun X4 =>
 cv Tryz.prog 188 (.pointer (some ⟨b0, o0, none⟩)) K Kp (.bool (X4 == 17)) .returning yN))
 (rI yN iR 0 fun X7 =>
 aO (X7 == 16)
 (rI yN iR 0 fun TU =>
 rI yN iR 1 fun n55 =>
 rI yN iR 2 fun Nw =>
 rI yN iR 3 fun Iz =>
 aa Tryz.prog 191 #[(.pointer (some ⟨b0, o0, none⟩)), (iV x1), (.pointer oT), (.agg #[(iV TU), (iV n55), (iV Nw), (iV Iz)])] yN (fun v58 Aw =>
 (v58 = (.tuple #[])) ∧
 rI Aw iR 0 fun MO =>
 aO (MO == 12)
 (cv Tryz.prog 188 (.pointer (some ⟨b0, o0, none⟩)) K Kp (.bool true) .returning Aw)
 (rI Aw iR 0 fun J6 =>
 cv Tryz.prog 188 (.pointer (some ⟨b0, o0, none⟩)) K Kp (.bool (J6 == 17)) .returning Aw)) (fun l62 Al => cv Tryz.prog 188 (.pointer (some ⟨b0, o0, none⟩)) K Kp (.bool false) (.panicking l62) Al))
 (rI yN iR 0 fun n64 =>
 aO (n64 == 21)
 (rI yN iR 0 fun xT =>
 rI yN iR 1 fun Sn =>
 rI yN iR 2 fun Sy =>
 rI yN iR 3 fun Nc =>
 aa Tryz.prog 192 #[(.pointer (some ⟨b0, o0, none⟩)), (iV x1), (.pointer oT), (.agg #[(iV xT), (iV Sn), (iV Sy), (iV Nc)])] yN (fun v69 Iy =>
 (v69 = (.tuple #[])) ∧
 rI Iy iR 0 fun Lz =>
 aO (Lz == 12)
 (cv Tryz.prog 188 (.pointer (some ⟨b0, o0, none⟩)) K Kp (.bool true) .returning Iy)
 (rI Iy iR 0 fun X5 =>
 cv Tryz.prog 188 (.pointer (some ⟨b0, o0, none⟩)) K Kp (.bool (X5 == 17)) .returning Iy)) (fun l73 Ew => cv Tryz.prog 188 (.pointer (some ⟨b0, o0, none⟩)) K Kp (.bool false) (.panicking l73) Ew))
 (aF oT fun k75 k76 =>
 rI yN k75 (k76 + 1) fun CR =>
 aF oT fun TW Qz =>
 sT yN TW (Qz + 1) (iV (IntKind.wrap .i64 (CR + 1))) fun xy =>
 rI xy iR 0 fun QN =>
 bH xy iR 0 fun Lx Sq Iu SC =>
 aa Tryz.prog 193 #[] xy (fun v86 IE =>
 ((Mem.iS IE ⟨iR, 0, none⟩ 0 4) = some [(iV Lx), (iV Sq), (iV Iu), (iV SC)]) ∧
 eI IE iR 0 QN ∧
 aY Tryz.prog (Go.Instr.lookup 345 v86 (iV QN) false) IE (fun v88 Ez =>
 ((Mem.iS Ez ⟨iR, 0, none⟩ 0 4) = some [(iV Lx), (iV Sq), (iV Iu), (iV SC)]) ∧
 eI Ez iR 0 QN ∧
 iB Cx v88 [(.pointer (some ⟨b0, o0, none⟩)), (iV x1), (.pointer oT), (.agg #[(iV Lx), (iV Sq), (iV Iu), (iV SC)])] Ez (fun Nm lj =>
 (Nm = (.tuple #[])) ∧
 ((Mem.iS lj ⟨iR, 0, none⟩ 0 4) = some [(iV Lx), (iV Sq), (iV Iu), (iV SC)]) ∧
 eI lj iR 0 QN ∧
 rI lj iR 0 fun XX =>
 aO (XX == 12)
 (cv Tryz.prog 188 (.pointer (some ⟨b0, o0, none⟩)) K Kp (.bool true) .returning lj)
 (rI lj iR 0 fun Vt =>
 cv Tryz.prog 188 (.pointer (some ⟨b0, o0, none⟩)) K Kp (.bool (Vt == 17)) .returning lj)) (fun l94 PG => cv Tryz.prog 188 (.pointer (some ⟨b0, o0, none⟩)) K Kp (.bool false) (.panicking l94) PG)) (fun l96 Qv => cv Tryz.prog 188 (.pointer (some ⟨b0, o0, none⟩)) K Kp (.bool false) (.panicking l96) Qv)) (fun l98 M99 => cv Tryz.prog 188 (.pointer (some ⟨b0, o0, none⟩)) K Kp (.bool false) (.panicking l98) M99))))) (fun l100 jf => cv Tryz.prog 188 (.pointer (some ⟨b0, o0, none⟩)) K Kp (.bool false) (.panicking l100) jf))) (fun l102 TY => cv Tryz.prog 188 (.pointer (some ⟨b0, o0, none⟩)) K Kp (.bool false) (.panicking l102) TY)) :
 aa Tryz.prog 159 #[.pointer (some ⟨b0, o0, none⟩), .int .i64 x1] M K Kp :=
 xp (C := Cx) good (s := 0) (d := 8) (g := 188) (r := 4) [(3, .bQ [0, 1, 3, 7, 15, 0, 32, 96, 224, 511, 1023, 2047] (.step 0 (.step 1 (.step 2 (.step 3 (.step 5 (.step 6 (.step 7 (.step 4 (.step 8 (.step 9 (.step 10 (.step 11 .done))))))))))))), (8, .bQ [0, 0, 2, 7, 0, 0, 0, 0, 255] (.step 1 (.step 4 (.step 5 (.step 6 (.dD 2 (.dD 7 (.step 0 (.step 3 (.step 8 .done))))))))))] Tryz.func159 rfl rfl (by decide) (by kernel_rfl) (by kernel_rfl) h
theorem EH {b o : Nat} {v : Value} (h : K v M) : cv Tryz.prog 188 (.pointer (some ⟨b, o, none⟩)) K Kp v .returning M :=
 fB (C := Cx) good (args := [.pointer (some ⟨b, o, none⟩)]) (d := 5) (x := .nilIface) (u' := .returning) [] Tryz.func188 rfl rfl (by kernel_rfl) rfl (by kernel_rfl) (vc := K v M) h
theorem GV {b o : Nat} {n : Int} {v : Value} (h :
 aK M ⟨b, (o + 11), none⟩ (.int .i64 2) fun M1 => aK M1 ⟨b, (o + 12), none⟩ (.int .i64 n) fun M2 => K v M2) :
  cv Tryz.prog 188 (.pointer (some ⟨b, o, none⟩)) K Kp v (.panicking [{ v := .iface 340 (.int .i64 n), recovered := false }]) M :=
 fB (C := Cx) good (args := [.pointer (some ⟨b, o, none⟩)]) (d := 5) (x := .iface 340 (.int .i64 n)) (u' := .panicking [{ v := .iface 340 (.int .i64 n), recovered := true }]) [] Tryz.func188 rfl rfl (by kernel_rfl) rfl (by kernel_rfl) h
theorem Kz {b o : Nat} {w v : Value} (h : Kp [{ v := .iface 240 w, recovered := false }, { v := .iface 240 w, recovered := true }] M) :
  cv Tryz.prog 188 (.pointer (some ⟨b, o, none⟩)) K Kp v (.panicking [{ v := .iface 240 w, recovered := false }]) M :=
 fB (C := Cx) good (args := [.pointer (some ⟨b, o, none⟩)]) (d := 5) (x := .iface 240 w) (u' := .panicking [{ v := .iface 240 w, recovered := true }]) [] Tryz.func188 rfl rfl (by kernel_rfl) rfl (by kernel_rfl) (vc := Kp [{ v := .iface 240 w, recovered := false }, { v := .iface 240 w, recovered := true }] M) h
theorem C8 {b o : Nat} {w v : Value} (h : Kp [{ v := .iface 97 w, recovered := false }, { v := .iface 97 w, recovered := true }] M) :
  cv Tryz.prog 188 (.pointer (some ⟨b, o, none⟩)) K Kp v (.panicking [{ v := .iface 97 w, recovered := false }]) M :=
 fB (C := Cx) good (args := [.pointer (some ⟨b, o, none⟩)]) (d := 5) (x := .iface 97 w) (u' := .panicking [{ v := .iface 97 w, recovered := true }]) [] Tryz.func188 rfl rfl (by kernel_rfl) rfl (by kernel_rfl) (vc := Kp [{ v := .iface 97 w, recovered := false }, { v := .iface 97 w, recovered := true }] M) h
end Go.Proofs
namespace Go.Proofs
open Go.AF
set_option maxRecDepth 100000
variable {M : Mem} {K : Value → Mem → Prop} {Kp : List PanicEntry → Mem → Prop}
theorem vW {x0 : Value} {b1 o1 b2 o2 : Nat} (h :
bh M (cl [(.pointer (some ⟨b1, o1, none⟩))] 242) fun k1 M2 =>
bh M2 (cl [(.pointer (some ⟨b2, o2, none⟩))] 243) fun k3 M4 =>
iB Cx x0 [] M4 (fun v5 M6 =>
(v5 = (.tuple #[])) ∧
jG Tryz.prog 153 [(.pointer (some ⟨k1, 0, none⟩)), (.pointer (some ⟨k3, 0, none⟩))] K Kp (.tuple #[]) .returning M6) (fun l7 M8 => jG Tryz.prog 153 [(.pointer (some ⟨k1, 0, none⟩)), (.pointer (some ⟨k3, 0, none⟩))] K Kp (.tuple #[]) (.panicking l7) M8)) :
 aa Tryz.prog 116 #[x0, .pointer (some ⟨b1, o1, none⟩), .pointer (some ⟨b2, o2, none⟩)] M K Kp :=
 vJ (C := Cx) good (s1 := 4) (s2 := 5) (d := 6) (g := 153) (r := 0) [] Tryz.func116 rfl rfl (by decide) (by kernel_rfl) (by kernel_rfl) h
theorem KA {c1 c2 : Nat} {v : Value} (h : K v M) : jG Tryz.prog 153 [.pointer (some ⟨c1, 0, none⟩), .pointer (some ⟨c2, 0, none⟩)] K Kp v .returning M :=
 fB (C := Cx) good (args := [.pointer (some ⟨c1, 0, none⟩), .pointer (some ⟨c2, 0, none⟩)]) (d := 6) (x := .nilIface) (u' := .returning) [(10, .bQ [0, 0, 0, 3, 11, 31, 63] (.step 0 (.step 1 (.step 3 (.dD 2 (.step 4 (.step 5 (.step 6 .done))))))))] Tryz.func153 rfl rfl (by kernel_rfl) rfl (by kernel_rfl) (vc := K v M) h
theorem GW {c1 c2 : Nat} {v : Value} (h :
bh M (.cells #[] 240 (0, 0)) fun k1 M2 =>
cy (Mem.ld M2 ⟨c1, 0, none⟩) fun A3 =>
aF A3 fun k4 k5 =>
aK M2 ⟨k4, k5, none⟩ (.int .i64 1) fun M6 =>
K v M6) :
  jG Tryz.prog 153 [.pointer (some ⟨c1, 0, none⟩), .pointer (some ⟨c2, 0, none⟩)] K Kp v (.panicking [{ v := .iface 240 (.agg #[]), recovered := false }]) M :=
 fB (C := Cx) good (args := [.pointer (some ⟨c1, 0, none⟩), .pointer (some ⟨c2, 0, none⟩)]) (d := 6) (x := .iface 240 (.agg #[])) (u' := .panicking [{ v := .iface 240 (.agg #[]), recovered := true }]) [(10, .bQ [0, 0, 0, 3, 11, 31, 63] (.step 0 (.step 1 (.step 3 (.dD 2 (.step 4 (.step 5 (.step 6 .done))))))))] Tryz.func153 rfl rfl (by kernel_rfl) rfl (by kernel_rfl) h
theorem EI {c1 c2 : Nat} {v : Value} (h :
bh M (.cells #[] 240 (0, 0)) fun k1 M2 =>
cy (Mem.ld M2 ⟨c1, 0, none⟩) fun A3 =>
aF A3 fun k4 k5 =>
aK M2 ⟨k4, k5, none⟩ (.int .i64 1) fun M6 =>
K v M6) :
  jG Tryz.prog 153 [.pointer (some ⟨c1, 0, none⟩), .pointer (some ⟨c2, 0, none⟩)] K Kp v (.panicking [{ v := .iface 240 (.agg #[]), recovered := false }, { v := .iface 240 (.agg #[]), recovered := true }]) M :=
 fB (C := Cx) good (args := [.pointer (some ⟨c1, 0, none⟩), .pointer (some ⟨c2, 0, none⟩)]) (d := 6) (x := .iface 240 (.agg #[])) (u' := .panicking [{ v := .iface 240 (.agg #[]), recovered := true }, { v := .iface 240 (.agg #[]), recovered := true }]) [(10, .bQ [0, 0, 0, 3, 11, 31, 63] (.step 0 (.step 1 (.step 3 (.dD 2 (.step 4 (.step 5 (.step 6 .done))))))))] Tryz.func153 rfl rfl (by kernel_rfl) rfl (by kernel_rfl) h
theorem Ba {c1 c2 : Nat} {at_ kind n k x : Int} {v : Value} (h :
bh M (.cells #[(.int .i64 0), (.int .i64 0), (.int .i64 0), (.int .i64 0), (.int .u64 0)] 97 (0, 0)) fun k1 M2 =>
aK M2 ⟨k1, 0, none⟩ (.int .i64 at_) fun M3 =>
aK M3 ⟨k1, (0 + 1), none⟩ (.int .i64 kind) fun M4 =>
aK M4 ⟨k1, (0 + 2), none⟩ (.int .i64 n) fun M5 =>
aK M5 ⟨k1, (0 + 3), none⟩ (.int .i64 k) fun M6 =>
aK M6 ⟨k1, (0 + 4), none⟩ (.int .u64 x) fun M7 =>
cy (Mem.ld M7 ⟨c1, 0, none⟩) fun A8 =>
cy (Mem.ld M7 ⟨c2, 0, none⟩) fun A9 =>
aF A8 fun gh fu =>
aJ (Mem.ld M7 ⟨k1, 0, none⟩) .i64 fun jK =>
aJ (Mem.ld M7 ⟨k1, (0 + 1), none⟩) .i64 fun j7 =>
aJ (Mem.ld M7 ⟨k1, (0 + 2), none⟩) .i64 fun lY =>
aJ (Mem.ld M7 ⟨k1, (0 + 3), none⟩) .i64 fun kZ =>
aJ (Mem.ld M7 ⟨k1, (0 + 4), none⟩) .u64 fun nh =>
aK M7 ⟨gh, fu, none⟩ (.int .i64 2) fun oz =>
((Mem.iS oz ⟨k1, 0, none⟩ 0 5) = some [(.int .i64 jK), (.int .i64 j7), (.int .i64 lY), (.int .i64 kZ), (.int .u64 nh)]) ∧
aF A9 fun fI jI =>
aK oz ⟨fI, jI, none⟩ (.int .i64 jK) fun vL =>
aK vL ⟨fI, (jI + 1), none⟩ (.int .i64 j7) fun ov =>
aK ov ⟨fI, (jI + 2), none⟩ (.int .i64 lY) fun dP =>
aK dP ⟨fI, (jI + 3), none⟩ (.int .i64 kZ) fun mj =>
aK mj ⟨fI, (jI + 4), none⟩ (.int .u64 nh) fun j6 =>
((Mem.iS j6 ⟨k1, 0, none⟩ 0 5) = some [(.int .i64 jK), (.int .i64 j7), (.int .i64 lY), (.int .i64 kZ), (.int .u64 nh)]) ∧
K v j6) :
  jG Tryz.prog 153 [.pointer (some ⟨c1, 0, none⟩), .pointer (some ⟨c2, 0, none⟩)] K Kp v (.panicking [{ v := .iface 97 (.agg #[.int .i64 at_, .int .i64 kind, .int .i64 n, .int .i64 k, .int .u64 x]), recovered := false }]) M :=
 fB (C := Cx) good (args := [.pointer (some ⟨c1, 0, none⟩), .pointer (some ⟨c2, 0, none⟩)]) (d := 6) (x := .iface 97 (.agg #[.int .i64 at_, .int .i64 kind, .int .i64 n, .int .i64 k, .int .u64 x])) (u' := .panicking [{ v := .iface 97 (.agg #[.int .i64 at_, .int .i64 kind, .int .i64 n, .int .i64 k, .int .u64 x]), recovered := true }]) [(10, .bQ [0, 0, 0, 3, 11, 31, 63] (.step 0 (.step 1 (.step 3 (.dD 2 (.step 4 (.step 5 (.step 6 .done))))))))] Tryz.func153 rfl rfl (by kernel_rfl) rfl (by kernel_rfl) h
theorem zb {c1 c2 : Nat} {at_ kind n k x : Int} {v : Value} (h :
bh M (.cells #[(.int .i64 0), (.int .i64 0), (.int .i64 0), (.int .i64 0), (.int .u64 0)] 97 (0, 0)) fun k1 M2 =>
aK M2 ⟨k1, 0, none⟩ (.int .i64 at_) fun M3 =>
aK M3 ⟨k1, (0 + 1), none⟩ (.int .i64 kind) fun M4 =>
aK M4 ⟨k1, (0 + 2), none⟩ (.int .i64 n) fun M5 =>
aK M5 ⟨k1, (0 + 3), none⟩ (.int .i64 k) fun M6 =>
aK M6 ⟨k1, (0 + 4), none⟩ (.int .u64 x) fun M7 =>
cy (Mem.ld M7 ⟨c1, 0, none⟩) fun A8 =>
cy (Mem.ld M7 ⟨c2, 0, none⟩) fun A9 =>
aF A8 fun gh fu =>
aJ (Mem.ld M7 ⟨k1, 0, none⟩) .i64 fun jK =>
aJ (Mem.ld M7 ⟨k1, (0 + 1), none⟩) .i64 fun j7 =>
aJ (Mem.ld M7 ⟨k1, (0 + 2), none⟩) .i64 fun lY =>
aJ (Mem.ld M7 ⟨k1, (0 + 3), none⟩) .i64 fun kZ =>
aJ (Mem.ld M7 ⟨k1, (0 + 4), none⟩) .u64 fun nh =>
aK M7 ⟨gh, fu, none⟩ (.int .i64 2) fun oz =>
((Mem.iS oz ⟨k1, 0, none⟩ 0 5) = some [(.int .i64 jK), (.int .i64 j7), (.int .i64 lY), (.int .i64 kZ), (.int .u64 nh)]) ∧
aF A9 fun fI jI =>
aK oz ⟨fI, jI, none⟩ (.int .i64 jK) fun vL =>
aK vL ⟨fI, (jI + 1), none⟩ (.int .i64 j7) fun ov =>
aK ov ⟨fI, (jI + 2), none⟩ (.int .i64 lY) fun dP =>
aK dP ⟨fI, (jI + 3), none⟩ (.int .i64 kZ) fun mj =>
aK mj ⟨fI, (jI + 4), none⟩ (.int .u64 nh) fun j6 =>
((Mem.iS j6 ⟨k1, 0, none⟩ 0 5) = some [(.int .i64 jK), (.int .i64 j7), (.int .i64 lY), (.int .i64 kZ), (.int .u64 nh)]) ∧
K v j6) :
  jG Tryz.prog 153 [.pointer (some ⟨c1, 0, none⟩), .pointer (some ⟨c2, 0, none⟩)] K Kp v (.panicking [{ v := .iface 97 (.agg #[.int .i64 at_, .int .i64 kind, .int .i64 n, .int .i64 k, .int .u64 x]), recovered := false }, { v := .iface 97 (.agg #[.int .i64 at_, .int .i64 kind, .int .i64 n, .int .i64 k, .int .u64 x]), recovered := true }]) M :=
 fB (C := Cx) good (args := [.pointer (some ⟨c1, 0, none⟩), .pointer (some ⟨c2, 0, none⟩)]) (d := 6) (x := .iface 97 (.agg #[.int .i64 at_, .int .i64 kind, .int .i64 n, .int .i64 k, .int .u64 x])) (u' := .panicking [{ v := .iface 97 (.agg #[.int .i64 at_, .int .i64 kind, .int .i64 n, .int .i64 k, .int .u64 x]), recovered := true }, { v := .iface 97 (.agg #[.int .i64 at_, .int .i64 kind, .int .i64 n, .int .i64 k, .int .u64 x]), recovered := true }]) [(10, .bQ [0, 0, 0, 3, 11, 31, 63] (.step 0 (.step 1 (.step 3 (.dD 2 (.step 4 (.step 5 (.step 6 .done))))))))] Tryz.func153 rfl rfl (by kernel_rfl) rfl (by kernel_rfl) h
end Go.Proofs
