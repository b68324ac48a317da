/- A part of proofs about one program. -/
import Derived.Test.YtnnlgknlialpmaaGreatZFairBoundDefer2
import Derived.Test.YtnnlgknlialpmaaGreatZFairBound1
set_option linter.unusedVariables false
namespace Go.Proofs
open Go.AF
set_option maxRecDepth 100000
variable {M : Mem} {K : Value → Mem → Prop} {Kp : List PanicEntry → Mem → Prop}
theorem uN {b0 o0 : Nat} {x1 : Int} (h :
rS M b0 (o0 + 4) fun A1 k2 k3 =>
((0 : Int) ≤ x1) ∧
((x1 : Int) < k2) ∧
aF A1 fun k4 k5 =>
rP M k4 (k5 + (Int.toNat x1)) fun A6 =>
aF A6 fun k7 k8 =>
rS M k7 (k8 + 1) fun A9 gn eO =>
aa Tryz.prog 189 #[(.slice A9 gn eO)] M (fun It mL =>
cw (some It) fun oX =>
aF oX fun iC fL =>
rS mL b0 o0 fun PE en jK =>
rI mL iC fL fun gk =>
(0 ≤ gk) ∧
(gk < en) ∧
aF PE fun fM gV =>
rS mL fM (gV + (Int.toNat gk)) fun A23 sM sN =>
aF oX fun tP Av =>
rI mL tP (Av + 1) fun wY =>
aO (decide (wY ≥ sM))
 (cu Tryz.prog 188 (.pointer (some ⟨b0, o0, none⟩)) K Kp (.bool false) (.panicking [{ v := (.iface 340 (iV (-7))), recovered := false }]) mL)
 (aF oX fun iy mj =>
 rI mL iy (mj + 1) fun sk =>
 (0 ≤ sk) ∧
 (sk < sM) ∧
 aF A23 fun uv tQ =>
 bG mL uv (tQ + ((Int.toNat sk) * 4)) fun T3 LD yZ MQ =>
 bh mL vM fun iD SM =>
 kC SM iD (iV T3) (iV LD) (iV yZ) (iV MQ) fun tR =>
 bG tR iD 0 fun w8 uC AA sq =>
 aa Tryz.prog 190 #[(.pointer oX), (.agg #[(iV w8), (iV uC), (iV AA), (iV sq)])] tR (fun v48 vQ =>
 de (some v48) fun t50 =>
 aO t50
 (rI vQ iD 0 fun GL =>
 aO (GL == 12)
 (cu Tryz.prog 188 (.pointer (some ⟨b0, o0, none⟩)) K Kp (.bool true) .returning vQ)
 (rI vQ iD 0 fun Yg =>
 cu Tryz.prog 188 (.pointer (some ⟨b0, o0, none⟩)) K Kp (.bool (Yg == 17)) .returning vQ))
 (rI vQ iD 0 fun Yk =>
 aO (Yk == 16)
 (rI vQ iD 0 fun T8 =>
 rI vQ iD 1 fun n55 =>
 rI vQ iD 2 fun IL =>
 rI vQ iD 3 fun IE =>
 aa Tryz.prog 191 #[(.pointer (some ⟨b0, o0, none⟩)), (iV x1), (.pointer oX), (.agg #[(iV T8), (iV n55), (iV IL), (iV IE)])] vQ (fun v58 AB =>
 (v58 = (.tuple #[])) ∧
 rI AB iD 0 fun MW =>
 aO (MW == 12)
 (cu Tryz.prog 188 (.pointer (some ⟨b0, o0, none⟩)) K Kp (.bool true) .returning AB)
 (rI AB iD 0 fun Kf =>
 cu Tryz.prog 188 (.pointer (some ⟨b0, o0, none⟩)) K Kp (.bool (Kf == 17)) .returning AB)) (fun l62 CY => cu Tryz.prog 188 (.pointer (some ⟨b0, o0, none⟩)) K Kp (.bool false) (.panicking l62) CY))
 (rI vQ iD 0 fun n64 =>
 aO (n64 == 21)
 (rI vQ iD 0 fun AP =>
 rI vQ iD 1 fun X5 =>
 rI vQ iD 2 fun Yh =>
 rI vQ iD 3 fun IB =>
 aa Tryz.prog 192 #[(.pointer (some ⟨b0, o0, none⟩)), (iV x1), (.pointer oX), (.agg #[(iV AP), (iV X5), (iV Yh), (iV IB)])] vQ (fun v69 IC =>
 (v69 = (.tuple #[])) ∧
 rI IC iD 0 fun LG =>
 aO (LG == 12)
 (cu Tryz.prog 188 (.pointer (some ⟨b0, o0, none⟩)) K Kp (.bool true) .returning IC)
 (rI IC iD 0 fun Yi =>
 cu Tryz.prog 188 (.pointer (some ⟨b0, o0, none⟩)) K Kp (.bool (Yi == 17)) .returning IC)) (fun l73 EG => cu Tryz.prog 188 (.pointer (some ⟨b0, o0, none⟩)) K Kp (.bool false) (.panicking l73) EG))
 (aF oX fun Ys YR =>
 rI vQ Ys (YR + 1) fun EB =>
 aF oX fun Ua QG =>
 sT vQ Ua (QG + 1) (iV (IntKind.wrap .i64 (EB + 1))) fun xD =>
 rI xD iD 0 fun QY =>
 bG xD iD 0 fun Gz SC LC SN =>
 aa Tryz.prog 193 #[] xD (fun v86 IM =>
 ((Mem.g9 IM ⟨iD, 0, none⟩ 0 4) = some [(iV Gz), (iV SC), (iV LC), (iV SN)]) ∧
 eI IM iD 0 QY ∧
 aY Tryz.prog (Go.Instr.lookup 345 v86 (iV QY) false) IM (fun v88 EI =>
 ((Mem.g9 EI ⟨iD, 0, none⟩ 0 4) = some [(iV Gz), (iV SC), (iV LC), (iV SN)]) ∧
 eI EI iD 0 QY ∧
 iF Cx v88 [(.pointer (some ⟨b0, o0, none⟩)), (iV x1), (.pointer oX), (.agg #[(iV Gz), (iV SC), (iV LC), (iV SN)])] EI (fun Nt lu =>
 (Nt = (.tuple #[])) ∧
 ((Mem.g9 lu ⟨iD, 0, none⟩ 0 4) = some [(iV Gz), (iV SC), (iV LC), (iV SN)]) ∧
 eI lu iD 0 QY ∧
 rI lu iD 0 fun TV =>
 aO (TV == 12)
 (cu Tryz.prog 188 (.pointer (some ⟨b0, o0, none⟩)) K Kp (.bool true) .returning lu)
 (rI lu iD 0 fun QZ =>
 cu Tryz.prog 188 (.pointer (some ⟨b0, o0, none⟩)) K Kp (.bool (QZ == 17)) .returning lu)) (fun l94 PM => cu Tryz.prog 188 (.pointer (some ⟨b0, o0, none⟩)) K Kp (.bool false) (.panicking l94) PM)) (fun l96 QC => cu Tryz.prog 188 (.pointer (some ⟨b0, o0, none⟩)) K Kp (.bool false) (.panicking l96) QC)) (fun l98 M99 => cu Tryz.prog 188 (.pointer (some ⟨b0, o0, none⟩)) K Kp (.bool false) (.panicking l98) M99))))) (fun l100 ji => cu Tryz.prog 188 (.pointer (some ⟨b0, o0, none⟩)) K Kp (.bool false) (.panicking l100) ji))) (fun l102 Uc => cu Tryz.prog 188 (.pointer (some ⟨b0, o0, none⟩)) K Kp (.bool false) (.panicking l102) Uc)) :
 aa Tryz.prog 159 #[.pointer (some ⟨b0, o0, none⟩), .int .i64 x1] M K Kp :=
 xA (C := Cx) good (s := 0) (d := 8) (g := 188) (r := 4) [(3, .bR [0, 1, 3, 7, 15, 0, 32, 96, 224, 511, 1023, 2047] (.step 0 (.step 1 (.step 2 (.step 3 (.step 5 (.step 6 (.step 7 (.step 4 (.step 8 (.step 9 (.step 10 (.step 11 .done))))))))))))), (8, .bR [0, 0, 2, 7, 0, 0, 0, 0, 255] (.step 1 (.step 4 (.step 5 (.step 6 (.dw 2 (.dw 7 (.step 0 (.step 3 (.step 8 .done))))))))))] Tryz.func159 rfl rfl (by decide) (by kernel_rfl) (by kernel_rfl) h
theorem ES {b o : Nat} {v : Value} (h : K v M) : cu Tryz.prog 188 (.pointer (some ⟨b, o, none⟩)) K Kp v .returning M :=
 fF (C := Cx) good (args := [.pointer (some ⟨b, o, none⟩)]) (d := 5) (x := .nilIface) (u' := .returning) [] Tryz.func188 rfl rfl (by kernel_rfl) rfl (by kernel_rfl) (vc := K v M) h
theorem G3 {b o : Nat} {n : Int} {v : Value} (h :
 aK M ⟨b, (o + 11), none⟩ (.int .i64 2) fun M1 => aK M1 ⟨b, (o + 12), none⟩ (.int .i64 n) fun M2 => K v M2) :
  cu Tryz.prog 188 (.pointer (some ⟨b, o, none⟩)) K Kp v (.panicking [{ v := .iface 340 (.int .i64 n), recovered := false }]) M :=
 fF (C := Cx) good (args := [.pointer (some ⟨b, o, none⟩)]) (d := 5) (x := .iface 340 (.int .i64 n)) (u' := .panicking [{ v := .iface 340 (.int .i64 n), recovered := true }]) [] Tryz.func188 rfl rfl (by kernel_rfl) rfl (by kernel_rfl) h
theorem KE {b o : Nat} {w v : Value} (h : Kp [{ v := .iface 240 w, recovered := false }, { v := .iface 240 w, recovered := true }] M) :
  cu Tryz.prog 188 (.pointer (some ⟨b, o, none⟩)) K Kp v (.panicking [{ v := .iface 240 w, recovered := false }]) M :=
 fF (C := Cx) good (args := [.pointer (some ⟨b, o, none⟩)]) (d := 5) (x := .iface 240 w) (u' := .panicking [{ v := .iface 240 w, recovered := true }]) [] Tryz.func188 rfl rfl (by kernel_rfl) rfl (by kernel_rfl) (vc := Kp [{ v := .iface 240 w, recovered := false }, { v := .iface 240 w, recovered := true }] M) h
theorem Df {b o : Nat} {w v : Value} (h : Kp [{ v := .iface 97 w, recovered := false }, { v := .iface 97 w, recovered := true }] M) :
  cu Tryz.prog 188 (.pointer (some ⟨b, o, none⟩)) K Kp v (.panicking [{ v := .iface 97 w, recovered := false }]) M :=
 fF (C := Cx) good (args := [.pointer (some ⟨b, o, none⟩)]) (d := 5) (x := .iface 97 w) (u' := .panicking [{ v := .iface 97 w, recovered := true }]) [] Tryz.func188 rfl rfl (by kernel_rfl) rfl (by kernel_rfl) (vc := Kp [{ v := .iface 97 w, recovered := false }, { v := .iface 97 w, recovered := true }] M) h
end Go.Proofs
namespace Go.Proofs
open Go.AF
set_option maxRecDepth 100000
variable {M : Mem} {K : Value → Mem → Prop} {Kp : List PanicEntry → Mem → Prop}
theorem wc {x0 : Value} {b1 o1 b2 o2 : Nat} (h :
bh M (cl [(.pointer (some ⟨b1, o1, none⟩))] 242) fun k1 M2 =>
bh M2 (cl [(.pointer (some ⟨b2, o2, none⟩))] 243) fun k3 M4 =>
iF Cx x0 [] M4 (fun v5 M6 =>
(v5 = (.tuple #[])) ∧
jI Tryz.prog 153 [(.pointer (some ⟨k1, 0, none⟩)), (.pointer (some ⟨k3, 0, none⟩))] K Kp (.tuple #[]) .returning M6) (fun l7 M8 => jI Tryz.prog 153 [(.pointer (some ⟨k1, 0, none⟩)), (.pointer (some ⟨k3, 0, none⟩))] K Kp (.tuple #[]) (.panicking l7) M8)) :
 aa Tryz.prog 116 #[x0, .pointer (some ⟨b1, o1, none⟩), .pointer (some ⟨b2, o2, none⟩)] M K Kp :=
 vO (C := Cx) good (s1 := 4) (s2 := 5) (d := 6) (g := 153) (r := 0) [] Tryz.func116 rfl rfl (by decide) (by kernel_rfl) (by kernel_rfl) h
theorem KF {c1 c2 : Nat} {v : Value} (h : K v M) : jI Tryz.prog 153 [.pointer (some ⟨c1, 0, none⟩), .pointer (some ⟨c2, 0, none⟩)] K Kp v .returning M :=
 fF (C := Cx) good (args := [.pointer (some ⟨c1, 0, none⟩), .pointer (some ⟨c2, 0, none⟩)]) (d := 6) (x := .nilIface) (u' := .returning) [(10, .bR [0, 0, 0, 3, 11, 31, 63] (.step 0 (.step 1 (.step 3 (.dw 2 (.step 4 (.step 5 (.step 6 .done))))))))] Tryz.func153 rfl rfl (by kernel_rfl) rfl (by kernel_rfl) (vc := K v M) h
theorem G4 {c1 c2 : Nat} {v : Value} (h :
bh M (.cells #[] 240 (0, 0)) fun k1 M2 =>
cw (Mem.ld M2 ⟨c1, 0, none⟩) fun A3 =>
aF A3 fun k4 k5 =>
aK M2 ⟨k4, k5, none⟩ (.int .i64 1) fun M6 =>
K v M6) :
  jI Tryz.prog 153 [.pointer (some ⟨c1, 0, none⟩), .pointer (some ⟨c2, 0, none⟩)] K Kp v (.panicking [{ v := .iface 240 (.agg #[]), recovered := false }]) M :=
 fF (C := Cx) good (args := [.pointer (some ⟨c1, 0, none⟩), .pointer (some ⟨c2, 0, none⟩)]) (d := 6) (x := .iface 240 (.agg #[])) (u' := .panicking [{ v := .iface 240 (.agg #[]), recovered := true }]) [(10, .bR [0, 0, 0, 3, 11, 31, 63] (.step 0 (.step 1 (.step 3 (.dw 2 (.step 4 (.step 5 (.step 6 .done))))))))] Tryz.func153 rfl rfl (by kernel_rfl) rfl (by kernel_rfl) h
theorem ET {c1 c2 : Nat} {v : Value} (h :
bh M (.cells #[] 240 (0, 0)) fun k1 M2 =>
cw (Mem.ld M2 ⟨c1, 0, none⟩) fun A3 =>
aF A3 fun k4 k5 =>
aK M2 ⟨k4, k5, none⟩ (.int .i64 1) fun M6 =>
K v M6) :
  jI Tryz.prog 153 [.pointer (some ⟨c1, 0, none⟩), .pointer (some ⟨c2, 0, none⟩)] K Kp v (.panicking [{ v := .iface 240 (.agg #[]), recovered := false }, { v := .iface 240 (.agg #[]), recovered := true }]) M :=
 fF (C := Cx) good (args := [.pointer (some ⟨c1, 0, none⟩), .pointer (some ⟨c2, 0, none⟩)]) (d := 6) (x := .iface 240 (.agg #[])) (u' := .panicking [{ v := .iface 240 (.agg #[]), recovered := true }, { v := .iface 240 (.agg #[]), recovered := true }]) [(10, .bR [0, 0, 0, 3, 11, 31, 63] (.step 0 (.step 1 (.step 3 (.dw 2 (.step 4 (.step 5 (.step 6 .done))))))))] Tryz.func153 rfl rfl (by kernel_rfl) rfl (by kernel_rfl) h
theorem Bj {c1 c2 : Nat} {at_ kind n k x : Int} {v : Value} (h :
bh M (.cells #[(.int .i64 0), (.int .i64 0), (.int .i64 0), (.int .i64 0), (.int .u64 0)] 97 (0, 0)) fun k1 M2 =>
aK M2 ⟨k1, 0, none⟩ (.int .i64 at_) fun M3 =>
aK M3 ⟨k1, (0 + 1), none⟩ (.int .i64 kind) fun M4 =>
aK M4 ⟨k1, (0 + 2), none⟩ (.int .i64 n) fun M5 =>
aK M5 ⟨k1, (0 + 3), none⟩ (.int .i64 k) fun M6 =>
aK M6 ⟨k1, (0 + 4), none⟩ (.int .u64 x) fun M7 =>
cw (Mem.ld M7 ⟨c1, 0, none⟩) fun A8 =>
cw (Mem.ld M7 ⟨c2, 0, none⟩) fun A9 =>
aF A8 fun gn eO =>
aJ (Mem.ld M7 ⟨k1, 0, none⟩) .i64 fun jM =>
aJ (Mem.ld M7 ⟨k1, (0 + 1), none⟩) .i64 fun iM =>
aJ (Mem.ld M7 ⟨k1, (0 + 2), none⟩) .i64 fun mb =>
aJ (Mem.ld M7 ⟨k1, (0 + 3), none⟩) .i64 fun lq =>
aJ (Mem.ld M7 ⟨k1, (0 + 4), none⟩) .u64 fun nm =>
aK M7 ⟨gn, eO, none⟩ (.int .i64 2) fun oE =>
((Mem.g9 oE ⟨k1, 0, none⟩ 0 5) = some [(.int .i64 jM), (.int .i64 iM), (.int .i64 mb), (.int .i64 lq), (.int .u64 nm)]) ∧
aF A9 fun en jK =>
aK oE ⟨en, jK, none⟩ (.int .i64 jM) fun vP =>
aK vP ⟨en, (jK + 1), none⟩ (.int .i64 iM) fun oB =>
aK oB ⟨en, (jK + 2), none⟩ (.int .i64 mb) fun dP =>
aK dP ⟨en, (jK + 3), none⟩ (.int .i64 lq) fun me =>
aK me ⟨en, (jK + 4), none⟩ (.int .u64 nm) fun j8 =>
((Mem.g9 j8 ⟨k1, 0, none⟩ 0 5) = some [(.int .i64 jM), (.int .i64 iM), (.int .i64 mb), (.int .i64 lq), (.int .u64 nm)]) ∧
K v j8) :
  jI Tryz.prog 153 [.pointer (some ⟨c1, 0, none⟩), .pointer (some ⟨c2, 0, none⟩)] K Kp v (.panicking [{ v := .iface 97 (.agg #[.int .i64 at_, .int .i64 kind, .int .i64 n, .int .i64 k, .int .u64 x]), recovered := false }]) M :=
 fF (C := Cx) good (args := [.pointer (some ⟨c1, 0, none⟩), .pointer (some ⟨c2, 0, none⟩)]) (d := 6) (x := .iface 97 (.agg #[.int .i64 at_, .int .i64 kind, .int .i64 n, .int .i64 k, .int .u64 x])) (u' := .panicking [{ v := .iface 97 (.agg #[.int .i64 at_, .int .i64 kind, .int .i64 n, .int .i64 k, .int .u64 x]), recovered := true }]) [(10, .bR [0, 0, 0, 3, 11, 31, 63] (.step 0 (.step 1 (.step 3 (.dw 2 (.step 4 (.step 5 (.step 6 .done))))))))] Tryz.func153 rfl rfl (by kernel_rfl) rfl (by kernel_rfl) h
theorem zg {c1 c2 : Nat} {at_ kind n k x : Int} {v : Value} (h :
bh M (.cells #[(.int .i64 0), (.int .i64 0), (.int .i64 0), (.int .i64 0), (.int .u64 0)] 97 (0, 0)) fun k1 M2 =>
aK M2 ⟨k1, 0, none⟩ (.int .i64 at_) fun M3 =>
aK M3 ⟨k1, (0 + 1), none⟩ (.int .i64 kind) fun M4 =>
aK M4 ⟨k1, (0 + 2), none⟩ (.int .i64 n) fun M5 =>
aK M5 ⟨k1, (0 + 3), none⟩ (.int .i64 k) fun M6 =>
aK M6 ⟨k1, (0 + 4), none⟩ (.int .u64 x) fun M7 =>
cw (Mem.ld M7 ⟨c1, 0, none⟩) fun A8 =>
cw (Mem.ld M7 ⟨c2, 0, none⟩) fun A9 =>
aF A8 fun gn eO =>
aJ (Mem.ld M7 ⟨k1, 0, none⟩) .i64 fun jM =>
aJ (Mem.ld M7 ⟨k1, (0 + 1), none⟩) .i64 fun iM =>
aJ (Mem.ld M7 ⟨k1, (0 + 2), none⟩) .i64 fun mb =>
aJ (Mem.ld M7 ⟨k1, (0 + 3), none⟩) .i64 fun lq =>
aJ (Mem.ld M7 ⟨k1, (0 + 4), none⟩) .u64 fun nm =>
aK M7 ⟨gn, eO, none⟩ (.int .i64 2) fun oE =>
((Mem.g9 oE ⟨k1, 0, none⟩ 0 5) = some [(.int .i64 jM), (.int .i64 iM), (.int .i64 mb), (.int .i64 lq), (.int .u64 nm)]) ∧
aF A9 fun en jK =>
aK oE ⟨en, jK, none⟩ (.int .i64 jM) fun vP =>
aK vP ⟨en, (jK + 1), none⟩ (.int .i64 iM) fun oB =>
aK oB ⟨en, (jK + 2), none⟩ (.int .i64 mb) fun dP =>
aK dP ⟨en, (jK + 3), none⟩ (.int .i64 lq) fun me =>
aK me ⟨en, (jK + 4), none⟩ (.int .u64 nm) fun j8 =>
((Mem.g9 j8 ⟨k1, 0, none⟩ 0 5) = some [(.int .i64 jM), (.int .i64 iM), (.int .i64 mb), (.int .i64 lq), (.int .u64 nm)]) ∧
K v j8) :
  jI Tryz.prog 153 [.pointer (some ⟨c1, 0, none⟩), .pointer (some ⟨c2, 0, none⟩)] K Kp v (.panicking [{ v := .iface 97 (.agg #[.int .i64 at_, .int .i64 kind, .int .i64 n, .int .i64 k, .int .u64 x]), recovered := false }, { v := .iface 97 (.agg #[.int .i64 at_, .int .i64 kind, .int .i64 n, .int .i64 k, .int .u64 x]), recovered := true }]) M :=
 fF (C := Cx) good (args := [.pointer (some ⟨c1, 0, none⟩), .pointer (some ⟨c2, 0, none⟩)]) (d := 6) (x := .iface 97 (.agg #[.int .i64 at_, .int .i64 kind, .int .i64 n, .int .i64 k, .int .u64 x])) (u' := .panicking [{ v := .iface 97 (.agg #[.int .i64 at_, .int .i64 kind, .int .i64 n, .int .i64 k, .int .u64 x]), recovered := true }, { v := .iface 97 (.agg #[.int .i64 at_, .int .i64 kind, .int .i64 n, .int .i64 k, .int .u64 x]), recovered := true }]) [(10, .bR [0, 0, 0, 3, 11, 31, 63] (.step 0 (.step 1 (.step 3 (.dw 2 (.step 4 (.step 5 (.step 6 .done))))))))] Tryz.func153 rfl rfl (by kernel_rfl) rfl (by kernel_rfl) h
end Go.Proofs
