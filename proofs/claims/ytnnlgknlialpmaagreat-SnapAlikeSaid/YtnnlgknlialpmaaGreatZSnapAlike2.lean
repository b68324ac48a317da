/- A part of proofs about one program. -/
import Derived.Test.YtnnlgknlialpmaaGreatZSnapAlikeDefer2
import Derived.Test.YtnnlgknlialpmaaGreatZSnapAlike1
set_option linter.unusedVariables false
namespace Go.Proofs
open Go.AF
set_option maxRecDepth 100000
variable {M : Mem} {K : Value → Mem → Prop} {Kp : List PanicEntry → Mem → Prop}
theorem wC {b0 o0 : Nat} {x1 : Int} (h :
rS M b0 (o0 + 4) fun A1 k2 k3 =>
((0 : Int) ≤ x1) ∧
((x1 : Int) < k2) ∧
aE A1 fun k4 k5 =>
rP M k4 (k5 + (Int.toNat x1)) fun A6 =>
aE A6 fun k7 k8 =>
rS M k7 (k8 + 1) fun A9 c6 dQ =>
aa Tryz.prog 189 #[(.slice A9 c6 dQ)] M (fun zK jy =>
cw (some zK) fun pn =>
aE pn fun hU eN =>
rS jy b0 o0 fun Ce dJ iw =>
rI jy hU eN fun fB =>
(0 ≤ fB) ∧
(fB < dJ) ∧
aE Ce fun fK gF =>
rS jy fK (gF + (Int.toNat fB)) fun Mt lq nZ =>
aE pn fun jW nw =>
rI jy jW (nw + 1) fun ux =>
aS (decide (ux ≥ lq))
 (cL Tryz.prog 188 (.pointer (some ⟨b0, o0, none⟩)) K Kp (.bool false) (.panicking [{ v := (.iface 340 (iV (-7))), recovered := false }]) jy)
 (aE pn fun mo mq =>
 rI jy mo (mq + 1) fun vR =>
 (0 ≤ vR) ∧
 (vR < lq) ∧
 aE Mt fun sF pB =>
 bM jy sF (pB + ((Int.toNat vR) * 4)) fun Pt KY w9 Mu =>
 aX jy xy fun ia ZB =>
 kI ZB ia (iV Pt) (iV KY) (iV w9) (iV Mu) fun zP =>
 bM zP ia 0 fun Gq B6 H6 Gf =>
 aa Tryz.prog 190 #[(.pointer pn), (.agg #[(iV Gq), (iV B6), (iV H6), (iV Gf)])] zP (fun v48 AA =>
 dH (some v48) fun t50 =>
 aS t50
 (rI AA ia 0 fun Cr =>
 aS (Cr == 12)
 (cL Tryz.prog 188 (.pointer (some ⟨b0, o0, none⟩)) K Kp (.bool true) .returning AA)
 (rI AA ia 0 fun UX =>
 cL Tryz.prog 188 (.pointer (some ⟨b0, o0, none⟩)) K Kp (.bool (UX == 17)) .returning AA))
 (rI AA ia 0 fun MF =>
 aS (MF == 16)
 (rI AA ia 0 fun UZ =>
 rI AA ia 1 fun ZF =>
 rI AA ia 2 fun PM =>
 rI AA ia 3 fun RL =>
 aa Tryz.prog 191 #[(.pointer (some ⟨b0, o0, none⟩)), (iV x1), (.pointer pn), (.agg #[(iV UZ), (iV ZF), (iV PM), (iV RL)])] AA (fun v58 B7 =>
 (v58 = (.tuple #[])) ∧
 rI B7 ia 0 fun Pe =>
 aS (Pe == 12)
 (cL Tryz.prog 188 (.pointer (some ⟨b0, o0, none⟩)) K Kp (.bool true) .returning B7)
 (rI B7 ia 0 fun Mx =>
 cL Tryz.prog 188 (.pointer (some ⟨b0, o0, none⟩)) K Kp (.bool (Mx == 17)) .returning B7)) (fun l62 w5 => cL Tryz.prog 188 (.pointer (some ⟨b0, o0, none⟩)) K Kp (.bool false) (.panicking l62) w5))
 (rI AA ia 0 fun n64 =>
 aS (n64 == 21)
 (rI AA ia 0 fun zf =>
 rI AA ia 1 fun n66 =>
 rI AA ia 2 fun Gn =>
 rI AA ia 3 fun Pu =>
 aa Tryz.prog 192 #[(.pointer (some ⟨b0, o0, none⟩)), (iV x1), (.pointer pn), (.agg #[(iV zf), (iV n66), (iV Gn), (iV Pu)])] AA (fun v69 KZ =>
 (v69 = (.tuple #[])) ∧
 rI KZ ia 0 fun n71 =>
 aS (n71 == 12)
 (cL Tryz.prog 188 (.pointer (some ⟨b0, o0, none⟩)) K Kp (.bool true) .returning KZ)
 (rI KZ ia 0 fun Pv =>
 cL Tryz.prog 188 (.pointer (some ⟨b0, o0, none⟩)) K Kp (.bool (Pv == 17)) .returning KZ)) (fun l73 Gp => cL Tryz.prog 188 (.pointer (some ⟨b0, o0, none⟩)) K Kp (.bool false) (.panicking l73) Gp))
 (aE pn fun k75 U8 =>
 rI AA k75 (U8 + 1) fun Di =>
 aE pn fun Oc PF =>
 sT AA Oc (PF + 1) (iV (IntKind.wrap .i64 (Di + 1))) fun Ey =>
 rI Ey ia 0 fun ZK =>
 bM Ey ia 0 fun IQ UQ IS RQ =>
 aa Tryz.prog 193 #[] Ey (fun v86 GB =>
 ((Mem.fN GB ⟨ia, 0, none⟩ 0 4) = some [(iV IQ), (iV UQ), (iV IS), (iV RQ)]) ∧
 eI GB ia 0 ZK ∧
 be Tryz.prog (Go.Instr.lookup 345 v86 (iV ZK) false) GB (fun v88 Gs =>
 ((Mem.fN Gs ⟨ia, 0, none⟩ 0 4) = some [(iV IQ), (iV UQ), (iV IS), (iV RQ)]) ∧
 eI Gs ia 0 ZK ∧
 gr Cx v88 [(.pointer (some ⟨b0, o0, none⟩)), (iV x1), (.pointer pn), (.agg #[(iV IQ), (iV UQ), (iV IS), (iV RQ)])] Gs (fun PD mh =>
 (PD = (.tuple #[])) ∧
 ((Mem.fN mh ⟨ia, 0, none⟩ 0 4) = some [(iV IQ), (iV UQ), (iV IS), (iV RQ)]) ∧
 eI mh ia 0 ZK ∧
 rI mh ia 0 fun n92 =>
 aS (n92 == 12)
 (cL Tryz.prog 188 (.pointer (some ⟨b0, o0, none⟩)) K Kp (.bool true) .returning mh)
 (rI mh ia 0 fun S9 =>
 cL Tryz.prog 188 (.pointer (some ⟨b0, o0, none⟩)) K Kp (.bool (S9 == 17)) .returning mh)) (fun l94 Js => cL Tryz.prog 188 (.pointer (some ⟨b0, o0, none⟩)) K Kp (.bool false) (.panicking l94) Js)) (fun l96 K2 => cL Tryz.prog 188 (.pointer (some ⟨b0, o0, none⟩)) K Kp (.bool false) (.panicking l96) K2)) (fun l98 Wn => cL Tryz.prog 188 (.pointer (some ⟨b0, o0, none⟩)) K Kp (.bool false) (.panicking l98) Wn))))) (fun l100 iS => cL Tryz.prog 188 (.pointer (some ⟨b0, o0, none⟩)) K Kp (.bool false) (.panicking l100) iS))) (fun l102 Ez => cL Tryz.prog 188 (.pointer (some ⟨b0, o0, none⟩)) K Kp (.bool false) (.panicking l102) Ez)) :
 aa Tryz.prog 159 #[.pointer (some ⟨b0, o0, none⟩), .int .i64 x1] M K Kp :=
 zc (C := Cx) good (s := 0) (d := 8) (g := 188) (r := 4) [(3, .bS [0, 1, 3, 7, 15, 0, 32, 96, 224, 511, 1023, 2047] (.step 0 (.step 1 (.step 2 (.step 3 (.step 5 (.step 6 (.step 7 (.step 4 (.step 8 (.step 9 (.step 10 (.step 11 .done))))))))))))), (8, .bS [0, 0, 2, 7, 0, 0, 0, 0, 255] (.step 1 (.step 4 (.step 5 (.step 6 (.cY 2 (.cY 7 (.step 0 (.step 3 (.step 8 .done))))))))))] Tryz.func159 rfl rfl (by decide) (by kernel_rfl) (by kernel_rfl) h
theorem GK {b o : Nat} {v : Value} (h : K v M) : cL Tryz.prog 188 (.pointer (some ⟨b, o, none⟩)) K Kp v .returning M :=
 gj (C := Cx) good (args := [.pointer (some ⟨b, o, none⟩)]) (d := 5) (x := .nilIface) (u' := .returning) [] Tryz.func188 rfl rfl (by kernel_rfl) rfl (by kernel_rfl) (vc := K v M) h
theorem JB {b o : Nat} {n : Int} {v : Value} (h :
 aP M ⟨b, (o + 11), none⟩ (.int .i64 2) fun M1 => aP M1 ⟨b, (o + 12), none⟩ (.int .i64 n) fun M2 => K v M2) :
  cL Tryz.prog 188 (.pointer (some ⟨b, o, none⟩)) K Kp v (.panicking [{ v := .iface 340 (.int .i64 n), recovered := false }]) M :=
 gj (C := Cx) good (args := [.pointer (some ⟨b, o, none⟩)]) (d := 5) (x := .iface 340 (.int .i64 n)) (u' := .panicking [{ v := .iface 340 (.int .i64 n), recovered := true }]) [] Tryz.func188 rfl rfl (by kernel_rfl) rfl (by kernel_rfl) h
theorem Nb {b o : Nat} {w v : Value} (h : Kp [{ v := .iface 240 w, recovered := false }, { v := .iface 240 w, recovered := true }] M) :
  cL Tryz.prog 188 (.pointer (some ⟨b, o, none⟩)) K Kp v (.panicking [{ v := .iface 240 w, recovered := false }]) M :=
 gj (C := Cx) good (args := [.pointer (some ⟨b, o, none⟩)]) (d := 5) (x := .iface 240 w) (u' := .panicking [{ v := .iface 240 w, recovered := true }]) [] Tryz.func188 rfl rfl (by kernel_rfl) rfl (by kernel_rfl) (vc := Kp [{ v := .iface 240 w, recovered := false }, { v := .iface 240 w, recovered := true }] M) h
theorem EP {b o : Nat} {w v : Value} (h : Kp [{ v := .iface 97 w, recovered := false }, { v := .iface 97 w, recovered := true }] M) :
  cL Tryz.prog 188 (.pointer (some ⟨b, o, none⟩)) K Kp v (.panicking [{ v := .iface 97 w, recovered := false }]) M :=
 gj (C := Cx) good (args := [.pointer (some ⟨b, o, none⟩)]) (d := 5) (x := .iface 97 w) (u' := .panicking [{ v := .iface 97 w, recovered := true }]) [] Tryz.func188 rfl rfl (by kernel_rfl) rfl (by kernel_rfl) (vc := Kp [{ v := .iface 97 w, recovered := false }, { v := .iface 97 w, recovered := true }] M) h
end Go.Proofs
namespace Go.Proofs
open Go.AF
set_option maxRecDepth 100000
variable {M : Mem} {K : Value → Mem → Prop} {Kp : List PanicEntry → Mem → Prop}
theorem xQ {x0 : Value} {b1 o1 b2 o2 : Nat} (h :
aX M (cl [(.pointer (some ⟨b1, o1, none⟩))] 242) fun k1 M2 =>
aX M2 (cl [(.pointer (some ⟨b2, o2, none⟩))] 243) fun k3 M4 =>
gr Cx x0 [] M4 (fun v5 M6 =>
(v5 = (.tuple #[])) ∧
kK Tryz.prog 153 [(.pointer (some ⟨k1, 0, none⟩)), (.pointer (some ⟨k3, 0, none⟩))] K Kp (.tuple #[]) .returning M6) (fun l7 M8 => kK Tryz.prog 153 [(.pointer (some ⟨k1, 0, none⟩)), (.pointer (some ⟨k3, 0, none⟩))] K Kp (.tuple #[]) (.panicking l7) M8)) :
 aa Tryz.prog 116 #[x0, .pointer (some ⟨b1, o1, none⟩), .pointer (some ⟨b2, o2, none⟩)] M K Kp :=
 xB (C := Cx) good (s1 := 4) (s2 := 5) (d := 6) (g := 153) (r := 0) [] Tryz.func116 rfl rfl (by decide) (by kernel_rfl) (by kernel_rfl) h
theorem Nc {c1 c2 : Nat} {v : Value} (h : K v M) : kK Tryz.prog 153 [.pointer (some ⟨c1, 0, none⟩), .pointer (some ⟨c2, 0, none⟩)] K Kp v .returning M :=
 gj (C := Cx) good (args := [.pointer (some ⟨c1, 0, none⟩), .pointer (some ⟨c2, 0, none⟩)]) (d := 6) (x := .nilIface) (u' := .returning) [(10, .bS [0, 0, 0, 3, 11, 31, 63] (.step 0 (.step 1 (.step 3 (.cY 2 (.step 4 (.step 5 (.step 6 .done))))))))] Tryz.func153 rfl rfl (by kernel_rfl) rfl (by kernel_rfl) (vc := K v M) h
theorem JC {c1 c2 : Nat} {v : Value} (h :
aX M (.cells #[] 240 (0, 0)) fun k1 M2 =>
cw (Mem.ld M2 ⟨c1, 0, none⟩) fun A3 =>
aE A3 fun k4 k5 =>
aP M2 ⟨k4, k5, none⟩ (.int .i64 1) fun M6 =>
K v M6) :
  kK Tryz.prog 153 [.pointer (some ⟨c1, 0, none⟩), .pointer (some ⟨c2, 0, none⟩)] K Kp v (.panicking [{ v := .iface 240 (.agg #[]), recovered := false }]) M :=
 gj (C := Cx) good (args := [.pointer (some ⟨c1, 0, none⟩), .pointer (some ⟨c2, 0, none⟩)]) (d := 6) (x := .iface 240 (.agg #[])) (u' := .panicking [{ v := .iface 240 (.agg #[]), recovered := true }]) [(10, .bS [0, 0, 0, 3, 11, 31, 63] (.step 0 (.step 1 (.step 3 (.cY 2 (.step 4 (.step 5 (.step 6 .done))))))))] Tryz.func153 rfl rfl (by kernel_rfl) rfl (by kernel_rfl) h
theorem GL {c1 c2 : Nat} {v : Value} (h :
aX M (.cells #[] 240 (0, 0)) fun k1 M2 =>
cw (Mem.ld M2 ⟨c1, 0, none⟩) fun A3 =>
aE A3 fun k4 k5 =>
aP M2 ⟨k4, k5, none⟩ (.int .i64 1) fun M6 =>
K v M6) :
  kK Tryz.prog 153 [.pointer (some ⟨c1, 0, none⟩), .pointer (some ⟨c2, 0, none⟩)] K Kp v (.panicking [{ v := .iface 240 (.agg #[]), recovered := false }, { v := .iface 240 (.agg #[]), recovered := true }]) M :=
 gj (C := Cx) good (args := [.pointer (some ⟨c1, 0, none⟩), .pointer (some ⟨c2, 0, none⟩)]) (d := 6) (x := .iface 240 (.agg #[])) (u' := .panicking [{ v := .iface 240 (.agg #[]), recovered := true }, { v := .iface 240 (.agg #[]), recovered := true }]) [(10, .bS [0, 0, 0, 3, 11, 31, 63] (.step 0 (.step 1 (.step 3 (.cY 2 (.step 4 (.step 5 (.step 6 .done))))))))] Tryz.func153 rfl rfl (by kernel_rfl) rfl (by kernel_rfl) h
theorem CE {c1 c2 : Nat} {at_ kind n k x : Int} {v : Value} (h :
aX M (.cells #[(.int .i64 0), (.int .i64 0), (.int .i64 0), (.int .i64 0), (.int .u64 0)] 97 (0, 0)) fun k1 M2 =>
aP M2 ⟨k1, 0, none⟩ (.int .i64 at_) fun M3 =>
aP M3 ⟨k1, (0 + 1), none⟩ (.int .i64 kind) fun M4 =>
aP M4 ⟨k1, (0 + 2), none⟩ (.int .i64 n) fun M5 =>
aP M5 ⟨k1, (0 + 3), none⟩ (.int .i64 k) fun M6 =>
aP M6 ⟨k1, (0 + 4), none⟩ (.int .u64 x) fun M7 =>
cw (Mem.ld M7 ⟨c1, 0, none⟩) fun A8 =>
cw (Mem.ld M7 ⟨c2, 0, none⟩) fun A9 =>
aE A8 fun c6 dQ =>
aK (Mem.ld M7 ⟨k1, 0, none⟩) .i64 fun ik =>
aK (Mem.ld M7 ⟨k1, (0 + 1), none⟩) .i64 fun iq =>
aK (Mem.ld M7 ⟨k1, (0 + 2), none⟩) .i64 fun jX =>
aK (Mem.ld M7 ⟨k1, (0 + 3), none⟩) .i64 fun iA =>
aK (Mem.ld M7 ⟨k1, (0 + 4), none⟩) .u64 fun kT =>
aP M7 ⟨c6, dQ, none⟩ (.int .i64 2) fun lG =>
((Mem.fN lG ⟨k1, 0, none⟩ 0 5) = some [(.int .i64 ik), (.int .i64 iq), (.int .i64 jX), (.int .i64 iA), (.int .u64 kT)]) ∧
aE A9 fun dJ iw =>
aP lG ⟨dJ, iw, none⟩ (.int .i64 ik) fun mb =>
aP mb ⟨dJ, (iw + 1), none⟩ (.int .i64 iq) fun jC =>
aP jC ⟨dJ, (iw + 2), none⟩ (.int .i64 jX) fun dn =>
aP dn ⟨dJ, (iw + 3), none⟩ (.int .i64 iA) fun gB =>
aP gB ⟨dJ, (iw + 4), none⟩ (.int .u64 kT) fun kL =>
((Mem.fN kL ⟨k1, 0, none⟩ 0 5) = some [(.int .i64 ik), (.int .i64 iq), (.int .i64 jX), (.int .i64 iA), (.int .u64 kT)]) ∧
K v kL) :
  kK Tryz.prog 153 [.pointer (some ⟨c1, 0, none⟩), .pointer (some ⟨c2, 0, none⟩)] K Kp v (.panicking [{ v := .iface 97 (.agg #[.int .i64 at_, .int .i64 kind, .int .i64 n, .int .i64 k, .int .u64 x]), recovered := false }]) M :=
 gj (C := Cx) good (args := [.pointer (some ⟨c1, 0, none⟩), .pointer (some ⟨c2, 0, none⟩)]) (d := 6) (x := .iface 97 (.agg #[.int .i64 at_, .int .i64 kind, .int .i64 n, .int .i64 k, .int .u64 x])) (u' := .panicking [{ v := .iface 97 (.agg #[.int .i64 at_, .int .i64 kind, .int .i64 n, .int .i64 k, .int .u64 x]), recovered := true }]) [(10, .bS [0, 0, 0, 3, 11, 31, 63] (.step 0 (.step 1 (.step 3 (.cY 2 (.step 4 (.step 5 (.step 6 .done))))))))] Tryz.func153 rfl rfl (by kernel_rfl) rfl (by kernel_rfl) h
theorem AZ {c1 c2 : Nat} {at_ kind n k x : Int} {v : Value} (h :
aX M (.cells #[(.int .i64 0), (.int .i64 0), (.int .i64 0), (.int .i64 0), (.int .u64 0)] 97 (0, 0)) fun k1 M2 =>
aP M2 ⟨k1, 0, none⟩ (.int .i64 at_) fun M3 =>
aP M3 ⟨k1, (0 + 1), none⟩ (.int .i64 kind) fun M4 =>
aP M4 ⟨k1, (0 + 2), none⟩ (.int .i64 n) fun M5 =>
aP M5 ⟨k1, (0 + 3), none⟩ (.int .i64 k) fun M6 =>
aP M6 ⟨k1, (0 + 4), none⟩ (.int .u64 x) fun M7 =>
cw (Mem.ld M7 ⟨c1, 0, none⟩) fun A8 =>
cw (Mem.ld M7 ⟨c2, 0, none⟩) fun A9 =>
aE A8 fun c6 dQ =>
aK (Mem.ld M7 ⟨k1, 0, none⟩) .i64 fun ik =>
aK (Mem.ld M7 ⟨k1, (0 + 1), none⟩) .i64 fun iq =>
aK (Mem.ld M7 ⟨k1, (0 + 2), none⟩) .i64 fun jX =>
aK (Mem.ld M7 ⟨k1, (0 + 3), none⟩) .i64 fun iA =>
aK (Mem.ld M7 ⟨k1, (0 + 4), none⟩) .u64 fun kT =>
aP M7 ⟨c6, dQ, none⟩ (.int .i64 2) fun lG =>
((Mem.fN lG ⟨k1, 0, none⟩ 0 5) = some [(.int .i64 ik), (.int .i64 iq), (.int .i64 jX), (.int .i64 iA), (.int .u64 kT)]) ∧
aE A9 fun dJ iw =>
aP lG ⟨dJ, iw, none⟩ (.int .i64 ik) fun mb =>
aP mb ⟨dJ, (iw + 1), none⟩ (.int .i64 iq) fun jC =>
aP jC ⟨dJ, (iw + 2), none⟩ (.int .i64 jX) fun dn =>
aP dn ⟨dJ, (iw + 3), none⟩ (.int .i64 iA) fun gB =>
aP gB ⟨dJ, (iw + 4), none⟩ (.int .u64 kT) fun kL =>
((Mem.fN kL ⟨k1, 0, none⟩ 0 5) = some [(.int .i64 ik), (.int .i64 iq), (.int .i64 jX), (.int .i64 iA), (.int .u64 kT)]) ∧
K v kL) :
  kK Tryz.prog 153 [.pointer (some ⟨c1, 0, none⟩), .pointer (some ⟨c2, 0, none⟩)] K Kp v (.panicking [{ v := .iface 97 (.agg #[.int .i64 at_, .int .i64 kind, .int .i64 n, .int .i64 k, .int .u64 x]), recovered := false }, { v := .iface 97 (.agg #[.int .i64 at_, .int .i64 kind, .int .i64 n, .int .i64 k, .int .u64 x]), recovered := true }]) M :=
 gj (C := Cx) good (args := [.pointer (some ⟨c1, 0, none⟩), .pointer (some ⟨c2, 0, none⟩)]) (d := 6) (x := .iface 97 (.agg #[.int .i64 at_, .int .i64 kind, .int .i64 n, .int .i64 k, .int .u64 x])) (u' := .panicking [{ v := .iface 97 (.agg #[.int .i64 at_, .int .i64 kind, .int .i64 n, .int .i64 k, .int .u64 x]), recovered := true }, { v := .iface 97 (.agg #[.int .i64 at_, .int .i64 kind, .int .i64 n, .int .i64 k, .int .u64 x]), recovered := true }]) [(10, .bS [0, 0, 0, 3, 11, 31, 63] (.step 0 (.step 1 (.step 3 (.cY 2 (.step 4 (.step 5 (.step 6 .done))))))))] Tryz.func153 rfl rfl (by kernel_rfl) rfl (by kernel_rfl) h
end Go.Proofs
