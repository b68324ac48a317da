/- A part of proofs about one program. -/
import Derived.Test.YtfjgcljdnhkmaaaGreatProg
import Derived.Test.YtfjgcljdnhkmaaaGreatZWorldDryStC
import Derived.Test.YtfjgcljdnhkmaaaGreatZWorldDryMod
set_option linter.unusedVariables false
namespace Go.Proofs
open Go.AF
noncomputable def Cx : Ctx := ⟨Tryz.prog, 228⟩
theorem good : Cx.Good := by
 refine ⟨?_, by kernel_rfl⟩
 have h : (List.range 226).all (fun g => qU Tryz.prog (g + 2)) = true := by kernel_rfl
 intro g hg
 have h1 : g < 228 := hg.2
 have := List.all_eq_true.1 h (g - 2) (List.mem_range.2 (by omega))
 have e : g - 2 + 2 = g := by omega
 simp only [e] at this
 exact this
def sy : List Nat → Ex → Ex
 | [], e => e
 | i :: l, e => .step i (sy l e)
abbrev aA (t : Nat) (A : Option Addr) (n c : Nat) (B : Option Addr) (m d : Nat) (M : Mem) (K : Value → Mem → Prop) (Kp : List PanicEntry → Mem → Prop) : Prop := bk Tryz.prog (Go.Builtin.append_ #[t, t] t #[.slice A n c, .slice B m d]) M K Kp
theorem vw {f : FuncId} {fn : Func} {args : List Value} {M : Mem} {K : Value → Mem → Prop} {Kp : List PanicEntry → Mem → Prop} (H : List (Nat × Hint)) (hf : Cx.P.funcs[f]? = some fn) {vc : Prop} (h : vc) (h1 : AE fn args.length = true := by kernel_rfl)
  (h2 : vc = eR Cx H Kp (dJ fn) 0 (Py Cx.P fn K) (fD args) M := by kernel_rfl) : ae Cx.P f args.toArray M K Kp := fe (C := Cx) good H hf h1 h2 h
end Go.Proofs
namespace Go.Proofs
open Go.AF
set_option maxRecDepth 100000
variable {M : Mem} {K : Value → Mem → Prop} {Kp : List PanicEntry → Mem → Prop}
theorem Fz {x0 : Int} (h :
aO M (cl [(iV (if (16 : Int) < (if (0 : Int) > x0 then 0 else x0) then 16 else (if (0 : Int) > x0 then 0 else x0))), (.slice none 0 0), (.slice none 0 0), (.slice none 0 0), (.bool false)] 236) fun k1 M2 =>
K (.pointer (some ⟨k1, 0, none⟩)) M2) :
 ae Tryz.prog 72 #[.int .i64 x0] M K Kp := vw [] Tryz.func72 h
theorem uc {b0 o0 : Nat} (h :
aO M Br fun k1 M2 =>
rS M2 b0 (o0 + 1) fun A3 k4 k5 =>
rS M2 b0 (o0 + 2) fun A6 k7 k8 =>
rS M2 b0 (o0 + 3) fun A9 eB eo =>
rB M2 b0 (o0 + 4) fun t12 =>
aO M2 (cl [] 2) fun eu ql =>
(True) ∧
(True) ∧
aA 59 (some ⟨eu, 0, none⟩) 0 0 A3 k4 k5 ql (fun By gj =>
aF (some By) fun AI fq jH =>
((Mem.ld gj ⟨b0, (o0 + 4), none⟩) = (some (.bool t12))) ∧
((Mem.ld gj ⟨b0, (o0 + 3), none⟩) = (some (.slice A9 eB eo))) ∧
((Mem.ld gj ⟨b0, (o0 + 2), none⟩) = (some (.slice A6 k7 k8))) ∧
aO gj (cl [] 298) fun fV jI =>
(True) ∧
aA 199 (some ⟨fV, 0, none⟩) 0 0 A6 k7 k8 jI (fun Lc mD =>
aF (some Lc) fun CW jJ gM =>
((Mem.ld mD ⟨b0, (o0 + 4), none⟩) = (some (.bool t12))) ∧
((Mem.ld mD ⟨b0, (o0 + 3), none⟩) = (some (.slice A9 eB eo))) ∧
((Mem.ld mD ⟨b0, (o0 + 2), none⟩) = (some (.slice A6 k7 k8))) ∧
aO mD (cl [] 298) fun kK Df =>
aA 199 (some ⟨kK, 0, none⟩) 0 0 A9 eB eo Df (fun v29 wH =>
aF (some v29) fun Io iy lz =>
((Mem.ld wH ⟨b0, (o0 + 4), none⟩) = (some (.bool t12))) ∧
((Mem.ld wH ⟨b0, (o0 + 3), none⟩) = (some (.slice A9 eB eo))) ∧
((Mem.ld wH ⟨b0, (o0 + 2), none⟩) = (some (.slice A6 k7 k8))) ∧
mB wH k1 (.slice AI fq jH) (.slice CW jJ gM) (.slice Io iy lz) (.bool t12) fun Ro =>
((Mem.ld Ro ⟨b0, (o0 + 4), none⟩) = (some (.bool t12))) ∧
((Mem.ld Ro ⟨b0, (o0 + 3), none⟩) = (some (.slice A9 eB eo))) ∧
((Mem.ld Ro ⟨b0, (o0 + 2), none⟩) = (some (.slice A6 k7 k8))) ∧
Oj Ro k1 0 fun Oq lA va Ld jC jK AJ wI me t47 =>
K (.agg #[(.slice Oq lA va), (.slice Ld jC jK), (.slice AJ wI me), (.bool t47)]) Ro) Kp) Kp) Kp) :
 ae Tryz.prog 117 #[.pointer (some ⟨b0, o0, none⟩)] M K Kp := vw [(1, .bH [0, 0, 2, 6, 14, 31, 0, 0, 128, 384, 896, 2047, 0, 0, 8192, 24576, 57344, 131071, 0, 262144, 786432, 1835008, 4194303, 8388607] (sy [1, 2, 3, 7, 8, 9, 13, 14, 15, 18, 19, 20, 4] (.cS 10 (.cS 16 (.cS 21 (sy [0] (.late 5 (sy [6] (.late 11 (sy [12, 17, 22, 23] .done))))))))))] Tryz.func117 h
theorem pE {b0 o0 : Nat} {dS : Int} {eD : Int} {eE : Int} (h :
aO M (cl [(iV dS), (iV eD), (iV eE)] 298) fun k1 M2 =>
rS M2 b0 (o0 + 3) fun A3 k4 k5 =>
eT M2 k1 0 fun n6 n7 n8 =>
aO M2 (cl [(iV n6), (iV n7), (iV n8)] 298) fun k9 mV =>
aA 199 A3 k4 k5 (some ⟨k9, 0, none⟩) 1 1 mV (fun v11 wJ =>
aF (some v11) fun zA fB jy =>
sT wJ b0 (o0 + 3) (.slice zA fB jy) fun gj =>
K (.tuple #[]) gj) Kp) :
 ae Tryz.prog 205 #[.pointer (some ⟨b0, o0, none⟩), .agg #[.int .i64 dS, .int .i64 eD, .int .i64 eE]] M K Kp := vw [(1, .bH [0, 0, 2, 6, 14, 0, 32, 126, 255, 511, 1023] (sy [0, 1, 2, 3, 4, 5, 6, 7, 8, 9, 10] .done))] Tryz.func205 h
theorem pF {b0 o0 : Nat} {dS : Int} {eD : Int} {eE : Int} (h :
aO M (cl [(iV dS), (iV eD), (iV eE)] 298) fun k1 M2 =>
rS M2 b0 (o0 + 2) fun A3 k4 k5 =>
eT M2 k1 0 fun n6 n7 n8 =>
aO M2 (cl [(iV n6), (iV n7), (iV n8)] 298) fun k9 mV =>
aA 199 A3 k4 k5 (some ⟨k9, 0, none⟩) 1 1 mV (fun v11 wJ =>
aF (some v11) fun zA fB jy =>
sT wJ b0 (o0 + 2) (.slice zA fB jy) fun gj =>
K (.tuple #[]) gj) Kp) :
 ae Tryz.prog 206 #[.pointer (some ⟨b0, o0, none⟩), .agg #[.int .i64 dS, .int .i64 eD, .int .i64 eE]] M K Kp := vw [(1, .bH [0, 0, 2, 6, 14, 0, 32, 126, 255, 511, 1023] (sy [0, 1, 2, 3, 4, 5, 6, 7, 8, 9, 10] .done))] Tryz.func206 h
theorem vz {b0 o0 : Nat} {x1 : Int} (h :
aO M mb fun k1 M2 =>
rB M2 b0 (o0 + 4) fun t3 =>
aM t3
 (sT M2 k1 0 (iV 0) fun M4 =>
 sT M4 k1 1 (iV 0) fun M5 =>
 sT M5 k1 2 (iV 0) fun M6 =>
 eT M6 k1 0 fun n7 n8 n9 =>
 K (.tuple #[(.agg #[(iV n7), (iV n8), (iV n9)]), (.bool false), (iV 10)]) M6)
 (rS M2 b0 (o0 + 3) fun Le eo gI =>
 aM (decide ((eo : Int) > 0))
 (aO M2 mb fun eu ql =>
 rS ql b0 (o0 + 3) fun oW fx fT =>
 ae Tryz.prog 222 #[(.slice oW fx fT)] ql (fun FA m7 =>
 ∃ gF vb w5 : Int, ∃ PG : Option Addr, ∃ nW jJ : Nat, (FA = (.tuple #[(.agg #[(iV gF), (iV vb), (iV w5)]), (.slice PG nW jJ)])) ∧
 pA m7 eu (iV gF) (iV vb) (iV w5) fun Df =>
 sT Df b0 (o0 + 3) (.slice PG nW jJ) fun pG =>
 sT pG eu 2 (iV x1) fun wH =>
 eT wH eu 0 fun ry n32 kP =>
 pA wH k1 (iV ry) (iV n32) (iV kP) fun pH =>
 eT pH k1 0 fun xU mE yC =>
 K (.tuple #[(.agg #[(iV xU), (iV mE), (iV yC)]), (.bool true), (iV 0)]) pH) Kp)
 (rS M2 b0 (o0 + 1) fun A40 nH jC =>
 rI M2 b0 o0 fun xV =>
 aM (decide ((nH : Int) < xV))
 (rS M2 b0 (o0 + 1) fun AJ wI me =>
 aO M2 (cl [(iV x1)] 2) fun kj Ep =>
 aA 59 AJ wI me (some ⟨kj, 0, none⟩) 1 1 Ep (fun Xd Ht =>
 aF (some Xd) fun CX pI j8 =>
 sT Ht b0 (o0 + 1) (.slice CX pI j8) fun PI =>
 pA PI k1 (iV 0) (iV 0) (iV 0) fun Hu =>
 eT Hu k1 0 fun Dg Ip vA =>
 K (.tuple #[(.agg #[(iV Dg), (iV Ip), (iV vA)]), (.bool false), (iV 0)]) Hu) Kp)
 (sT M2 k1 0 (iV 0) fun z4 =>
 sT z4 k1 1 (iV 0) fun Rp =>
 sT Rp k1 2 (iV 0) fun FB =>
 eT FB k1 0 fun n64 Hv PJ =>
 K (.tuple #[(.agg #[(iV n64), (iV Hv), (iV PJ)]), (.bool false), (iV 6)]) FB)))) :
 ae Tryz.prog 207 #[.pointer (some ⟨b0, o0, none⟩), .int .i64 x1] M K Kp := vw [(8, .bH [0, 1, 3, 7, 15, 0, 32, 96, 224, 511, 1023] (sy [0, 1, 2, 5, 6, 7, 3, 4, 8, 9, 10] .done))] Tryz.func207 h
theorem vB {b0 o0 : Nat} (h :
aO M pB fun k1 M2 =>
aO M2 pB fun k3 M4 =>
rS M4 b0 (o0 + 2) fun A5 k6 k7 =>
∃ J8 : List Value → Mem → Prop, (aM (decide ((k6 : Int) > 0))
 (rS M4 b0 (o0 + 2) fun A9 eB eo =>
 ae Tryz.prog 222 #[(.slice A9 eB eo)] M4 (fun Hs lG =>
 ∃ jD lj nI : Int, ∃ AI : Option Addr, ∃ fq jH : Nat, (Hs = (.tuple #[(.agg #[(iV jD), (iV lj), (iV nI)]), (.slice AI fq jH)])) ∧
 sT lG k3 2 (iV jD) fun vC =>
 sT vC k3 (2 + 1) (iV lj) fun jI =>
 sT jI k3 (2 + 2) (iV nI) fun c9 =>
 sT c9 b0 (o0 + 2) (.slice AI fq jH) fun mD =>
 sT mD k3 5 (.bool true) fun nJ =>
 rS nJ b0 (o0 + 1) fun CY gM kK =>
 rI nJ k3 (2 + 2) fun Ko =>
 aO nJ (cl [(iV Ko)] 2) fun gk wH =>
 aA 59 CY gM kK (some ⟨gk, 0, none⟩) 1 1 wH (fun SP mR =>
 aF (some SP) fun Kr mS kD =>
 sT mR b0 (o0 + 1) (.slice Kr mS kD) fun pH =>
 J8 [] pH) Kp) Kp)
 (J8 [] M4)) ∧
∀ junk37 : Nat → Value, ∀ lB : Mem, (J8 [] lB) → rS lB b0 (o0 + 1) fun ZL va nH =>
aM (decide ((va : Int) > 0))
 (rS lB b0 (o0 + 1) fun Iq jK zB =>
 ((0 : Int) ≤ 0) ∧
 ((0 : Int) < jK) ∧
 aE Iq fun wI me =>
 rI lB wI (me + 0) fun Dh =>
 Ws lB k3 (iV Dh) (.bool true) fun w6 =>
 aO w6 (cl [] 2) fun vD AK =>
 rS AK b0 (o0 + 1) fun Ir j8 xX =>
 ((0 : Int) ≤ xX) ∧
 ((xX : Int) ≤ xX) ∧
 ((0 : Int) ≤ j8) ∧
 ((j8 : Int) ≤ xX) ∧
 ((0 : Int) ≤ 1) ∧
 ((1 : Int) ≤ j8) ∧
 bk Tryz.prog (Go.Builtin.append_ #[59, 59] 59 #[(.slice (some ⟨vD, 0, none⟩) 0 0), (.slice (jt Ir 1 (Int.toNat (xX : Int)) 1) ((Int.toNat (j8 : Int)) - 1) ((Int.toNat (xX : Int)) - 1))]) AK (fun Lf Ks =>
 aF (some Lf) fun Rq Bz Er =>
 sT Ks b0 (o0 + 1) (.slice Rq Bz Er) fun Rr =>
 AH Rr k3 0 fun n61 t62 n63 n64 Hv t66 =>
 Rm Rr k1 (iV n61) (.bool t62) (iV n63) (iV n64) (iV Hv) (.bool t66) fun M72 =>
 AH M72 k1 0 fun PK t74 SQ Xe Xf t78 =>
 K (.tuple #[(.agg #[(iV PK), (.bool t74), (iV SQ), (iV Xe), (iV Xf), (.bool t78)]), (iV 0)]) M72) Kp)
 (rB lB b0 (o0 + 4) fun t79 =>
 aM t79
 (rI lB k3 0 fun Hw =>
 rB lB k3 1 fun t81 =>
 rI lB k3 2 fun Wv =>
 rI lB k3 3 fun Ww =>
 rI lB k3 4 fun Rs =>
 rB lB k3 5 fun t85 =>
 Rm lB k1 (iV Hw) (.bool t81) (iV Wv) (iV Ww) (iV Rs) (.bool t85) fun ov =>
 AH ov k1 0 fun Di t93 SR SS SU t97 =>
 K (.tuple #[(.agg #[(iV Di), (.bool t93), (iV SR), (iV SS), (iV SU), (.bool t97)]), (iV 0)]) ov)
 (rI lB k3 0 fun n98 =>
 rB lB k3 1 fun t99 =>
 rI lB k3 2 fun yD =>
 rI lB k3 3 fun vE =>
 rI lB k3 4 fun BA =>
 rB lB k3 5 fun t103 =>
 Rm lB k1 (iV n98) (.bool t99) (iV yD) (iV vE) (iV BA) (.bool t103) fun PL =>
 AH PL k1 0 fun FC t111 Lg SV FD t115 =>
 K (.tuple #[(.agg #[(iV FC), (.bool t111), (iV Lg), (iV SV), (iV FD), (.bool t115)]), (iV 5)]) PL))) :
 ae Tryz.prog 209 #[.pointer (some ⟨b0, o0, none⟩)] M K Kp := vw [(3000010, .cut []), (5, .bH [0, 0, 2, 6, 14, 0, 32, 96, 224, 510, 1023, 2047, 4095] (sy [0, 1, 2, 3, 5, 6, 4, 7, 8, 9, 10, 11, 12] .done))] Tryz.func209 h
theorem ud {b0 o0 : Nat} (h :
rB M b0 (o0 + 4) fun t1 =>
aM t1
 (K (.tuple #[(.slice none 0 0), (.slice none 0 0), (iV 10)]) M)
 (rS M b0 (o0 + 3) fun A2 k3 k4 =>
 rS M b0 (o0 + 2) fun A5 k6 k7 =>
 sT M b0 (o0 + 4) (.bool true) fun M8 =>
 sT M8 b0 (o0 + 3) (.slice none 0 0) fun M9 =>
 sT M9 b0 (o0 + 2) (.slice none 0 0) fun mV =>
 K (.tuple #[(.slice A2 k3 k4), (.slice A5 k6 k7), (iV 0)]) mV)) :
 ae Tryz.prog 213 #[.pointer (some ⟨b0, o0, none⟩)] M K Kp := vw [(3, .bH [0, 1, 3, 7, 0, 16, 48, 112, 15, 511] (sy [0, 1, 2, 4, 5, 6, 3, 8, 7, 9] .done))] Tryz.func213 h
theorem qm {b0 o0 : Nat} (h :
rB M b0 (o0 + 4) fun t1 =>
aM t1
 (K (.bool true) M)
 (rS M b0 (o0 + 2) fun A2 k3 k4 =>
 aM (decide ((k3 : Int) > 0))
 (K (.bool true) M)
 (rS M b0 (o0 + 1) fun A5 k6 k7 =>
 K (.bool (decide ((k6 : Int) > 0))) M))) :
 ae Tryz.prog 220 #[.pointer (some ⟨b0, o0, none⟩)] M K Kp := vw [] Tryz.func220 h
theorem qn {b0 o0 : Nat} (h :
rB M b0 (o0 + 4) fun t1 =>
aM t1
 (K (.bool true) M)
 (rS M b0 (o0 + 3) fun A2 k3 k4 =>
 aM (decide ((k3 : Int) > 0))
 (K (.bool true) M)
 (rS M b0 (o0 + 1) fun A5 k6 k7 =>
 rI M b0 o0 fun n8 =>
 K (.bool (decide ((k6 : Int) < n8))) M))) :
 ae Tryz.prog 221 #[.pointer (some ⟨b0, o0, none⟩)] M K Kp := vw [(1, .bH [0, 1, 3, 7, 15, 31, 63, 127, 255, 511, 1023, 2047, 4095, 8191, 16383, 32767, 65535, 131071, 8191, 270335, 794623, 1843199, 4194303, 8388607, 16777215] (sy [0, 1, 2, 3, 4, 5, 6, 7, 8, 9, 10, 11, 12, 13, 14, 15, 18, 19, 20, 16, 17, 21, 22, 23, 24] .done))] Tryz.func221 h
theorem BB {B0 : Option Addr} {m0 c0 : Nat} (h :
aO M mb fun k1 M2 =>
((0 : Int) ≤ 0) ∧
((0 : Int) < m0) ∧
aE B0 fun k3 k4 =>
((0 : Int) ≤ c0) ∧
((c0 : Int) ≤ c0) ∧
((0 : Int) ≤ m0) ∧
((m0 : Int) ≤ c0) ∧
((0 : Int) ≤ 1) ∧
((1 : Int) ≤ m0) ∧
eT M2 k3 (k4 + 0) fun n5 n6 n7 =>
aO M2 (cl [] 298) fun k8 M9 =>
bk Tryz.prog (Go.Builtin.append_ #[199, 199] 199 #[(.slice (some ⟨k8, 0, none⟩) 0 0), (.slice (jt B0 1 (Int.toNat (c0 : Int)) 3) ((Int.toNat (m0 : Int)) - 1) ((Int.toNat (c0 : Int)) - 1))]) M9 (fun v10 iQ =>
aF (some v10) fun m8 eu fB =>
((Mem.fX iQ ⟨k3, (k4 + 0), none⟩ 0 3) = some [(iV n5), (iV n6), (iV n7)]) ∧
pA iQ k1 (iV n5) (iV n6) (iV n7) fun mW =>
((Mem.fX mW ⟨k3, (k4 + 0), none⟩ 0 3) = some [(iV n5), (iV n6), (iV n7)]) ∧
eT mW k1 0 fun kQ nX gF =>
K (.tuple #[(.agg #[(iV kQ), (iV nX), (iV gF)]), (.slice m8 eu fB)]) mW) Kp) :
 ae Tryz.prog 222 #[.slice B0 m0 c0] M K Kp := vw [(1, .bH [0, 1, 3, 0, 0, 16, 56, 127, 255] (sy [0, 1, 4, 5] (.cS 2 (sy [3, 6, 7, 8] .done))))] Tryz.func222 h
theorem vF {b0 o0 : Nat} {x1 : Int} (h :
rS M b0 (o0 + 2) fun A1 k2 k3 =>
(ae Tryz.prog 227 #[(.slice A1 k2 k3), (iV x1)] M (fun v4 M5 =>
 aF (some v4) fun A6 k7 k8 =>
 rS M5 b0 (o0 + 3) fun A9 eB eo =>
 ae Tryz.prog 227 #[(.slice A9 eB eo), (iV x1)] M5 (fun Hs lG =>
 aF (some Hs) fun ue jy fx =>
 sT lG b0 (o0 + 2) (.slice A6 k7 k8) fun mW =>
 sT mW b0 (o0 + 3) (.slice ue jy fx) fun lR =>
 K (.tuple #[]) lR) Kp) Kp) ∧
(rS M b0 (o0 + 3) fun Hx fV lH =>
 ae Tryz.prog 227 #[(.slice A1 k2 k3), (iV x1)] M (fun Lc mD =>
 aF (some Lc) fun CW jJ gM =>
 ae Tryz.prog 227 #[(.slice Hx fV lH), (iV x1)] mD (fun v27 Df =>
 aF (some v27) fun A29 jg iM =>
 sT Df b0 (o0 + 2) (.slice CW jJ gM) fun mR =>
 sT mR b0 (o0 + 3) (.slice A29 jg iM) fun uf =>
 K (.tuple #[]) uf) Kp) Kp) ∧
True) :
 ae Tryz.prog 226 #[.pointer (some ⟨b0, o0, none⟩), .int .i64 x1] M K Kp := vw [(0, .bH [0, 0, 0, 4, 12, 28, 0, 124, 0, 256, 768, 1792, 0, 8188, 16381, 32765, 65533, 131071, 262143, 524287] (sy [0, 1, 2, 3, 4, 6, 8, 9, 10, 12, 5] (.fork 7 (sy [11, 13, 14, 15, 16, 17, 18, 19] .done) (.fork 11 (sy [7, 13, 14, 15, 16, 17, 18, 19] .done) .dead))))] Tryz.func226 h
theorem yE {B0 : Option Addr} {m0 c0 : Nat} {x1 : Int} (h :
∃ I1 : IT, (∃ k2, I1 k2 [(.slice none 0 0), (iV 0)] M) ∧
∀ (k3 : Nat) (_ : Nat → Value) (A5 : Option Addr) (k6 : Nat) (k7 : Nat) (n8 : Int) (M9 : Mem), (I1 k3 [(.slice A5 k6 k7), (iV n8)] M9) → aM (decide (n8 < m0))
 ((0 ≤ n8) ∧
 (n8 < m0) ∧
 aE B0 fun eB eo =>
 eT M9 eB (eo + ((Int.toNat n8) * 3)) fun hG m9 jD =>
 aO M9 mb fun jy gj =>
 pA gj jy (iV hG) (iV m9) (iV jD) fun m7 =>
 rI m7 jy 0 fun gF =>
 aM (gF != x1)
 (rI m7 jy 0 fun vb =>
 rI m7 jy 1 fun w5 =>
 rI m7 jy 2 fun nY =>
 aO m7 (cl [(iV vb), (iV w5), (iV nY)] 298) fun nW qo =>
 aA 199 A5 k6 k7 (some ⟨nW, 0, none⟩) 1 1 qo (fun v26 ng =>
 aF (some v26) fun z5 gk jg =>
 ∃ iM : Nat, (iM < k3) ∧
 I1 iM [(.slice z5 gk jg), (iV (IntKind.wrap .i64 (n8 + 1)))] ng) Kp)
 (∃ iy : Nat, (iy < k3) ∧
 I1 iy [(.slice A5 k6 k7), (iV (IntKind.wrap .i64 (n8 + 1)))] m7))
 (K (.slice A5 k6 k7) M9)) :
 ae Tryz.prog 227 #[.slice B0 m0 c0, .int .i64 x1] M K Kp := vw [(2000000, .loop [(5, .c .sl), (10, .c (.int .i64))])] Tryz.func227 h
end Go.Proofs
namespace Go.Proofs
open Go.AF
set_option maxRecDepth 100000
set_option maxHeartbeats 1000000
attribute [local irreducible] bG dF ff dP aF fa aE b7 aO bk bJ aM
theorem lC : bF Tryz.prog 59 2 1 8 [.int .i64 0] := bF.mk' (zv := .int .i64 0) (by kernel_rfl) (by kernel_rfl) rfl (by omega)
theorem tD : bF Tryz.prog 199 298 3 24 [.int .i64 0, .int .i64 0, .int .i64 0] := bF.mk' (zv := .agg #[.int .i64 0, .int .i64 0, .int .i64 0]) (by kernel_rfl) (by kernel_rfl) rfl (by omega)
abbrev rz (A : Option Addr) (c : Nat) (l : List Int) : HP := cw bS 2 A c l
abbrev qp (A : Option Addr) (c : Nat) (l : List Wt) : HP := cw cC 298 A c l
abbrev jz (c : aQ) (Ab : Option Addr) (cb : Nat) (As : Option Addr) (cs : Nat) (Ar : Option Addr) (cr : Nat) : List Value :=
 [.int .i64 (c.room : Int), .slice Ab c.buf.length cb, .slice As c.snd.length cs, .slice Ar c.cH.length cr, .bool c.closed]
def bL : xT aQ := ⟨fun b c => exs fun Ab : Option Addr => exs fun cb : Nat => exs fun As : Option Addr => exs fun cs : Nat => exs fun Ar : Option Addr => exs fun cr : Nat =>
 sep [pt b (jz c Ab cb As cs Ar cr) 236, rz Ab cb c.buf, qp As cs c.snd, qp Ar cr c.cH]⟩
section
variable {R : Mem} {L L' : List HP} {M : Mem} {K : Value → Mem → Prop} {Kp : List PanicEntry → Mem → Prop} {b : Nat} {c : aQ}
theorem iD (h : Hp R L M) [o : gn bL b L c L'] : ∃ Ab cb As cs Ar cr, Hp R (pt b (jz c Ab cb As cs Ar cr) 236 :: rz Ab cb c.buf :: qp As cs c.snd :: qp Ar cr c.cH :: L') M := by
 have := h.obj bL b
 simpa only [bL, Hp.po, Hp.cW, List.cons_append, List.nil_append] using this
theorem Ot {Ab As Ar : Option Addr} {cb cs cr : Nat} (h : Hp R (pt b (jz c Ab cb As cs Ar cr) 236 :: rz Ab cb c.buf :: qp As cs c.snd :: qp Ar cr c.cH :: L) M) : Hp R (bj bL b c :: L) M := by
 refine Hp.SE ?_
 simp only [bL, Hp.po, Hp.cW, List.cons_append, List.nil_append]
 exact ⟨_, _, _, _, _, _, h⟩
theorem dK {Ab As Ar : Option Addr} {nb cb ns cs nr cr room : Nat} {closed : Bool} {buf : List Int} {snd cH : List Wt} {L1 L2 L3 L4 : List HP} (h : Hp R L M) (b : Nat)
  [p : nE b L [.int .i64 (room : Int), .slice Ab nb cb, .slice As ns cs, .slice Ar nr cr, .bool closed] 236 L1] [p1 : dG Ab L1 Int bS 2 cb buf L2] [p2 : dG As L2 Wt cC 298 cs snd L3] [p3 : dG Ar L3 Wt cC 298 cr cH L4]
  (e1 : nb = buf.length := by first | rfl | simp) (e2 : ns = snd.length := by first | rfl | simp) (e3 : nr = cH.length := by first | rfl | simp) : Hp R (bj bL b ⟨room, buf, snd, cH, closed⟩ :: L4) M := by
 subst e1; subst e2; subst e3
 exact Ot (h.sub (.cons p.pick (.cons p1.pick (.cons p2.pick (.cons p3.pick .refl)))))
theorem Es {room : Int} (h : Hp R L M) (k : ∀ b M', Hp R (bj bL b (.new room) :: L) M' → K (.pointer (some ⟨b, 0, none⟩)) M') :
  ae Tryz.prog 72 #[.int .i64 room] M K Kp := by
 refine Fz ?_
 rw [SG]
 refine ai h fun b M' h => k b M' (Ot ((((h.dz cC _).dz cC _).dz bS _).sub bz))
theorem zC {B : Option Addr} {m c : Nat} {w : Wt} {r : List Wt} (h : Hp R L M) (hB : Src R L B (cC.cells (w :: r))) (hm : m = r.length + 1) (hc : m ≤ c) (hn : m ≤ 1000000000)
  (k : ∀ A' c' M', Hp R (qp A' c' r :: L) M' → K (.tuple #[.agg #[.int .i64 w.g, .int .i64 w.cs, .int .i64 w.v], .slice A' r.length c']) M') :
  ae Tryz.prog 222 #[.slice B m c] M K Kp := by
 refine BB ?_
 obtain ⟨b, o, rfl⟩ := hB.iP h (by simp) (by decide)
 repeat (first|(refine ai h ?_;clear h;intro kb M h)|(refine ak h ?_;clear h;intro M h)|refine St.to h ?_|(apply Exists.intro;(repeat apply Exists.intro);refine And.intro rfl ?_)|refine ay ?_|refine aq ?_|refine au ?_)
 refine aj (hB.cons.at h (i := 0) (j := 0) rfl rfl (by omega)) ?_
 refine aj (hB.cons.at h (i := 0) (j := 1) rfl rfl (by omega)) ?_
 refine aj (hB.cons.at h (i := 0) (j := 2) rfl rfl (by omega)) ?_
 repeat (first|(refine ai h ?_;clear h;intro kb M h)|(refine ak h ?_;clear h;intro M h)|refine St.to h ?_|(apply Exists.intro;(repeat apply Exists.intro);refine And.intro rfl ?_)|refine ay ?_|refine aq ?_|refine au ?_)
 have s2 := hB.drop (m := 1) (c := c) (by simp; omega)
 simp only [Int.toNat_natCast]
 refine h.b6 cC tD r s2.cons.cons (by omega) (by omega) ?_
 clear h
 intro A' c' M h
 repeat (first|(refine ai h ?_;clear h;intro kb M h)|(refine ak h ?_;clear h;intro M h)|refine St.to h ?_|(apply Exists.intro;(repeat apply Exists.intro);refine And.intro rfl ?_)|refine ay ?_|refine aq ?_|refine au ?_)
 refine ⟨hB.cons.cons.fX h (i := 0) rfl (by omega), ?_⟩
 repeat (first|(refine ai h ?_;clear h;intro kb M h)|(refine ak h ?_;clear h;intro M h)|refine St.to h ?_|(apply Exists.intro;(repeat apply Exists.intro);refine And.intro rfl ?_)|refine ay ?_|refine aq ?_|refine au ?_)
 refine ⟨hB.cons.cons.fX h (i := 0) rfl (by omega), ?_⟩
 repeat (first|(refine ai h ?_;clear h;intro kb M h)|(refine ak h ?_;clear h;intro M h)|refine St.to h ?_|(apply Exists.intro;(repeat apply Exists.intro);refine And.intro rfl ?_)|refine ay ?_|refine aq ?_|refine au ?_)
 exact k _ _ _ h.jf
theorem Dj (h : Hp R L M) [o : gn bL b L c L'] (k : K (.bool c.tv) M) : ae Tryz.prog 221 #[.pointer (some ⟨b, 0, none⟩)] M K Kp := by
 refine qn ?_
 have h' := iD h (b := b)
 clear h
 obtain ⟨Ab, cb, As, cs, Ar, cr, h⟩ := h'
 repeat (first|(refine ai h ?_;clear h;intro kb M h)|(refine ak h ?_;clear h;intro M h)|refine St.to h ?_|(apply Exists.intro;(repeat apply Exists.intro);refine And.intro rfl ?_)|refine ay ?_|refine aq ?_|refine au ?_)
 refine fL.2 ⟨fun hc => ?_, fun hc => ?_⟩
 ·rwa [aQ.tv, hc] at k
 ·repeat (first|(refine ai h ?_;clear h;intro kb M h)|(refine ak h ?_;clear h;intro M h)|refine St.to h ?_|(apply Exists.intro;(repeat apply Exists.intro);refine And.intro rfl ?_)|refine ay ?_|refine aq ?_|refine au ?_)
  refine aH.2 ⟨fun hr => ?_, fun hr => ?_⟩
  ·have : c.cH.isEmpty = false := by cases hc : c.cH <;> simp_all
   rwa [aQ.tv, hc, this] at k
  ·repeat (first|(refine ai h ?_;clear h;intro kb M h)|(refine ak h ?_;clear h;intro M h)|refine St.to h ?_|(apply Exists.intro;(repeat apply Exists.intro);refine And.intro rfl ?_)|refine ay ?_|refine aq ?_|refine au ?_)
   have : c.cH.isEmpty = true := by cases hc : c.cH <;> simp_all
   rw [aQ.tv, hc, this] at k
   simpa using k
theorem Dk (h : Hp R L M) [o : gn bL b L c L'] (k : K (.bool c.tw) M) : ae Tryz.prog 220 #[.pointer (some ⟨b, 0, none⟩)] M K Kp := by
 refine qm ?_
 have h' := iD h (b := b)
 clear h
 obtain ⟨Ab, cb, As, cs, Ar, cr, h⟩ := h'
 repeat (first|(refine ai h ?_;clear h;intro kb M h)|(refine ak h ?_;clear h;intro M h)|refine St.to h ?_|(apply Exists.intro;(repeat apply Exists.intro);refine And.intro rfl ?_)|refine ay ?_|refine aq ?_|refine au ?_)
 refine fL.2 ⟨fun hc => ?_, fun hc => ?_⟩
 ·rwa [aQ.tw, hc] at k
 ·repeat (first|(refine ai h ?_;clear h;intro kb M h)|(refine ak h ?_;clear h;intro M h)|refine St.to h ?_|(apply Exists.intro;(repeat apply Exists.intro);refine And.intro rfl ?_)|refine ay ?_|refine aq ?_|refine au ?_)
  refine aH.2 ⟨fun hr => ?_, fun hr => ?_⟩
  ·have : c.snd.isEmpty = false := by cases hc : c.snd <;> simp_all
   rwa [aQ.tw, hc, this] at k
  ·repeat (first|(refine ai h ?_;clear h;intro kb M h)|(refine ak h ?_;clear h;intro M h)|refine St.to h ?_|(apply Exists.intro;(repeat apply Exists.intro);refine And.intro rfl ?_)|refine ay ?_|refine aq ?_|refine au ?_)
   have : c.snd.isEmpty = true := by cases hc : c.snd <;> simp_all
   rw [aQ.tw, hc, this] at k
   have e : (!c.buf.isEmpty) = decide ((c.buf.length : Int) > 0) := by cases c.buf <;> simp
   rw [← e]; simpa using k
theorem rD {w : Wt} (h : Hp R L M) [o : gn bL b L c L'] (hs : c.Small 1000000000) (k : ∀ M', Hp R (bj bL b { c with snd := c.snd ++ [w] } :: L') M' → K (.tuple #[]) M') :
  ae Tryz.prog 206 #[.pointer (some ⟨b, 0, none⟩), .agg #[.int .i64 w.g, .int .i64 w.cs, .int .i64 w.v]] M K Kp := by
 refine pF ?_
 have h' := iD h (b := b)
 clear h
 obtain ⟨Ab, cb, As, cs, Ar, cr, h⟩ := h'
 obtain ⟨h1, h2, h3⟩ := hs
 repeat (first|(refine ai h ?_;clear h;intro kb M h)|(refine ak h ?_;clear h;intro M h)|refine St.to h ?_|(apply Exists.intro;(repeat apply Exists.intro);refine And.intro rfl ?_)|refine ay ?_|refine aq ?_|refine au ?_)
 refine h.be tD [w] rfl rfl (by simp; omega) ?_
 clear h
 intro A' c' M h
 repeat (first|(refine ai h ?_;clear h;intro kb M h)|(refine ak h ?_;clear h;intro M h)|refine St.to h ?_|(apply Exists.intro;(repeat apply Exists.intro);refine And.intro rfl ?_)|refine ay ?_|refine aq ?_|refine au ?_)
 exact k _ (dK h b).cG
theorem rE {w : Wt} (h : Hp R L M) [o : gn bL b L c L'] (hs : c.Small 1000000000) (k : ∀ M', Hp R (bj bL b { c with cH := c.cH ++ [w] } :: L') M' → K (.tuple #[]) M') :
  ae Tryz.prog 205 #[.pointer (some ⟨b, 0, none⟩), .agg #[.int .i64 w.g, .int .i64 w.cs, .int .i64 w.v]] M K Kp := by
 refine pE ?_
 have h' := iD h (b := b)
 clear h
 obtain ⟨Ab, cb, As, cs, Ar, cr, h⟩ := h'
 obtain ⟨h1, h2, h3⟩ := hs
 repeat (first|(refine ai h ?_;clear h;intro kb M h)|(refine ak h ?_;clear h;intro M h)|refine St.to h ?_|(apply Exists.intro;(repeat apply Exists.intro);refine And.intro rfl ?_)|refine ay ?_|refine aq ?_|refine au ?_)
 refine h.be tD [w] rfl rfl (by simp; omega) ?_
 clear h
 intro A' c' M h
 repeat (first|(refine ai h ?_;clear h;intro kb M h)|(refine ak h ?_;clear h;intro M h)|refine St.to h ?_|(apply Exists.intro;(repeat apply Exists.intro);refine And.intro rfl ?_)|refine ay ?_|refine aq ?_|refine au ?_)
 exact k _ (dK h b).cG
def ZM (x : Wt × Bool × Int) : Value := .tuple #[.agg #[.int .i64 x.1.g, .int .i64 x.1.cs, .int .i64 x.1.v], .bool x.2.1, .int .i64 x.2.2]
theorem Lh {v : Int} (h : Hp R L M) [o : gn bL b L c L'] (hs : c.Small 1000000000) (k : ∀ M', Hp R (bj bL b (c.send v).1 :: L') M' → K (ZM (c.send v).2) M') :
  ae Tryz.prog 207 #[.pointer (some ⟨b, 0, none⟩), .int .i64 v] M K Kp := by
 refine vz ?_
 obtain ⟨room, buf, snd, cH, closed⟩ := c
 obtain ⟨h1, h2, h3⟩ := hs
 have h' := iD h (b := b)
 clear h
 obtain ⟨Ab, cb, As, cs, Ar, cr, h⟩ := h'
 dsimp only [jz] at h1 h2 h3 h
 repeat (first|(refine ai h ?_;clear h;intro kb M h)|(refine ak h ?_;clear h;intro M h)|refine St.to h ?_|(apply Exists.intro;(repeat apply Exists.intro);refine And.intro rfl ?_)|refine ay ?_|refine aq ?_|refine au ?_)
 refine fL.2 ⟨fun hc => ?_, fun hc => ?_⟩
 ·subst hc
  repeat (first|(refine ai h ?_;clear h;intro kb M h)|(refine ak h ?_;clear h;intro M h)|refine St.to h ?_|(apply Exists.intro;(repeat apply Exists.intro);refine And.intro rfl ?_)|refine ay ?_|refine aq ?_|refine au ?_)
  exact k _ (dK h b).cG
 subst hc
 repeat (first|(refine ai h ?_;clear h;intro kb M h)|(refine ak h ?_;clear h;intro M h)|refine St.to h ?_|(apply Exists.intro;(repeat apply Exists.intro);refine And.intro rfl ?_)|refine ay ?_|refine aq ?_|refine au ?_)
 refine aH.2 ⟨fun hr => ?_, fun hr => ?_⟩
 ·cases cH with
  | nil => simp at hr
  | cons w r =>
   repeat (first|(refine ai h ?_;clear h;intro kb M h)|(refine ak h ?_;clear h;intro M h)|refine St.to h ?_|(apply Exists.intro;(repeat apply Exists.intro);refine And.intro rfl ?_)|refine ay ?_|refine aq ?_|refine au ?_)
   refine zC h (h.src (A := Ar)) rfl (h.nF Ar) (by simpa using h3) ?_
   clear h
   intro A' c' M h
   repeat (first|(refine ai h ?_;clear h;intro kb M h)|(refine ak h ?_;clear h;intro M h)|refine St.to h ?_|(apply Exists.intro;(repeat apply Exists.intro);refine And.intro rfl ?_)|refine ay ?_|refine aq ?_|refine au ?_)
   exact k _ (dK h b).cG
 cases cH with
 | cons w r => simp at hr
 | nil =>
 simp only [aQ.send, Bool.false_eq_true, if_false] at k
 repeat (first|(refine ai h ?_;clear h;intro kb M h)|(refine ak h ?_;clear h;intro M h)|refine St.to h ?_|(apply Exists.intro;(repeat apply Exists.intro);refine And.intro rfl ?_)|refine ay ?_|refine aq ?_|refine au ?_)
 refine aH.2 ⟨fun hl => ?_, fun hl => ?_⟩
 ·rw [if_pos (by omega)] at k
  repeat (first|(refine ai h ?_;clear h;intro kb M h)|(refine ak h ?_;clear h;intro M h)|refine St.to h ?_|(apply Exists.intro;(repeat apply Exists.intro);refine And.intro rfl ?_)|refine ay ?_|refine aq ?_|refine au ?_)
  refine h.be lC [v] rfl rfl (by simp; omega) ?_
  clear h
  intro A' c' M h
  repeat (first|(refine ai h ?_;clear h;intro kb M h)|(refine ak h ?_;clear h;intro M h)|refine St.to h ?_|(apply Exists.intro;(repeat apply Exists.intro);refine And.intro rfl ?_)|refine ay ?_|refine aq ?_|refine au ?_)
  exact k _ (dK h b).cG
 ·rw [if_neg (by omega)] at k
  repeat (first|(refine ai h ?_;clear h;intro kb M h)|(refine ak h ?_;clear h;intro M h)|refine St.to h ?_|(apply Exists.intro;(repeat apply Exists.intro);refine And.intro rfl ?_)|refine ay ?_|refine aq ?_|refine au ?_)
  exact k _ (dK h b).cG
def ZN (x : Int × Bool × Wt × Bool × Int) : Value := .tuple #[.agg #[.int .i64 x.1, .bool x.2.1, .int .i64 x.2.2.1.g, .int .i64 x.2.2.1.cs, .int .i64 x.2.2.1.v, .bool x.2.2.2.1], .int .i64 x.2.2.2.2]
theorem Li (h : Hp R L M) [o : gn bL b L c L'] (hs : c.Small 1000000000) (k : ∀ M', Hp R (bj bL b c.recv.1 :: L') M' → K (ZN c.recv.2) M') :
  ae Tryz.prog 209 #[.pointer (some ⟨b, 0, none⟩)] M K Kp := by
 refine vB ?_
 obtain ⟨room, buf, snd, cH, closed⟩ := c
 obtain ⟨h1, h2, h3⟩ := hs
 have h' := iD h (b := b)
 clear h
 obtain ⟨Ab, cb, As, cs, Ar, cr, h⟩ := h'
 dsimp only [jz] at h1 h2 h3 h
 refine ai h ?_
 clear h
 intro kr M h
 refine ai h ?_
 clear h
 intro kg M h
 repeat (first|(refine ai h ?_;clear h;intro kb M h)|(refine ak h ?_;clear h;intro M h)|refine St.to h ?_|(apply Exists.intro;(repeat apply Exists.intro);refine And.intro rfl ?_)|refine ay ?_|refine aq ?_|refine au ?_)
 refine ⟨fun vs M => vs = [] ∧ ∃ Ab cb As cs, Hp R (pt kr [.int .i64 0, .bool false, .int .i64 0, .int .i64 0, .int .i64 0, .bool false] 335 ::
  pt kg [.int .i64 0, .bool false, .int .i64 (snd.headD .zero).g, .int .i64 (snd.headD .zero).cs, .int .i64 (snd.headD .zero).v, .bool (!snd.isEmpty)] 335 ::
  pt b (jz ⟨room, aQ.all ⟨room, buf, snd, cH, closed⟩, snd.tail, cH, closed⟩ Ab cb As cs Ar cr) 236 :: rz Ab cb (aQ.all ⟨room, buf, snd, cH, closed⟩) :: qp As cs snd.tail :: qp Ar cr cH :: L') M, ?_, ?_⟩
 ·refine aH.2 ⟨fun hr => ?_, fun hr => ?_⟩
  ·cases snd with
   | nil => simp at hr
   | cons w r =>
    repeat (first|(refine ai h ?_;clear h;intro kb M h)|(refine ak h ?_;clear h;intro M h)|refine St.to h ?_|(apply Exists.intro;(repeat apply Exists.intro);refine And.intro rfl ?_)|refine ay ?_|refine aq ?_|refine au ?_)
    refine zC h (h.src (A := As)) rfl (h.nF As) (by simpa using h2) ?_
    clear h
    intro A' c' M h
    repeat (first|(refine ai h ?_;clear h;intro kb M h)|(refine ak h ?_;clear h;intro M h)|refine St.to h ?_|(apply Exists.intro;(repeat apply Exists.intro);refine And.intro rfl ?_)|refine ay ?_|refine aq ?_|refine au ?_)
    refine h.be lC [w.v] rfl rfl (by simp; omega) ?_
    clear h
    intro A2 c2 M h
    repeat (first|(refine ai h ?_;clear h;intro kb M h)|(refine ak h ?_;clear h;intro M h)|refine St.to h ?_|(apply Exists.intro;(repeat apply Exists.intro);refine And.intro rfl ?_)|refine ay ?_|refine aq ?_|refine au ?_)
    exact ⟨A2, c2, A', c', h.sub bz⟩
  ·cases snd with
   | cons w r => simp at hr
   | nil => exact ⟨rfl, Ab, cb, As, cs, h.sub bz⟩
 clear h
 rintro _ M ⟨_, Ab, cb, As, cs, h⟩
 unfold aQ.recv at k
 dsimp only at k
 have iA : (aQ.all ⟨room, buf, snd, cH, closed⟩).length ≤ 1000000001 := by unfold aQ.all; split <;> simp <;> omega
 have W1 : aQ.all ⟨room, buf, snd, cH, closed⟩ = [] → snd = [] ∧ buf = [] := by unfold aQ.all; dsimp only; cases snd <;> simp
 generalize aQ.all ⟨room, buf, snd, cH, closed⟩ = all at h k iA W1
 dsimp only [jz] at h
 repeat (first|(refine ai h ?_;clear h;intro kb M h)|(refine ak h ?_;clear h;intro M h)|refine St.to h ?_|(apply Exists.intro;(repeat apply Exists.intro);refine And.intro rfl ?_)|refine ay ?_|refine aq ?_|refine au ?_)
 refine aH.2 ⟨fun hr => ?_, fun hr => ?_⟩
 ·cases all with
  | nil => simp at hr
  | cons v l =>
   dsimp only at k
   repeat (first|(refine ai h ?_;clear h;intro kb M h)|(refine ak h ?_;clear h;intro M h)|refine St.to h ?_|(apply Exists.intro;(repeat apply Exists.intro);refine And.intro rfl ?_)|refine ay ?_|refine aq ?_|refine au ?_)
   obtain ⟨x, rfl⟩ := h.bU (A := Ab) (by simp) (by decide)
   repeat (first|(refine ai h ?_;clear h;intro kb M h)|(refine ak h ?_;clear h;intro M h)|refine St.to h ?_|(apply Exists.intro;(repeat apply Exists.intro);refine And.intro rfl ?_)|refine ay ?_|refine aq ?_|refine au ?_)
   refine aj ((h.src (A := some ⟨x, 0, none⟩)).at h (i := 0) (j := 0) rfl rfl (by omega)) ?_
   have hcap := h.nF (some ⟨x, 0, none⟩)
   have hlen : l.length + 1 ≤ 1000000001 := by simpa using iA
   repeat (first|(refine ai h ?_;clear h;intro kb M h)|(refine ak h ?_;clear h;intro M h)|refine St.to h ?_|(apply Exists.intro;(repeat apply Exists.intro);refine And.intro rfl ?_)|refine ay ?_|refine aq ?_|refine au ?_)
   simp only [Int.toNat_natCast]
   refine h.b6 bS lC l ((h.src (A := some ⟨x, 0, none⟩)).drop (m := 1) hcap) (by simp) (by omega) ?_
   clear h
   intro A' c' M h
   repeat (first|(refine ai h ?_;clear h;intro kb M h)|(refine ak h ?_;clear h;intro M h)|refine St.to h ?_|(apply Exists.intro;(repeat apply Exists.intro);refine And.intro rfl ?_)|refine ay ?_|refine aq ?_|refine au ?_)
   exact k _ (dK h b).cG
 ·cases all with
  | cons v l => simp at hr
  | nil =>
  obtain ⟨rfl, rfl⟩ := W1 rfl
  repeat (first|(refine ai h ?_;clear h;intro kb M h)|(refine ak h ?_;clear h;intro M h)|refine St.to h ?_|(apply Exists.intro;(repeat apply Exists.intro);refine And.intro rfl ?_)|refine ay ?_|refine aq ?_|refine au ?_)
  refine fL.2 ⟨fun hc => ?_, fun hc => ?_⟩
  ·subst hc
   repeat (first|(refine ai h ?_;clear h;intro kb M h)|(refine ak h ?_;clear h;intro M h)|refine St.to h ?_|(apply Exists.intro;(repeat apply Exists.intro);refine And.intro rfl ?_)|refine ay ?_|refine aq ?_|refine au ?_)
   exact k _ (dK h b).cG
  ·subst hc
   repeat (first|(refine ai h ?_;clear h;intro kb M h)|(refine ak h ?_;clear h;intro M h)|refine St.to h ?_|(apply Exists.intro;(repeat apply Exists.intro);refine And.intro rfl ?_)|refine ay ?_|refine aq ?_|refine au ?_)
   exact k _ (dK h b).cG
theorem Is (h : Hp R L M) [o : gn bL b L c L'] (hs : c.Small 1000000000)
  (k : ∀ A ca B cb D cd M', Hp R (bj bL b c :: qp D cd c.cH :: qp B cb c.snd :: rz A ca c.buf :: L') M' → K (.agg #[.slice A c.buf.length ca, .slice B c.snd.length cb, .slice D c.cH.length cd, .bool c.closed]) M') :
  ae Tryz.prog 117 #[.pointer (some ⟨b, 0, none⟩)] M K Kp := by
 refine uc ?_
 have h' := iD h (b := b)
 clear h
 obtain ⟨Ab, cb, As, cs, Ar, cr, h⟩ := h'
 obtain ⟨h1, h2, h3⟩ := hs
 repeat (first|(refine ai h ?_;clear h;intro kb M h)|(refine ak h ?_;clear h;intro M h)|refine St.to h ?_|(apply Exists.intro;(repeat apply Exists.intro);refine And.intro rfl ?_)|refine ay ?_|refine aq ?_|refine au ?_)
 refine h.b6 bS lC c.buf (h.src (A := Ab)) rfl (by omega) ?_
 clear h
 intro A ca M h
 repeat (first|(refine ai h ?_;clear h;intro kb M h)|(refine ak h ?_;clear h;intro M h)|refine St.to h ?_|(apply Exists.intro;(repeat apply Exists.intro);refine And.intro rfl ?_)|refine ay ?_|refine aq ?_|refine au ?_)
 refine h.b6 cC tD c.snd (h.src (A := As)) rfl (by omega) ?_
 clear h
 intro B cb' M h
 repeat (first|(refine ai h ?_;clear h;intro kb M h)|(refine ak h ?_;clear h;intro M h)|refine St.to h ?_|(apply Exists.intro;(repeat apply Exists.intro);refine And.intro rfl ?_)|refine ay ?_|refine aq ?_|refine au ?_)
 refine h.b6 cC tD c.cH (h.src (A := Ar)) rfl (by omega) ?_
 clear h
 intro D cd M h
 repeat (first|(refine ai h ?_;clear h;intro kb M h)|(refine ak h ?_;clear h;intro M h)|refine St.to h ?_|(apply Exists.intro;(repeat apply Exists.intro);refine And.intro rfl ?_)|refine ay ?_|refine aq ?_|refine au ?_)
 exact k _ _ _ _ _ _ _ (dK h b).cG
theorem It (h : Hp R L M) [o : gn bL b L c L']
  (k : ∀ A ca B cb M', Hp R (bj bL b c.close.1 :: qp B cb c.close.2.2.1 :: qp A ca c.close.2.1 :: L') M' → K (.tuple #[.slice A c.close.2.1.length ca, .slice B c.close.2.2.1.length cb, .int .i64 c.close.2.2.2]) M') :
  ae Tryz.prog 213 #[.pointer (some ⟨b, 0, none⟩)] M K Kp := by
 refine ud ?_
 obtain ⟨room, buf, snd, cH, closed⟩ := c
 have h' := iD h (b := b)
 clear h
 obtain ⟨Ab, cb, As, cs, Ar, cr, h⟩ := h'
 dsimp only [jz] at h
 repeat (first|(refine ai h ?_;clear h;intro kb M h)|(refine ak h ?_;clear h;intro M h)|refine St.to h ?_|(apply Exists.intro;(repeat apply Exists.intro);refine And.intro rfl ?_)|refine ay ?_|refine aq ?_|refine au ?_)
 refine fL.2 ⟨fun hc => ?_, fun hc => ?_⟩
 ·subst hc
  have h := dK ((h.dz cC 298).dz cC 298) b
  exact k none 0 none 0 _ h
 ·subst hc
  repeat (first|(refine ai h ?_;clear h;intro kb M h)|(refine ak h ?_;clear h;intro M h)|refine St.to h ?_|(apply Exists.intro;(repeat apply Exists.intro);refine And.intro rfl ?_)|refine ay ?_|refine aq ?_|refine au ?_)
  have h := (h.dz cC 298).dz cC 298
  exact k _ _ _ _ _ ((dK h b).sub bz)
theorem kL {B : Option Addr} {n cc : Nat} {g : Int} {l : List Wt} (h : Hp R L M) (hB : Src R L B (cC.cells l)) (hn : n = l.length) (hs : l.length ≤ 1000000000)
  (k : ∀ A' c' M', Hp R (qp A' c' (wo g l) :: L) M' → K (.slice A' (wo g l).length c') M') :
  ae Tryz.prog 227 #[.slice B n cc, .int .i64 g] M K Kp := by
 subst hn
 refine yE ⟨fun d vs M => ∃ i A c, vs = [.slice A (wo g (l.take i)).length c, .int .i64 (i : Int)] ∧ d = l.length - i ∧ i ≤ l.length ∧ Hp R (qp A c (wo g (l.take i)) :: L) M,
  ⟨_, 0, none, 0, rfl, rfl, by omega, h.dz _ _⟩, ?_⟩
 clear h
 rintro d _ A n c' ii M ⟨i, _, _, he, hd, hi, h⟩
 simp only [List.cons.injEq, Value.slice.injEq, Value.int.injEq, and_true, true_and] at he
 obtain ⟨⟨rfl, rfl, rfl⟩, rfl⟩ := he
 refine aH.2 ⟨fun hlt => ?_, fun hge => ?_⟩
 ·obtain ⟨w, hw⟩ := aJ (l := l) (i := i) (by omega)
  obtain ⟨b, o, rfl⟩ := hB.cons.iP h (by omega) (by decide)
  have e1 : IntKind.wrap .i64 ((i : Int) + 1) = ((i + 1 : Nat) : Int) := aS (by omega)
  have hl := Bv g (l.take i)
  have dQ := List.length_take_le i l
  rw [e1]
  repeat (first|(refine ai h ?_;clear h;intro kb M h)|(refine ak h ?_;clear h;intro M h)|refine St.to h ?_|(apply Exists.intro;(repeat apply Exists.intro);refine And.intro rfl ?_)|refine ay ?_|refine aq ?_|refine au ?_)
  refine aj (hB.cons.at h (j := 0) hw rfl (by simp [cC])) ?_
  refine aj (hB.cons.at h (j := 1) hw rfl (by simp [cC]; omega)) ?_
  refine aj (hB.cons.at h (j := 2) hw rfl (by simp [cC]; omega)) ?_
  repeat (first|(refine ai h ?_;clear h;intro kb M h)|(refine ak h ?_;clear h;intro M h)|refine St.to h ?_|(apply Exists.intro;(repeat apply Exists.intro);refine And.intro rfl ?_)|refine ay ?_|refine aq ?_|refine au ?_)
  refine cY.2 ⟨fun hne => ?_, fun heq => ?_⟩
  ·have e2 : wo g (l.take (i + 1)) = wo g (l.take i) ++ [w] := by rw [dw hw, yy]; simp [wo, hne]
   repeat (first|(refine ai h ?_;clear h;intro kb M h)|(refine ak h ?_;clear h;intro M h)|refine St.to h ?_|(apply Exists.intro;(repeat apply Exists.intro);refine And.intro rfl ?_)|refine ay ?_|refine aq ?_|refine au ?_)
   refine h.be tD [w] rfl rfl (by simp; omega) ?_
   clear h
   intro A' c' M h
   repeat (first|(refine ai h ?_;clear h;intro kb M h)|(refine ak h ?_;clear h;intro M h)|refine St.to h ?_|(apply Exists.intro;(repeat apply Exists.intro);refine And.intro rfl ?_)|refine ay ?_|refine aq ?_|refine au ?_)
   exact ⟨l.length - (i + 1), by omega, i + 1, A', c', by rw [e2], rfl, by omega, by rw [e2]; exact h.cG⟩
  ·have e2 : wo g (l.take (i + 1)) = wo g (l.take i) := by rw [dw hw, yy]; simp [wo, heq]
   exact ⟨l.length - (i + 1), by omega, i + 1, A, c', by rw [e2], rfl, by omega, by rw [e2]; exact h.jf⟩
 ·have : i = l.length := by omega
  subst this
  rw [List.take_length] at h ⊢
  exact k _ _ _ h
theorem Lj {g : Int} (h : Hp R L M) [o : gn bL b L c L'] (hs : c.Small 1000000000) (k : ∀ M', Hp R (bj bL b (c.drop g) :: L') M' → K (.tuple #[]) M') :
  ae Tryz.prog 226 #[.pointer (some ⟨b, 0, none⟩), .int .i64 g] M K Kp := by
 refine vF ?_
 have h' := iD h (b := b)
 clear h
 obtain ⟨Ab, cb, As, cs, Ar, cr, h⟩ := h'
 obtain ⟨h1, h2, h3⟩ := hs
 repeat (first|(refine ai h ?_;clear h;intro kb M h)|(refine ak h ?_;clear h;intro M h)|refine St.to h ?_|(apply Exists.intro;(repeat apply Exists.intro);refine And.intro rfl ?_)|refine ay ?_|refine aq ?_|refine au ?_)
 refine ⟨?_, ?_, trivial⟩
 ·refine kL h (h.src (A := As)) rfl h2 ?_
  clear h
  intro A' c' M h
  repeat (first|(refine ai h ?_;clear h;intro kb M h)|(refine ak h ?_;clear h;intro M h)|refine St.to h ?_|(apply Exists.intro;(repeat apply Exists.intro);refine And.intro rfl ?_)|refine ay ?_|refine aq ?_|refine au ?_)
  refine kL h (h.src (A := Ar)) rfl h3 ?_
  clear h
  intro B' d' M h
  repeat (first|(refine ai h ?_;clear h;intro kb M h)|(refine ak h ?_;clear h;intro M h)|refine St.to h ?_|(apply Exists.intro;(repeat apply Exists.intro);refine And.intro rfl ?_)|refine ay ?_|refine aq ?_|refine au ?_)
  exact k _ (dK h b).cG
 ·repeat (first|(refine ai h ?_;clear h;intro kb M h)|(refine ak h ?_;clear h;intro M h)|refine St.to h ?_|(apply Exists.intro;(repeat apply Exists.intro);refine And.intro rfl ?_)|refine ay ?_|refine aq ?_|refine au ?_)
  refine kL h (h.src (A := As)) rfl h2 ?_
  clear h
  intro A' c' M h
  repeat (first|(refine ai h ?_;clear h;intro kb M h)|(refine ak h ?_;clear h;intro M h)|refine St.to h ?_|(apply Exists.intro;(repeat apply Exists.intro);refine And.intro rfl ?_)|refine ay ?_|refine aq ?_|refine au ?_)
  refine kL h (h.src (A := Ar)) rfl h3 ?_
  clear h
  intro B' d' M h
  repeat (first|(refine ai h ?_;clear h;intro kb M h)|(refine ak h ?_;clear h;intro M h)|refine St.to h ?_|(apply Exists.intro;(repeat apply Exists.intro);refine And.intro rfl ?_)|refine ay ?_|refine aq ?_|refine au ?_)
  exact k _ (dK h b).cG
end
end Go.Proofs
namespace Go.AF
theorem Ou {α β γ : Type} {f : α → β → γ} : ∀ {l : List α} {m : List β} {i : Nat} {a : α} {b : β}, l[i]? = some a → (List.zipWith f l m).set i (f a b) = List.zipWith f l (m.set i b)
 | [], _, _, _, _, h => by simp at h
 | x :: l, [], i, a, b, h => by simp
 | x :: l, y :: m, 0, a, b, h => by simp at h; subst h; rfl
 | x :: l, y :: m, i + 1, a, b, h => by
  have := Ou (f := f) (m := m) (b := b) (show l[i]? = some a from by simpa using h)
  simp [this]
theorem SW {α β γ : Type} {f : α → β → γ} : ∀ {l : List α} {m : List β} {i : Nat} {a : α} {b : β}, l[i]? = some a → m[i]? = some b → (List.zipWith f l m)[i]? = some (f a b)
 | [], _, _, _, _, h, _ => by simp at h
 | x :: l, [], i, a, b, h, g => by simp at g
 | x :: l, y :: m, 0, a, b, h, g => by simp at h g; subst h; subst g; rfl
 | x :: l, y :: m, i + 1, a, b, h, g => by simpa using SW (f := f) (show l[i]? = some a from by simpa using h) (show m[i]? = some b from by simpa using g)
theorem eA.past {P : HP} {L : List HP} : ∀ (l : List HP), eA (l ++ P :: L) P (l ++ L)
 | [] => .here
 | Q :: l => .there (eA.past l)
section
variable {α : Type} {r : xT α} {R : Mem} {L L' Il : List HP} {M : Mem} {bs : List Nat} {cs : List α} {b i : Nat} {c : α}
def cN (r : xT α) (bs : List Nat) (cs : List α) : HP := sep (List.zipWith (bj r) bs cs)
def zD (r : xT α) (bs : List Nat) (cs : List α) (i : Nat) : HP := sep ((List.zipWith (bj r) bs cs).eraseIdx i)
class iL (r : xT α) (L : List HP) (bs : outParam (List Nat)) (cs : outParam (List α)) (L' : outParam (List HP)) : Prop where
 pick : eA L (cN r bs cs) L'
instance iL.here : iL r (cN r bs cs :: L) bs cs L := ⟨.here⟩
instance (priority := low) iL.there {P : HP} [h : iL r L bs cs L'] : iL r (P :: L) bs cs (P :: L') := ⟨.there h.pick⟩
class zE (r : xT α) (L : List HP) (bs : outParam (List Nat)) (cs : outParam (List α)) (i : outParam Nat) (L' : outParam (List HP)) : Prop where
 pick : eA L (zD r bs cs i) L'
instance zE.here : zE r (zD r bs cs i :: L) bs cs i L := ⟨.here⟩
instance (priority := low) zE.there {P : HP} [h : zE r L bs cs i L'] : zE r (P :: L) bs cs i (P :: L') := ⟨.there h.pick⟩
theorem Hp.pJ (h : Hp R L M) (r : xT α) {bs : List Nat} {cs : List α} [o : iL r L bs cs L'] : Hp R (cN r bs cs :: L') M := h.pick o.pick
theorem Hp.BC (h : Hp R L M) (r : xT α) : Hp R (cN r [] [] :: L) M := Hp.cW.2 h
theorem Hp.eF (h : Hp R L M) (r : xT α) {bs : List Nat} {cs : List α} [o : iL r L bs cs L'] (hb : bs[i]? = some b) (hc : cs[i]? = some c) : Hp R (bj r b c :: zD r bs cs i :: L') M :=
 (h.pick o.pick).focus (SW hb hc)
theorem Hp.gP (h : Hp R L M) (r : xT α) (b : Nat) {bs : List Nat} {cs : List α} {i : Nat} {c : α} [o : gn r b L c L'] [x : zE r L' bs cs i Il] (hb : bs[i]? = some b) (hc : i < cs.length) : Hp R (cN r bs (cs.set i c) :: Il) M := by
 have h1 : Hp R (bj r b c :: zD r bs cs i :: Il) M := (h.pick o.pick).map fun _ hs => hs.tail (fun _ => de.pick x.pick)
 have h2 := Hp.W9 (ls := List.zipWith (bj r) bs cs) h1 (by rw [List.length_zipWith]; have := (List.getElem?_eq_some_iff.1 hb).1; omega)
 rw [Ou hb] at h2
 exact h2
theorem Hp.ox (h : Hp R L M) (r : xT α) (b : Nat) {bs : List Nat} {cs : List α} {i : Nat} {c : α} [o : gn r b L c L'] [x : zE r L' bs cs i Il] (hb : bs[i]? = some b) (hc : cs[i]? = some c) : Hp R (cN r bs cs :: Il) M := by
 have := h.gP r b hb (List.getElem?_eq_some_iff.1 hc).1
 obtain ⟨hi, rfl⟩ := List.getElem?_eq_some_iff.1 hc
 rwa [List.set_getElem_self] at this
theorem Hp.tE (h : Hp R L M) (r : xT α) (b : Nat) {bs : List Nat} {cs : List α} {c : α} [o : gn r b L c L'] [x : iL r L' bs cs Il] (hl : bs.length = cs.length) : Hp R (cN r (bs ++ [b]) (cs ++ [c]) :: Il) M := by
 have h1 : Hp R (bj r b c :: cN r bs cs :: Il) M := (h.pick o.pick).map fun _ hs => hs.tail (fun _ => de.pick x.pick)
 refine Hp.cW.2 ?_
 rw [List.zipWith_append hl, List.append_assoc]
 refine Hp.yp (P := bj r b c) ?_ (eA.past _)
 exact h1.map fun _ hs => hs.tail fun _ hb => de.cW.1 hb
end
end Go.AF
namespace Go.Proofs
open Go.AF
set_option maxRecDepth 100000
variable {M : Mem} {K : Value → Mem → Prop} {Kp : List PanicEntry → Mem → Prop}
theorem yF {B0 : Option Addr} {m0 c0 : Nat} {B1 : Option Addr} {m1 c1 : Nat} (h :
∃ I1 : IT, (∃ k2, I1 k2 [(.slice none 0 0), (iV 0)] M) ∧
∀ (k3 : Nat) (_ : Nat → Value) (A5 : Option Addr) (k6 : Nat) (k7 : Nat) (n8 : Int) (M9 : Mem), (I1 k3 [(.slice A5 k6 k7), (iV n8)] M9) → aM (decide (n8 < m0))
 ((0 ≤ n8) ∧
 (n8 < m0) ∧
 aE B0 fun eB eo =>
 eT M9 eB (eo + ((Int.toNat n8) * 3)) fun hG m9 jD =>
 aO M9 tr fun jy gj =>
 pA gj jy (iV hG) (iV m9) (iV jD) fun m7 =>
 eT m7 jy 0 fun gF vb w5 =>
 ae Tryz.prog 204 #[(.agg #[(iV gF), (iV vb), (iV w5)]), (.slice B1 m1 c1)] m7 (fun v23 nJ =>
 dF (some v23) fun t25 =>
 aM t25
 (aO nJ (cl [(iV n8)] 3) fun gM ng =>
 aA 38 A5 k6 k7 (some ⟨gM, 0, none⟩) 1 1 ng (fun PM pG =>
 aF (some PM) fun yG iM iy =>
 ∃ lz : Nat, (lz < k3) ∧
 I1 lz [(.slice yG iM iy), (iV (IntKind.wrap .i64 (n8 + 1)))] pG) Kp)
 (∃ mS : Nat, (mS < k3) ∧
 I1 mS [(.slice A5 k6 k7), (iV (IntKind.wrap .i64 (n8 + 1)))] nJ)) Kp)
 (K (.slice A5 k6 k7) M9)) :
 ae Tryz.prog 155 #[.slice B0 m0 c0, .slice B1 m1 c1] M K Kp := vw [(2000000, .loop [(5, .c .sl), (10, .c (.int .i64))])] Tryz.func155 h
theorem Dl {B0 : Option Addr} {m0 c0 : Nat} (h :
∃ I1 : IT, (∃ k2, I1 k2 [(iV 0)] M) ∧
∀ (k3 : Nat) (_ : Nat → Value) (n5 : Int) (M6 : Mem), (I1 k3 [(iV n5)] M6) → aM (decide (n5 < m0))
 ((0 ≤ n5) ∧
 (n5 < m0) ∧
 aE B0 fun k7 k8 =>
 eT M6 k7 (k8 + ((Int.toNat n5) * 3)) fun n9 dI lp =>
 aO M6 tr fun gI lG =>
 pA lG gI (iV n9) (iV dI) (iV lp) fun gj =>
 rI gj gI 0 fun kS =>
 aM (kS == 2)
 (K (.tuple #[(iV n5), (.bool true)]) gj)
 (∃ fq : Nat, (fq < k3) ∧
 I1 fq [(iV (IntKind.wrap .i64 (n5 + 1)))] gj))
 (K (.tuple #[(iV 0), (.bool false)]) M6)) :
 ae Tryz.prog 156 #[.slice B0 m0 c0] M K Kp := vw [(2000000, .loop [(8, .c (.int .i64))])] Tryz.func156 h
theorem Dm {x0 : Int} {B1 : Option Addr} {m1 c1 : Nat} {B2 : Option Addr} {m2 c2 : Nat} {B3 : Option Addr} {m3 c3 : Nat} (h :
∃ I1 : IT, (∃ k2, I1 k2 [(iV 0)] M) ∧
∀ (k3 : Nat) (_ : Nat → Value) (n5 : Int) (M6 : Mem), (I1 k3 [(iV n5)] M6) → aM (decide (n5 < m1))
 ((0 ≤ n5) ∧
 (n5 < m1) ∧
 aE B1 fun k7 k8 =>
 eT M6 k7 (k8 + ((Int.toNat n5) * 3)) fun n9 dI lp =>
 aO M6 tr fun gI lG =>
 pA lG gI (iV n9) (iV dI) (iV lp) fun gj =>
 rI gj gI 0 fun kS =>
 aM (kS == 0)
 (rI gj gI 1 fun kQ =>
 (0 ≤ kQ) ∧
 (kQ < m3) ∧
 aE B3 fun jH fV =>
 rP gj jH (fV + (Int.toNat kQ)) fun CZ =>
 ae Tryz.prog 205 #[(.pointer CZ), (.agg #[(iV x0), (iV n5), (iV 0)])] gj (fun Lc mD =>
 (Lc = (.tuple #[])) ∧
 ∃ nW : Nat, (nW < k3) ∧
 I1 nW [(iV (IntKind.wrap .i64 (n5 + 1)))] mD) Kp)
 (aM (kS == 1)
 (rI gj gI 1 fun yH =>
 (0 ≤ yH) ∧
 (yH < m3) ∧
 aE B3 fun gM kK =>
 rP gj gM (kK + (Int.toNat yH)) fun z5 =>
 rI gj gI 2 fun yI =>
 (0 ≤ yI) ∧
 (yI < m2) ∧
 aE B2 fun jg iM =>
 rI gj jg (iM + (Int.toNat yI)) fun n32 =>
 ae Tryz.prog 206 #[(.pointer z5), (.agg #[(iV x0), (iV n5), (iV n32)])] gj (fun v33 qO =>
 (v33 = (.tuple #[])) ∧
 ∃ kD : Nat, (kD < k3) ∧
 I1 kD [(iV (IntKind.wrap .i64 (n5 + 1)))] qO) Kp)
 (∃ nK : Nat, (nK < k3) ∧
 I1 nK [(iV (IntKind.wrap .i64 (n5 + 1)))] gj)))
 (K (.tuple #[]) M6)) :
 ae Tryz.prog 157 #[.int .i64 x0, .slice B1 m1 c1, .slice B2 m2 c2, .slice B3 m3 c3] M K Kp := vw [(2000000, .loop [(12, .c (.int .i64))]), (7, .bH [0, 0, 2, 7, 15, 0, 0, 0, 0, 256, 896, 1920, 4064, 8191] (sy [0, 1, 5, 6, 7, 8, 2, 3, 4, 9, 10, 11, 12, 13] .done))] Tryz.func157 h
theorem w7 {oy : Int} {w8 : Int} {kT : Int} {B1 : Option Addr} {m1 c1 : Nat} (h :
aO M (cl [(iV oy), (iV w8), (iV kT)] 172) fun k1 M2 =>
rI M2 k1 0 fun n3 =>
aM (n3 == 0)
 (rI M2 k1 1 fun n4 =>
 (0 ≤ n4) ∧
 (n4 < m1) ∧
 aE B1 fun k5 k6 =>
 rP M2 k5 (k6 + (Int.toNat n4)) fun A7 =>
 ae Tryz.prog 220 #[(.pointer A7)] M2 (fun v8 M9 =>
 dF (some v8) fun t10 =>
 K (.bool t10) M9) Kp)
 (aM (n3 == 1)
 (rI M2 k1 1 fun lp =>
 (0 ≤ lp) ∧
 (lp < m1) ∧
 aE B1 fun gI eu =>
 rP M2 gI (eu + (Int.toNat lp)) fun ue =>
 ae Tryz.prog 221 #[(.pointer ue)] M2 (fun By gj =>
 dF (some By) fun t17 =>
 K (.bool t17) gj) Kp)
 (K (.bool false) M2))) :
 ae Tryz.prog 204 #[.agg #[.int .i64 oy, .int .i64 w8, .int .i64 kT], .slice B1 m1 c1] M K Kp := vw [] Tryz.func204 h
theorem BD {x0 : Int} {B1 : Option Addr} {m1 c1 : Nat} (h :
∃ I1 : IT, (∃ k2, I1 k2 [(iV 0)] M) ∧
∀ (k3 : Nat) (_ : Nat → Value) (n5 : Int) (M6 : Mem), (I1 k3 [(iV n5)] M6) → aM (decide (n5 < m1))
 ((0 ≤ n5) ∧
 (n5 < m1) ∧
 aE B1 fun k7 k8 =>
 rP M6 k7 (k8 + (Int.toNat n5)) fun A9 =>
 ae Tryz.prog 226 #[(.pointer A9), (iV x0)] M6 (fun v10 iQ =>
 (v10 = (.tuple #[])) ∧
 ∃ gI : Nat, (gI < k3) ∧
 I1 gI [(iV (IntKind.wrap .i64 (n5 + 1)))] iQ) Kp)
 (K (.tuple #[]) M6)) :
 ae Tryz.prog 225 #[.int .i64 x0, .slice B1 m1 c1] M K Kp := vw [(2000000, .loop [(8, .c (.int .i64))])] Tryz.func225 h
theorem rF {B0 : Option Addr} {m0 c0 : Nat} (h :
∃ I1 : IT, (∃ k2, I1 k2 [(iV 0)] M) ∧
∀ (k3 : Nat) (_ : Nat → Value) (n5 : Int) (M6 : Mem), (I1 k3 [(iV n5)] M6) → aM (decide (n5 < m0))
 ((0 ≤ n5) ∧
 (n5 < m0) ∧
 aE B0 fun k7 k8 =>
 eT M6 k7 (k8 + ((Int.toNat n5) * 3)) fun n9 dI lp =>
 aO M6 mc fun gI lG =>
 pA lG gI (iV n9) (iV dI) (iV lp) fun gj =>
 rI gj gI 0 fun kS =>
 aM (kS == 2)
 (K (iV n5) gj)
 (∃ fq : Nat, (fq < k3) ∧
 I1 fq [(iV (IntKind.wrap .i64 (n5 + 1)))] gj))
 (K (iV (-1)) M6)) :
 ae Tryz.prog 193 #[.slice B0 m0 c0] M K Kp := vw [(2000000, .loop [(7, .c (.int .i64))])] Tryz.func193 h
theorem oz {B0 : Option Addr} {m0 c0 : Nat} {B1 : Option Addr} {m1 c1 : Nat} (h :
aO M (cl [] 3) fun k1 M2 =>
∃ I3 : IT, (∃ k4, I3 k4 [(.slice (some ⟨k1, 0, none⟩) 0 0), (iV 0)] M2) ∧
∀ (k5 : Nat) (_ : Nat → Value) (A7 : Option Addr) (k8 : Nat) (k9 : Nat) (dI : Int) (iQ : Mem), (I3 k5 [(.slice A7 k8 k9), (iV dI)] iQ) → aM (decide (dI < m0))
 ((0 ≤ dI) ∧
 (dI < m0) ∧
 aE B0 fun gI eu =>
 eT iQ gI (eu + ((Int.toNat dI) * 3)) fun jD lj nI =>
 aO iQ mc fun fT lR =>
 pA lR fT (iV jD) (iV lj) (iV nI) fun jI =>
 rI jI fT 0 fun w5 =>
 aM (w5 == 2)
 (∃ gN : Nat, (gN < k5) ∧
 I3 gN [(.slice A7 k8 k9), (iV (IntKind.wrap .i64 (dI + 1)))] jI)
 (rI jI fT 1 fun qg =>
 (0 ≤ qg) ∧
 (qg < m1) ∧
 aE B1 fun jJ gM =>
 cI jI jJ (gM + ((Int.toNat qg) * 5)) fun Ll z5 gk jg Io iy lz Et kD nK t37 =>
 aO jI c7 fun fE FE =>
 Bs FE fE (iV Ll) (.slice z5 gk jg) (.slice Io iy lz) (.slice Et kD nK) (.bool t37) fun qs =>
 rB qs fE 4 fun t45 =>
 aM t45
 (aO qs (cl [(iV dI)] 3) fun me w9 =>
 aA 38 A7 k8 k9 (some ⟨me, 0, none⟩) 1 1 w9 (fun v48 w6 =>
 aF (some v48) fun A50 Hy pI =>
 ∃ j8 : Nat, (j8 < k5) ∧
 I3 j8 [(.slice A50 Hy pI), (iV (IntKind.wrap .i64 (dI + 1)))] w6) Kp)
 (rI qs fT 0 fun vG =>
 aM (vG == 0)
 (rS qs fE 2 fun Wx C0 vH =>
 rS qs fE 1 fun A58 Er Lm =>
 aM (decide (((IntKind.wrap .i64 ((C0 : Int) + (Er : Int))) : Int) > 0))
 (aO qs (cl [(iV dI)] 3) fun ve Rp =>
 aA 38 A7 k8 k9 (some ⟨ve, 0, none⟩) 1 1 Rp (fun Dp ug =>
 aF (some Dp) fun Wy Ln Kt =>
 ∃ Rt : Nat, (Rt < k5) ∧
 I3 Rt [(.slice Wy Ln Kt), (iV (IntKind.wrap .i64 (dI + 1)))] ug) Kp)
 (rI qs fT 0 fun Lo =>
 aM (Lo == 1)
 (rS qs fE 3 fun A70 FF Ku =>
 aM (decide ((FF : Int) > 0))
 (aO qs (cl [(iV dI)] 3) fun Ov Hz =>
 aA 38 A7 k8 k9 (some ⟨Ov, 0, none⟩) 1 1 Hz (fun SX Xg =>
 aF (some SX) fun A77 Dq Ru =>
 ∃ Iu : Nat, (Iu < k5) ∧
 I3 Iu [(.slice A77 Dq Ru), (iV (IntKind.wrap .i64 (dI + 1)))] Xg) Kp)
 (rS qs fE 1 fun A81 FG C2 =>
 rI qs fE 0 fun Rs =>
 aM (decide ((FG : Int) < Rs))
 (aO qs (cl [(iV dI)] 3) fun Ow ZO =>
 aA 38 A7 k8 k9 (some ⟨Ow, 0, none⟩) 1 1 ZO (fun SY M88 =>
 aF (some SY) fun A89 Xh Ox =>
 ∃ PN : Nat, (PN < k5) ∧
 I3 PN [(.slice A89 Xh Ox), (iV (IntKind.wrap .i64 (dI + 1)))] M88) Kp)
 (∃ Xi : Nat, (Xi < k5) ∧
 I3 Xi [(.slice A7 k8 k9), (iV (IntKind.wrap .i64 (dI + 1)))] qs)))
 (∃ Oy : Nat, (Oy < k5) ∧
 I3 Oy [(.slice A7 k8 k9), (iV (IntKind.wrap .i64 (dI + 1)))] qs)))
 (rI qs fT 0 fun SS =>
 aM (SS == 1)
 (rS qs fE 3 fun A96 Rv ZP =>
 aM (decide ((Rv : Int) > 0))
 (aO qs (cl [(iV dI)] 3) fun Rw M100 =>
 aA 38 A7 k8 k9 (some ⟨Rw, 0, none⟩) 1 1 M100 (fun FH Dr =>
 aF (some FH) fun A103 SZ PO =>
 ∃ z6 : Nat, (z6 < k5) ∧
 I3 z6 [(.slice A103 SZ PO), (iV (IntKind.wrap .i64 (dI + 1)))] Dr) Kp)
 (rS qs fE 1 fun A107 PR FI =>
 rI qs fE 0 fun FC =>
 aM (decide ((PR : Int) < FC))
 (aO qs (cl [(iV dI)] 3) fun Xj nL =>
 aA 38 A7 k8 k9 (some ⟨Xj, 0, none⟩) 1 1 nL (fun BE PS =>
 aF (some BE) fun A115 Iv Lp =>
 ∃ z7 : Nat, (z7 < k5) ∧
 I3 z7 [(.slice A115 Iv Lp), (iV (IntKind.wrap .i64 (dI + 1)))] PS) Kp)
 (∃ gS : Nat, (gS < k5) ∧
 I3 gS [(.slice A7 k8 k9), (iV (IntKind.wrap .i64 (dI + 1)))] qs)))
 (∃ Ds : Nat, (Ds < k5) ∧
 I3 Ds [(.slice A7 k8 k9), (iV (IntKind.wrap .i64 (dI + 1)))] qs)))))
 (K (.slice A7 k8 k9) iQ)) :
 ae Tryz.prog 192 #[.slice B0 m0 c0, .slice B1 m1 c1] M K Kp := vw [(2000000, .loop [(5, .c .sl), (12, .c (.int .i64))])] Tryz.func192 h
theorem rG {x0 : Int} {B1 : Option Addr} {m1 c1 : Nat} {oB : Int} {rH : Int} {oD : Int} {rJ : Int} {S0 : Int} {S1 : Int} {x2_6 : Int} {x2_7 : Int} {B3 : Option Addr} {m3 c3 : Nat} (h :
aO M (cl [(iV oB), (iV rH), (iV oD), (iV rJ), (iV S0), (iV S1), (iV x2_6), (iV x2_7)] 112) fun k1 M2 =>
aO M2 (cl [] 190) fun k3 M4 =>
aA 75 (some ⟨k3, 0, none⟩) 0 0 B3 m3 c3 M4 (fun v5 M6 =>
aF (some v5) fun A7 k8 k9 =>
∃ I10 : IT, (∃ eo, I10 eo [(iV 0)] M6) ∧
∀ (gI : Nat) (_ : Nat → Value) (jD : Int) (Dt : Mem), (I10 gI [(iV jD)] Dt) → aM (decide (jD < m1))
 ((0 ≤ jD) ∧
 (jD < m1) ∧
 aE B1 fun fx fT =>
 eT Dt fx (fT + ((Int.toNat jD) * 3)) fun kQ nX gF =>
 aO Dt mc fun lH c9 =>
 pA c9 lH (iV kQ) (iV nX) (iV gF) fun qo =>
 rI qo lH 0 fun Iw =>
 aM (Iw == 2)
 (∃ kK : Nat, (kK < gI) ∧
 I10 kK [(iV (IntKind.wrap .i64 (jD + 1)))] qo)
 (rI qo lH 1 fun Ko =>
 (0 ≤ Ko) ∧
 (Ko < k8) ∧
 aE A7 fun gk jg =>
 cI qo gk (jg + ((Int.toNat Ko) * 5)) fun ry A32 lz mS Rx nK qt Oq lA va t41 =>
 aO qo c7 fun jC xd =>
 Bs xd jC (iV ry) (.slice A32 lz mS) (.slice Rx nK qt) (.slice Oq lA va) (.bool t41) fun Ep =>
 rI Ep lH 0 fun PT =>
 aM (PT == 0)
 (aO Ep (cl [] 289) fun vD AK =>
 rS AK jC 3 fun Ir j8 xX =>
 aA 188 (some ⟨vD, 0, none⟩) 0 0 Ir j8 xX AK (fun Lf Ks =>
 aF (some Lf) fun Rq Bz Er =>
 aO Ks (cl [(iV x0), (iV jD), (iV 0)] 289) fun Lm z4 =>
 aA 188 Rq Bz Er (some ⟨Lm, 0, none⟩) 1 1 z4 (fun FJ FB =>
 aF (some FJ) fun A64 Oz Ln =>
 sT FB jC 3 (.slice A64 Oz Ln) fun S2 =>
 rI S2 lH 1 fun xe =>
 cI S2 jC 0 fun Lo A70 FF Ku A73 HA S3 A76 z8 Dq t79 =>
 (0 ≤ xe) ∧
 (xe < k8) ∧
 aE A7 fun Iu Xk =>
 sT S2 Iu (Xk + ((Int.toNat xe) * 5)) (iV Lo) fun M82 =>
 sT M82 Iu ((Xk + ((Int.toNat xe) * 5)) + 1) (.slice A70 FF Ku) fun M83 =>
 sT M83 Iu ((Xk + ((Int.toNat xe) * 5)) + 2) (.slice A73 HA S3) fun ZQ =>
 sT ZQ Iu ((Xk + ((Int.toNat xe) * 5)) + 3) (.slice A76 z8 Dq) fun ZR =>
 sT ZR Iu ((Xk + ((Int.toNat xe) * 5)) + 4) (.bool t79) fun ZO =>
 ∃ Lq : Nat, (Lq < gI) ∧
 I10 Lq [(iV (IntKind.wrap .i64 (jD + 1)))] ZO) Kp) Kp)
 (rS Ep jC 2 fun A88 k89 Xh =>
 rI Ep lH 2 fun Ix =>
 (0 ≤ Ix) ∧
 (Ix < 8) ∧
 rI Ep k1 (0 + (Int.toNat Ix)) fun Di =>
 aO Ep (cl [] 289) fun Xi S4 =>
 (True) ∧
 aA 188 (some ⟨Xi, 0, none⟩) 0 0 A88 k89 Xh S4 (fun v95 M96 =>
 aF (some v95) fun A97 ZP Rw =>
 ((Mem.ld M96 ⟨k1, (0 + (Int.toNat Ix)), none⟩) = (some (iV Di))) ∧
 eI M96 lH 2 Ix ∧
 aO M96 (cl [(iV x0), (iV jD), (iV Di)] 289) fun qu uh =>
 aA 188 A97 ZP Rw (some ⟨qu, 0, none⟩) 1 1 uh (fun Lr Ls =>
 aF (some Lr) fun A104 PO z6 =>
 ((Mem.ld Ls ⟨k1, (0 + (Int.toNat Ix)), none⟩) = (some (iV Di))) ∧
 eI Ls lH 2 Ix ∧
 sT Ls jC 2 (.slice A104 PO z6) fun vI =>
 ((Mem.ld vI ⟨k1, (0 + (Int.toNat Ix)), none⟩) = (some (iV Di))) ∧
 eI vI lH 2 Ix ∧
 rI vI lH 1 fun qv =>
 cI vI jC 0 fun S5 A110 Xj k112 A113 Du k115 A116 Lp z7 t119 =>
 (0 ≤ qv) ∧
 (qv < k8) ∧
 aE A7 fun Ds BF =>
 sT vI Ds (BF + ((Int.toNat qv) * 5)) (iV S5) fun M122 =>
 sT M122 Ds ((BF + ((Int.toNat qv) * 5)) + 1) (.slice A110 Xj k112) fun M123 =>
 sT M123 Ds ((BF + ((Int.toNat qv) * 5)) + 2) (.slice A113 Du k115) fun FK =>
 sT FK Ds ((BF + ((Int.toNat qv) * 5)) + 3) (.slice A116 Lp z7) fun S6 =>
 sT S6 Ds ((BF + ((Int.toNat qv) * 5)) + 4) (.bool t119) fun M126 =>
 ∃ PU : Nat, (PU < gI) ∧
 I10 PU [(iV (IntKind.wrap .i64 (jD + 1)))] M126) Kp) Kp)))
 (K (.slice A7 k8 k9) Dt)) Kp) :
 ae Tryz.prog 194 #[.int .i64 x0, .slice B1 m1 c1, .agg #[.int .i64 oB, .int .i64 rH, .int .i64 oD, .int .i64 rJ, .int .i64 S0, .int .i64 S1, .int .i64 x2_6, .int .i64 x2_7], .slice B3 m3 c3] M K Kp := vw [(2000000, .loop [(18, .c (.int .i64))]), (9, .bH [0, 0, 2, 7, 0, 0, 0, 64, 192, 448, 1008, 2032, 4095, 8191, 16383] (sy [1, 4, 5, 6, 2] (.cS 7 (sy [8] (.cS 9 (sy [10, 0] (.late 3 (sy [11, 12, 13, 14] .done))))))))] Tryz.func194 h
theorem qw {x0 : Int} {B1 : Option Addr} {m1 c1 : Nat} (h :
aO M (cl [] 190) fun k1 M2 =>
∃ I3 : IT, (∃ k4, I3 k4 [(.slice (some ⟨k1, 0, none⟩) 0 0), (iV 0)] M2) ∧
∀ (k5 : Nat) (_ : Nat → Value) (A7 : Option Addr) (k8 : Nat) (k9 : Nat) (dI : Int) (iQ : Mem), (I3 k5 [(.slice A7 k8 k9), (iV dI)] iQ) → aM (decide (dI < m1))
 ((0 ≤ dI) ∧
 (dI < m1) ∧
 aE B1 fun gI eu =>
 cI iQ gI (eu + ((Int.toNat dI) * 5)) fun jD oW fx fT Lt jH fV CZ gi gN t24 =>
 aO iQ c7 fun jJ xY =>
 Bs xY jJ (iV jD) (.slice oW fx fT) (.slice Lt jH fV) (.slice CZ gi gN) (.bool t24) fun uj =>
 cI uj jJ 0 fun n32 Kr mS kD A36 qt fE ZL va nH t42 =>
 ae Tryz.prog 224 #[(.agg #[(iV n32), (.slice Kr mS kD), (.slice A36 qt fE), (.slice ZL va nH), (.bool t42)]), (iV x0)] uj (fun v43 qs =>
 ∃ uk : Int, ∃ A46 : Option Addr, ∃ kj xZ : Nat, ∃ ZS : Option Addr, ∃ vD Hy : Nat, ∃ Ir : Option Addr, ∃ j8 xX : Nat, ∃ t55 : Bool, (v43 = (.agg #[(iV uk), (.slice A46 kj xZ), (.slice ZS vD Hy), (.slice Ir j8 xX), (.bool t55)])) ∧
 aO qs (cl [(iV uk), (.slice A46 kj xZ), (.slice ZS vD Hy), (.slice Ir j8 xX), (.bool t55)] 190) fun C0 Hu =>
 aA 75 A7 k8 k9 (some ⟨C0, 0, none⟩) 1 1 Hu (fun FL eL =>
 aF (some FL) fun Wz ve BG =>
 ∃ Kv : Nat, (Kv < k5) ∧
 I3 Kv [(.slice Wz ve BG), (iV (IntKind.wrap .i64 (dI + 1)))] eL) Kp) Kp)
 (K (.slice A7 k8 k9) iQ)) :
 ae Tryz.prog 219 #[.int .i64 x0, .slice B1 m1 c1] M K Kp := vw [(2000000, .loop [(5, .c .sl), (11, .c (.int .i64))])] Tryz.func219 h
end Go.Proofs
namespace Go.Proofs
open Go.AF
set_option maxRecDepth 100000
set_option maxHeartbeats 1000000
attribute [local irreducible] bG dF ff dP aF fa aE b7 aO bk bJ aM
structure nh where
 way : Int
 ch : Int
 bH : Int
 deriving DecidableEq
def gT : jP nh := ⟨3, fun w => [.int .i64 w.way, .int .i64 w.ch, .int .i64 w.bH], fun _ => rfl, fun w v hv => by
 simp only [List.mem_cons, List.not_mem_nil, or_false] at hv; obtain rfl | rfl | rfl := hv <;> rfl⟩
def nh.Ok (n : Nat) (c : nh) : Prop := 0 ≤ c.way ∧ c.way ≤ 2 ∧ (c.way ≠ 2 → 0 ≤ c.ch ∧ c.ch < n ∧ 0 ≤ c.bH ∧ c.bH < 8)
instance (n : Nat) (c : nh) : Decidable (c.Ok n) := by unfold nh.Ok; infer_instance
def aX (cs : List aQ) (k : Int) : aQ := cs.getD k.toNat ⟨0, [], [], [], false⟩
def can (cs : List aQ) (c : nh) : Bool := if c.way = 0 then (aX cs c.ch).tw else if c.way = 1 then (aX cs c.ch).tv else false
def OA (cases : List nh) (cs : List aQ) (j : Nat) : Bool := match cases[j]? with
 | some c => can cs c
 | none => false
def z9 (cases : List nh) (cs : List aQ) (i : Nat) : List Int := ((List.range i).filter (OA cases cs)).map Int.ofNat
def enabled (cases : List nh) (cs : List aQ) : List Int := z9 cases cs cases.length
theorem BH (cases : List nh) (cs : List aQ) (i : Nat) : (z9 cases cs i).length ≤ i := by
 unfold z9; rw [List.length_map]; exact Nat.le_trans (List.length_filter_le ..) (by simp)
theorem yJ {cases : List nh} {cs : List aQ} {i : Nat} {c : nh} (h : cases[i]? = some c) : z9 cases cs (i + 1) = z9 cases cs i ++ (if can cs c then [(i : Int)] else []) := by
 unfold z9
 rw [List.range_succ, List.filter_append, List.map_append]
 simp only [List.filter_cons, OA, h, List.filter_nil]
 split <;> simp_all
def els (cases : List nh) : Option Nat := cases.findIdx? (fun c => c.way == 2)
def jb (g : Int) (ei : List Int) (i : Nat) (c : nh) (cs : List aQ) : List aQ :=
 if c.way = 0 then cs.set c.ch.toNat { aX cs c.ch with cH := (aX cs c.ch).cH ++ [⟨g, i, 0⟩] }
 else if c.way = 1 then cs.set c.ch.toNat { aX cs c.ch with snd := (aX cs c.ch).snd ++ [⟨g, i, ei.getD c.bH.toNat 0⟩] } else cs
def dm (g : Int) (ei : List Int) (cases : List nh) (cs : List aQ) : Nat → List aQ
 | 0 => cs
 | i + 1 => match cases[i]? with
  | some c => jb g ei i c (dm g ei cases cs i)
  | none => dm g ei cases cs i
theorem Iy (g : Int) (ei : List Int) (i : Nat) (c : nh) (cs : List aQ) : (jb g ei i c cs).length = cs.length := by
 unfold jb; split
 ·simp
 ·split <;> simp
theorem jh (g : Int) (ei : List Int) (cases : List nh) (cs : List aQ) : ∀ i, (dm g ei cases cs i).length = cs.length
 | 0 => rfl
 | i + 1 => by
  unfold dm; split
  ·rw [Iy, jh _ _ _ _ i]
  ·exact jh _ _ _ _ i
theorem mem_set {α : Type} {l : List α} {i : Nat} {x y : α} (h : y ∈ l.set i x) : y ∈ l ∨ y = x := by
 rcases List.mem_or_eq_of_mem_set h with h | h
 ·exact .inl h
 ·exact .inr h
theorem xg {cs : List aQ} {k : Int} (h0 : 0 ≤ k) (h : k < cs.length) : aX cs k ∈ cs := by
 unfold aX; rw [List.getD_eq_getElem?_getD, List.getElem?_eq_getElem (by omega)]; exact List.getElem_mem _
theorem Dv {g : Int} {ei : List Int} {i : Nat} {c : nh} {cs : List aQ} {N : Nat} (hs : ∀ x ∈ cs, x.Small N) (hc : c.Ok cs.length) : ∀ x ∈ jb g ei i c cs, x.Small (N + 1) := by
 obtain ⟨_, _, kk⟩ := hc
 intro x hm
 unfold jb at hm
 split at hm
 ·rename_i hw
  have hx := hs _ (xg (kk (by omega)).1 (kk (by omega)).2.1)
  rcases mem_set hm with h | rfl
  ·exact (hs x h).mono (by omega)
  ·exact hx.wr _
 split at hm
 ·rename_i hw
  have hx := hs _ (xg (kk (by omega)).1 (kk (by omega)).2.1)
  rcases mem_set hm with h | rfl
  ·exact (hs x h).mono (by omega)
  ·exact hx.ws _
 ·exact (hs x hm).mono (by omega)
theorem lS {g : Int} {ei : List Int} {cases : List nh} {cs : List aQ} {N : Nat} (hs : ∀ x ∈ cs, x.Small N) (hok : ∀ c ∈ cases, c.Ok cs.length) : ∀ i, ∀ x ∈ dm g ei cases cs i, x.Small (N + i)
 | 0 => hs
 | i + 1 => by
  unfold dm; split
  ·rename_i c hc
   exact Dv (lS hs hok i) (by rw [jh]; exact hok c (List.mem_of_getElem? hc))
  ·exact fun x hx => (lS hs hok i x hx).mono (by omega)
section
variable {R : Mem} {L L' : List HP} {M : Mem} {K : Value → Mem → Prop} {Kp : List PanicEntry → Mem → Prop} {bs : List Nat} {cs : List aQ}
theorem jR : bF Tryz.prog 38 3 1 8 [.int .i64 0] := bF.mk' (zv := .int .i64 0) (by kernel_rfl) (by kernel_rfl) rfl (by omega)
theorem Iz {cases : List nh} {i : Nat} {c : nh} (hc : cases[i]? = some c) (hw : c.way = 2) (hp : ∀ j c, j < i → cases[j]? = some c → c.way ≠ 2) : els cases = some i := by
 obtain ⟨hi, e⟩ := List.getElem?_eq_some_iff.1 hc
 refine List.findIdx?_eq_some_iff_getElem.2 ⟨hi, by rw [e]; simpa using hw, fun j hj => ?_⟩
 have := hp j _ hj (List.getElem?_eq_getElem (by omega))
 simpa using this
theorem IA {cases : List nh} (hp : ∀ j c, j < cases.length → cases[j]? = some c → c.way ≠ 2) : els cases = none := by
 refine List.findIdx?_eq_none_iff.2 fun c hc => ?_
 obtain ⟨j, hj, e⟩ := List.getElem_of_mem hc
 have := hp j c hj (by rw [← e]; exact List.getElem?_eq_getElem hj)
 simpa using this
theorem Lu {B : Option Addr} {m cc : Nat} {cases : List nh} (h : Hp R L M) (hB : Src R L B (gT.cells cases)) (hm : m = cases.length) (hb : cases.length ≤ 1000000000)
  (k : ∀ M', Hp R L M' → K (.tuple #[.int .i64 (match els cases with | some i => (i : Int) | none => 0), .bool (els cases).isSome]) M') :
  ae Tryz.prog 156 #[.slice B m cc] M K Kp := by
 subst hm
 refine Dl ⟨fun d ws M => ∃ i : Nat, ws = [.int .i64 (i : Int)] ∧ d = cases.length - i ∧ i ≤ cases.length ∧ (∀ j c, j < i → cases[j]? = some c → c.way ≠ 2) ∧ Hp R L M, ⟨_, 0, rfl, rfl, by omega, fun j c hj => by omega, h⟩, ?_⟩
 clear h
 rintro d _ ii M ⟨i, he, hd, hi, hp, h⟩
 simp only [List.cons.injEq, Value.int.injEq, and_true, true_and] at he
 subst he
 refine aH.2 ⟨fun hlt => ?_, fun hge => ?_⟩
 ·obtain ⟨c, hc⟩ := aJ (l := cases) (i := i) (by omega)
  obtain ⟨b, o, rfl⟩ := hB.iP h (by omega) (by decide)
  repeat (first|(refine ai h ?_;clear h;intro kb M h)|(refine ak h ?_;clear h;intro M h)|refine St.to h ?_|(apply Exists.intro;(repeat apply Exists.intro);refine And.intro rfl ?_)|refine ay ?_|refine aq ?_|refine au ?_)
  simp only [Int.toNat_natCast]
  refine aj (hB.at h (i := i) (j := 0) hc rfl rfl) ?_
  refine aj (hB.at h (i := i) (j := 1) hc rfl rfl) ?_
  refine aj (hB.at h (i := i) (j := 2) hc rfl rfl) ?_
  repeat (first|(refine ai h ?_;clear h;intro kb M h)|(refine ak h ?_;clear h;intro M h)|refine St.to h ?_|(apply Exists.intro;(repeat apply Exists.intro);refine And.intro rfl ?_)|refine ay ?_|refine aq ?_|refine au ?_)
  refine bh.2 ⟨fun e => ?_, fun e => ?_⟩
  ·have := Iz hc e hp
   rw [this] at k
   exact k _ h.jf
  ·rw [aS (by omega)]
   refine ⟨cases.length - (i + 1), by omega, i + 1, rfl, rfl, by omega, fun j c' hj xh => ?_, h.jf⟩
   rcases Nat.lt_or_ge j i with kC | kC
   ·exact hp j c' kC xh
   ·obtain rfl : j = i := by omega
    rw [hc] at xh; cases xh; exact e
 ·obtain rfl : i = cases.length := by omega
  rw [IA hp] at k
  exact k _ h
theorem PV {c : nh} {B : Option Addr} {m cc : Nat} (h : Hp R L M) [o : iL bL L bs cs L'] (hB : Src R L' B (nG.cells bs)) (hm : m = bs.length) (hl : bs.length = cs.length) (hc : c.way ≠ 2 → 0 ≤ c.ch ∧ c.ch < cs.length) (cu : 0 ≤ c.way ∧ c.way ≤ 2)
  (k : ∀ M', Hp R (cN bL bs cs :: L') M' → K (.bool (can cs c)) M') : ae Tryz.prog 204 #[.agg #[.int .i64 c.way, .int .i64 c.ch, .int .i64 c.bH], .slice B m cc] M K Kp := by
 subst hm
 replace h := h.pJ bL
 obtain ⟨way, ch, bH⟩ := c
 dsimp only at *
 by_cases hwe : way = 2
 ·subst hwe
  refine w7 ?_
  repeat (first|(refine ai h ?_;clear h;intro kb M h)|(refine ak h ?_;clear h;intro M h)|refine St.to h ?_|(apply Exists.intro;(repeat apply Exists.intro);refine And.intro rfl ?_)|refine ay ?_|refine aq ?_|refine au ?_)
  exact k _ h.jf
 replace hc := hc hwe
 obtain ⟨q, rfl⟩ := Int.eq_ofNat_of_zero_le hc.1
 obtain ⟨x, hx⟩ := aJ (l := cs) (i := q) (by omega)
 obtain ⟨b, hb⟩ := aJ (l := bs) (i := q) (by omega)
 have hxx : aX cs (q : Int) = x := by simp [aX, hx]
 obtain ⟨b0, o0, rfl⟩ := hB.cons.iP h (by omega) (by decide)
 simp only [can, hxx] at k
 refine w7 ?_
 repeat (first|(refine ai h ?_;clear h;intro kb M h)|(refine ak h ?_;clear h;intro M h)|refine St.to h ?_|(apply Exists.intro;(repeat apply Exists.intro);refine And.intro rfl ?_)|refine ay ?_|refine aq ?_|refine au ?_)
 refine bh.2 ⟨fun e => ?_, fun e => ?_⟩
 ·rw [if_pos e] at k
  repeat (first|(refine ai h ?_;clear h;intro kb M h)|(refine ak h ?_;clear h;intro M h)|refine St.to h ?_|(apply Exists.intro;(repeat apply Exists.intro);refine And.intro rfl ?_)|refine ay ?_|refine aq ?_|refine au ?_)
  refine Ik (hB.cons.cons.at h (i := q) (j := 0) hb rfl (by simp [nG])) ?_
  replace h := h.eF bL hb hx
  refine Dk h ?_
  repeat (first|(refine ai h ?_;clear h;intro kb M h)|(refine ak h ?_;clear h;intro M h)|refine St.to h ?_|(apply Exists.intro;(repeat apply Exists.intro);refine And.intro rfl ?_)|refine ay ?_|refine aq ?_|refine au ?_)
  exact k _ (h.ox bL b hb hx).cG
 rw [if_neg e] at k
 refine bh.2 ⟨fun e => ?_, fun e => ?_⟩
 ·rw [if_pos e] at k
  repeat (first|(refine ai h ?_;clear h;intro kb M h)|(refine ak h ?_;clear h;intro M h)|refine St.to h ?_|(apply Exists.intro;(repeat apply Exists.intro);refine And.intro rfl ?_)|refine ay ?_|refine aq ?_|refine au ?_)
  refine Ik (hB.cons.cons.at h (i := q) (j := 0) hb rfl (by simp [nG])) ?_
  replace h := h.eF bL hb hx
  refine Dj h ?_
  repeat (first|(refine ai h ?_;clear h;intro kb M h)|(refine ak h ?_;clear h;intro M h)|refine St.to h ?_|(apply Exists.intro;(repeat apply Exists.intro);refine And.intro rfl ?_)|refine ay ?_|refine aq ?_|refine au ?_)
  exact k _ (h.ox bL b hb hx).cG
 ·rw [if_neg e] at k
  exact k _ h.jf
theorem Dw {B A : Option Addr} {m cc n ca : Nat} {cases : List nh} (h : Hp R L M) [o : iL bL L bs cs L'] (hB : Src R L' B (gT.cells cases)) (hA : Src R L' A (nG.cells bs)) (hm : m = cases.length) (hn : n = bs.length)
  (hb : cases.length ≤ 1000000000) (hl : bs.length = cs.length) (hok : ∀ c ∈ cases, c.Ok cs.length)
  (k : ∀ A' c' M', Hp R (cw bS 3 A' c' (enabled cases cs) :: cN bL bs cs :: L') M' → K (.slice A' (enabled cases cs).length c') M') :
  ae Tryz.prog 155 #[.slice B m cc, .slice A n ca] M K Kp := by
 subst hm
 replace h := h.pJ bL
 refine yF ⟨fun d ws M => ∃ (i : Nat) (X : Option Addr) (cx : Nat), ws = [.slice X (z9 cases cs i).length cx, .int .i64 (i : Int)] ∧ d = cases.length - i ∧ i ≤ cases.length ∧ Hp R (cw bS 3 X cx (z9 cases cs i) :: cN bL bs cs :: L') M, ⟨_, 0, none, 0, rfl, rfl, by omega, h.dz bS _⟩, ?_⟩
 clear h
 rintro d _ X n1 cx ii M ⟨i, _, _, he, hd, hi, h⟩
 simp only [List.cons.injEq, Value.int.injEq, Value.slice.injEq, and_true, true_and] at he
 obtain ⟨⟨rfl, rfl, rfl⟩, rfl⟩ := he
 refine aH.2 ⟨fun hlt => ?_, fun hge => ?_⟩
 ·obtain ⟨c, hc⟩ := aJ (l := cases) (i := i) (by omega)
  obtain ⟨b, o, rfl⟩ := hB.cons.cons.iP h (by omega) (by decide)
  repeat (first|(refine ai h ?_;clear h;intro kb M h)|(refine ak h ?_;clear h;intro M h)|refine St.to h ?_|(apply Exists.intro;(repeat apply Exists.intro);refine And.intro rfl ?_)|refine ay ?_|refine aq ?_|refine au ?_)
  simp only [Int.toNat_natCast]
  refine aj (hB.cons.cons.at h (i := i) (j := 0) hc rfl rfl) ?_
  refine aj (hB.cons.cons.at h (i := i) (j := 1) hc rfl rfl) ?_
  refine aj (hB.cons.cons.at h (i := i) (j := 2) hc rfl rfl) ?_
  repeat (first|(refine ai h ?_;clear h;intro kb M h)|(refine ak h ?_;clear h;intro M h)|refine St.to h ?_|(apply Exists.intro;(repeat apply Exists.intro);refine And.intro rfl ?_)|refine ay ?_|refine aq ?_|refine au ?_)
  have hco := hok c (List.mem_of_getElem? hc)
  obtain ⟨w1, w2, k1⟩ := hco
  refine PV (c := c) h hA.cons.cons hn hl (fun e => ⟨(k1 e).1, (k1 e).2.1⟩) ⟨w1, w2⟩ ?_
  clear h
  intro M h
  repeat (first|(refine ai h ?_;clear h;intro kb M h)|(refine ak h ?_;clear h;intro M h)|refine St.to h ?_|(apply Exists.intro;(repeat apply Exists.intro);refine And.intro rfl ?_)|refine ay ?_|refine aq ?_|refine au ?_)
  have hlen := BH cases cs i
  refine fL.2 ⟨fun hb => ?_, fun hb => ?_⟩
  ·have e := yJ (cs := cs) hc
   rw [if_pos hb] at e
   repeat (first|(refine ai h ?_;clear h;intro kb M h)|(refine ak h ?_;clear h;intro M h)|refine St.to h ?_|(apply Exists.intro;(repeat apply Exists.intro);refine And.intro rfl ?_)|refine ay ?_|refine aq ?_|refine au ?_)
   refine h.be jR [(i : Int)] rfl rfl (by simp; omega) ?_
   clear h
   intro A' c' M h
   repeat (first|(refine ai h ?_;clear h;intro kb M h)|(refine ak h ?_;clear h;intro M h)|refine St.to h ?_|(apply Exists.intro;(repeat apply Exists.intro);refine And.intro rfl ?_)|refine ay ?_|refine aq ?_|refine au ?_)
   rw [aS (by omega)]
   rw [← e] at h
   refine ⟨cases.length - (i + 1), by omega, i + 1, A', c', ?_, rfl, by omega, h.cG⟩
   rw [e]
  ·have e := yJ (cs := cs) hc
   rw [if_neg (by simp [hb]), List.append_nil] at e
   rw [aS (by omega)]
   refine ⟨cases.length - (i + 1), by omega, i + 1, X, cx, by rw [e], rfl, by omega, ?_⟩
   rw [e]; exact h.sub bz
 ·obtain rfl : i = cases.length := by omega
  exact k _ _ _ h
theorem IB {g : Int} {A : Option Addr} {n ca : Nat} (h : Hp R L M) [o : iL bL L bs cs L'] (hA : Src R L' A (nG.cells bs)) (hn : n = bs.length) (hb : bs.length ≤ 1000000000) (hl : bs.length = cs.length) (hs : ∀ c ∈ cs, c.Small 1000000000)
  (k : ∀ M', Hp R (cN bL bs (cs.map (·.drop g)) :: L') M' → K (.tuple #[]) M') :
  ae Tryz.prog 225 #[.int .i64 g, .slice A n ca] M K Kp := by
 subst hn
 replace h := h.pJ bL
 refine BD ⟨fun d ws M => ∃ (i : Nat), ws = [.int .i64 (i : Int)] ∧ d = bs.length - i ∧ i ≤ bs.length ∧ Hp R (cN bL bs ((cs.take i).map (·.drop g) ++ cs.drop i) :: L') M, ⟨_, 0, rfl, rfl, by omega, h⟩, ?_⟩
 clear h
 rintro d _ ii M ⟨i, he, hd, hi, h⟩
 simp only [List.cons.injEq, Value.int.injEq, and_true, true_and] at he
 subst he
 refine aH.2 ⟨fun hlt => ?_, fun hge => ?_⟩
 ·obtain ⟨c, hc⟩ := aJ (l := cs) (i := i) (by omega)
  obtain ⟨b, lg⟩ := aJ (l := bs) (i := i) (by omega)
  obtain ⟨b0, o0, rfl⟩ := hA.cons.iP h (by omega) (by decide)
  have hc2 : ((cs.take i).map (·.drop g) ++ cs.drop i)[i]? = some c := by
   rw [List.getElem?_append_right (by simp; omega)]; simp [List.length_take, Nat.min_eq_left (show i ≤ cs.length by omega), hc]
  repeat (first|(refine ai h ?_;clear h;intro kb M h)|(refine ak h ?_;clear h;intro M h)|refine St.to h ?_|(apply Exists.intro;(repeat apply Exists.intro);refine And.intro rfl ?_)|refine ay ?_|refine aq ?_|refine au ?_)
  refine Ik (hA.cons.at h (i := i) (j := 0) lg rfl (by simp [nG])) ?_
  replace h := h.eF bL lg hc2
  refine Lj h (hs c (List.mem_of_getElem? hc)) ?_
  clear h
  intro M h
  repeat (first|(refine ai h ?_;clear h;intro kb M h)|(refine ak h ?_;clear h;intro M h)|refine St.to h ?_|(apply Exists.intro;(repeat apply Exists.intro);refine And.intro rfl ?_)|refine ay ?_|refine aq ?_|refine au ?_)
  rw [aS (by omega)]
  refine ⟨bs.length - (i + 1), by omega, i + 1, rfl, rfl, by omega, ?_⟩
  have := (h.gP bL b lg (by simp; omega)).cG (T := L')
  rw [List.set_append_right _ _ (by simp; omega)] at this
  rw [dw hc, List.map_append, List.append_assoc]
  have e : (cs.drop i).set (i - ((cs.take i).map (·.drop g)).length) (c.drop g) = [c.drop g] ++ cs.drop (i + 1) := by
   rw [show i - ((cs.take i).map (·.drop g)).length = 0 from by simp; omega]
   obtain ⟨hi', e'⟩ := List.getElem?_eq_some_iff.1 hc
   rw [List.drop_eq_getElem_cons hi']; rfl
  rw [e] at this
  exact this
 ·obtain rfl : i = bs.length := by omega
  rw [hl, List.take_length, List.drop_length, List.append_nil] at h
  exact k _ h
theorem Lv {g : Int} {B A D : Option Addr} {m cc n ca r cr : Nat} {cases : List nh} {ei : List Int} (h : Hp R L M) [o : iL bL L bs cs L'] (hB : Src R L' B (gT.cells cases)) (hA : Src R L' A (nG.cells bs)) (hD : Src R L' D (bS.cells ei))
  (hm : m = cases.length) (hn : n = bs.length) (hr : r = 8) (hr8 : ei.length = 8) (hb : cases.length ≤ 1000000) (hl : bs.length = cs.length) (hok : ∀ c ∈ cases, c.Ok cs.length) (hs : ∀ c ∈ cs, c.Small 1000000)
  (k : ∀ M', Hp R (cN bL bs (dm g ei cases cs cases.length) :: L') M' → K (.tuple #[]) M') :
  ae Tryz.prog 157 #[.int .i64 g, .slice B m cc, .slice D r cr, .slice A n ca] M K Kp := by
 subst hm
 subst hn
 subst hr
 replace h := h.pJ bL
 refine Dm ⟨fun d ws M => ∃ (i : Nat), ws = [.int .i64 (i : Int)] ∧ d = cases.length - i ∧ i ≤ cases.length ∧ Hp R (cN bL bs (dm g ei cases cs i) :: L') M, ⟨_, 0, rfl, rfl, by omega, h⟩, ?_⟩
 clear h
 rintro d _ ii M ⟨i, he, hd, hi, h⟩
 simp only [List.cons.injEq, Value.int.injEq, and_true, true_and] at he
 subst he
 refine aH.2 ⟨fun hlt => ?_, fun hge => ?_⟩
 ·obtain ⟨c, hc⟩ := aJ (l := cases) (i := i) (by omega)
  obtain ⟨w1, w2, kk⟩ := hok c (List.mem_of_getElem? hc)
  obtain ⟨b, o, rfl⟩ := hB.cons.iP h (by omega) (by decide)
  by_cases hwe : c.way = 2
  ·have e : dm g ei cases cs (i + 1) = dm g ei cases cs i := by
    rw [dm, hc]; dsimp only; unfold jb; rw [if_neg (by omega), if_neg (by omega)]
   repeat (first|(refine ai h ?_;clear h;intro kb M h)|(refine ak h ?_;clear h;intro M h)|refine St.to h ?_|(apply Exists.intro;(repeat apply Exists.intro);refine And.intro rfl ?_)|refine ay ?_|refine aq ?_|refine au ?_)
   simp only [Int.toNat_natCast]
   refine aj (hB.cons.at h (i := i) (j := 0) hc rfl rfl) ?_
   refine aj (hB.cons.at h (i := i) (j := 1) hc rfl rfl) ?_
   refine aj (hB.cons.at h (i := i) (j := 2) hc rfl rfl) ?_
   repeat (first|(refine ai h ?_;clear h;intro kb M h)|(refine ak h ?_;clear h;intro M h)|refine St.to h ?_|(apply Exists.intro;(repeat apply Exists.intro);refine And.intro rfl ?_)|refine ay ?_|refine aq ?_|refine au ?_)
   refine bh.2 ⟨fun e => by omega, fun _ => ?_⟩
   refine bh.2 ⟨fun e => by omega, fun _ => ?_⟩
   rw [aS (by omega)]
   refine ⟨cases.length - (i + 1), by omega, i + 1, rfl, rfl, by omega, ?_⟩
   rw [e]
   exact h.jf
  obtain ⟨k1, k2, k3, k4⟩ := kk hwe
  obtain ⟨b2, o2, rfl⟩ := hA.cons.iP h (by omega) (by decide)
  obtain ⟨b3, o3, rfl⟩ := hD.cons.iP h (by omega) (by decide)
  have hlen := jh g ei cases cs i
  have rK := lS (g := g) (ei := ei) hs hok i
  have e : dm g ei cases cs (i + 1) = jb g ei i c (dm g ei cases cs i) := by rw [dm, hc]
  generalize hw : dm g ei cases cs i = ws at h hlen rK e
  obtain ⟨way, ch, bH⟩ := c
  dsimp only at k1 k2 k3 k4
  obtain ⟨q, rfl⟩ := Int.eq_ofNat_of_zero_le k1
  obtain ⟨q2, rfl⟩ := Int.eq_ofNat_of_zero_le k3
  obtain ⟨b1, lg⟩ := aJ (l := bs) (i := q) (by omega)
  obtain ⟨x, hx⟩ := aJ (l := ws) (i := q) (by omega)
  obtain ⟨v, hv⟩ := aJ (l := ei) (i := q2) (by omega)
  have hxx : aX ws (q : Int) = x := by simp [aX, hx]
  have hvv : ei.getD q2 0 = v := by simp [hv]
  have hxs := rK x (List.mem_of_getElem? hx)
  simp only [jb, hxx, Int.toNat_natCast, hvv] at e
  repeat (first|(refine ai h ?_;clear h;intro kb M h)|(refine ak h ?_;clear h;intro M h)|refine St.to h ?_|(apply Exists.intro;(repeat apply Exists.intro);refine And.intro rfl ?_)|refine ay ?_|refine aq ?_|refine au ?_)
  simp only [Int.toNat_natCast]
  refine aj (hB.cons.at h (i := i) (j := 0) hc rfl rfl) ?_
  refine aj (hB.cons.at h (i := i) (j := 1) hc rfl rfl) ?_
  refine aj (hB.cons.at h (i := i) (j := 2) hc rfl rfl) ?_
  dsimp only
  repeat (first|(refine ai h ?_;clear h;intro kb M h)|(refine ak h ?_;clear h;intro M h)|refine St.to h ?_|(apply Exists.intro;(repeat apply Exists.intro);refine And.intro rfl ?_)|refine ay ?_|refine aq ?_|refine au ?_)
  refine bh.2 ⟨fun hw => ?_, fun hw => ?_⟩
  ·rw [if_pos hw] at e
   repeat (first|(refine ai h ?_;clear h;intro kb M h)|(refine ak h ?_;clear h;intro M h)|refine St.to h ?_|(apply Exists.intro;(repeat apply Exists.intro);refine And.intro rfl ?_)|refine ay ?_|refine aq ?_|refine au ?_)
   refine Ik (hA.cons.cons.at h (i := q) (j := 0) lg rfl (by simp [nG])) ?_
   have Sd := lg
   replace h := h.pick (.there .here)
   replace h := h.eF bL lg hx
   refine rE (w := ⟨g, i, 0⟩) h (hxs.mono (by omega)) ?_
   clear h
   intro M h
   repeat (first|(refine ai h ?_;clear h;intro kb M h)|(refine ak h ?_;clear h;intro M h)|refine St.to h ?_|(apply Exists.intro;(repeat apply Exists.intro);refine And.intro rfl ?_)|refine ay ?_|refine aq ?_|refine au ?_)
   rw [aS (by omega)]
   refine ⟨cases.length - (i + 1), by omega, i + 1, rfl, rfl, by omega, ?_⟩
   rw [e]
   exact (h.gP bL b1 lg (by omega)).cG
  rw [if_neg hw] at e
  refine bh.2 ⟨fun hw => ?_, fun hw => ?_⟩
  ·rw [if_pos hw] at e
   repeat (first|(refine ai h ?_;clear h;intro kb M h)|(refine ak h ?_;clear h;intro M h)|refine St.to h ?_|(apply Exists.intro;(repeat apply Exists.intro);refine And.intro rfl ?_)|refine ay ?_|refine aq ?_|refine au ?_)
   refine Ik (hA.cons.cons.at h (i := q) (j := 0) lg rfl (by simp [nG])) ?_
   repeat (first|(refine ai h ?_;clear h;intro kb M h)|(refine ak h ?_;clear h;intro M h)|refine St.to h ?_|(apply Exists.intro;(repeat apply Exists.intro);refine And.intro rfl ?_)|refine ay ?_|refine aq ?_|refine au ?_)
   refine aj (hD.cons.cons.at h (i := q2) (j := 0) hv rfl (by simp [bS])) ?_
   replace h := h.pick (.there .here)
   replace h := h.eF bL lg hx
   refine rD (w := ⟨g, i, v⟩) h (hxs.mono (by omega)) ?_
   clear h
   intro M h
   repeat (first|(refine ai h ?_;clear h;intro kb M h)|(refine ak h ?_;clear h;intro M h)|refine St.to h ?_|(apply Exists.intro;(repeat apply Exists.intro);refine And.intro rfl ?_)|refine ay ?_|refine aq ?_|refine au ?_)
   rw [aS (by omega)]
   refine ⟨cases.length - (i + 1), by omega, i + 1, rfl, rfl, by omega, ?_⟩
   rw [e]
   exact (h.gP bL b1 lg (by omega)).cG
  ·rw [if_neg hw] at e
   rw [aS (by omega)]
   refine ⟨cases.length - (i + 1), by omega, i + 1, rfl, rfl, by omega, ?_⟩
   rw [e]
   exact h.jf
 ·obtain rfl : i = cases.length := by omega
  exact k _ h
end
end Go.Proofs
namespace Go.Proofs
open Go.AF
structure bZ where
 op : Int
 a : Int
 b : Int
 c : Int
 deriving DecidableEq
def bZ.zero : bZ := ⟨0, 0, 0, 0⟩
def jE : jP bZ := ⟨4, fun x => [.int .i64 x.op, .int .i64 x.a, .int .i64 x.b, .int .i64 x.c], fun _ => rfl, fun w v hv => by
 simp only [List.mem_cons, List.not_mem_nil, or_false] at hv; obtain rfl | rfl | rfl | rfl := hv <;> rfl⟩
structure eH where
 fn : Int
 pc : Int
 r : List Int
 mF : Int
 deriving DecidableEq
def eH.bH (f : eH) (q : Int) : Int := f.r.getD q.toNat 0
def eH.set (f : eH) (q v : Int) : eH := { f with r := (List.range 8).map fun i => if i = q.toNat then v else f.r.getD i 0 }
def eH.next (f : eH) : eH := { f with pc := f.pc + 1 }
def eH.begin (fn v : Int) : eH := ⟨fn, 0, [v, 0, 0, 0, 0, 0, 0, 0], 0⟩
def gJ (f : eH) : List Value := [.int .i64 f.fn, .int .i64 f.pc, .int .i64 (f.r.getD 0 0), .int .i64 (f.r.getD 1 0), .int .i64 (f.r.getD 2 0), .int .i64 (f.r.getD 3 0), .int .i64 (f.r.getD 4 0), .int .i64 (f.r.getD 5 0), .int .i64 (f.r.getD 6 0), .int .i64 (f.r.getD 7 0), .int .i64 f.mF]
def fZ : jP eH := ⟨11, gJ, fun _ => rfl, fun w v hv => by
 simp only [gJ, List.mem_cons, List.not_mem_nil, or_false] at hv
 obtain rfl | rfl | rfl | rfl | rfl | rfl | rfl | rfl | rfl | rfl | rfl := hv <;> rfl⟩
theorem reg8 {q : Int} (h0 : 0 ≤ q) (h8 : q < 8) : q = 0 ∨ q = 1 ∨ q = 2 ∨ q = 3 ∨ q = 4 ∨ q = 5 ∨ q = 6 ∨ q = 7 := by omega
theorem dL {f : eH} {q : Int} (h0 : 0 ≤ q) (h8 : q < 8) : (fZ.f f)[2 + q.toNat]? = some (.int .i64 (f.bH q)) := by
 obtain rfl | rfl | rfl | rfl | rfl | rfl | rfl | rfl := reg8 h0 h8 <;> rfl
theorem kM {f : eH} {q v : Int} (h0 : 0 ≤ q) (h8 : q < 8) : (fZ.f f).set (2 + q.toNat) (.int .i64 v) = fZ.f (f.set q v) := by
 obtain rfl | rfl | rfl | rfl | rfl | rfl | rfl | rfl := reg8 h0 h8 <;> rfl
theorem S7 {f : eH} {v : Int} : (fZ.f f).set 1 (.int .i64 v) = fZ.f { f with pc := v } := rfl
def eH.pure (f : eH) (x : bZ) : eH :=
 if x.op = 0 then f
 else if x.op = 1 then f.set x.a x.b
 else if x.op = 2 then f.set x.a (f.bH x.b)
 else if x.op = 3 then f.set x.a (IntKind.wrap .i64 (f.bH x.b + f.bH x.c))
 else if x.op = 4 then f.set x.a (IntKind.wrap .i64 (f.bH x.b - f.bH x.c))
 else if x.op = 5 then f.set x.a (IntKind.wrap .i64 (f.bH x.b * f.bH x.c))
 else if x.op = 6 then f.set x.a (if f.bH x.b < f.bH x.c then 1 else 0)
 else if x.op = 7 then { f with pc := x.a }
 else if f.bH x.a ≠ 0 then { f with pc := x.b } else f
def aR (q : Int) : Prop := 0 ≤ q ∧ q < 8
instance (q : Int) : Decidable (aR q) := by unfold aR; infer_instance
def bZ.cO (x : bZ) : Prop :=
 (x.op ∈ [1, 8] → aR x.a) ∧ (x.op = 2 → aR x.a ∧ aR x.b) ∧ (x.op ∈ [3, 4, 5, 6] → aR x.a ∧ aR x.b ∧ aR x.c)
instance (x : bZ) : Decidable x.cO := by unfold bZ.cO; infer_instance
structure gK where
 st : Int
 fs : List eH
 wt : bZ
 deriving DecidableEq
structure Lk where
 owner : Int
 waits : List Int
 deriving DecidableEq
structure aN where
 t : Int
 seq : Int
 id : Int
 deriving DecidableEq
def hH : jP aN := ⟨3, fun x => [.int .u64 x.t, .int .u64 x.seq, .int .i64 x.id], fun _ => rfl, fun w v hv => by
 simp only [List.mem_cons, List.not_mem_nil, or_false] at hv; obtain rfl | rfl | rfl := hv <;> rfl⟩
structure cy where
 funcs : List (List bZ)
 dB : List Int
 aC : Int
 cases : List nh
structure Wd where
 gs : List gK
 clock : Int
 av : List aQ
 aC : List Lk
 hl : List aN
 dk : Int
 out : List Int
 end_ : Int
 code : Int
 ready : List Int
 deriving DecidableEq
def aa (x : Wd) (g : Int) : gK := x.gs.getD g.toNat ⟨0, [], .zero⟩
def Wd.bp (x : Wd) (g : Int) (y : gK) : Wd := { x with gs := x.gs.set g.toNat y }
def gK.top (y : gK) : eH := y.fs.getD (y.fs.length - 1) ⟨0, 0, [], 0⟩
def gK.bW (y : gK) (f : eH) : gK := { y with fs := y.fs.set (y.fs.length - 1) f }
def Wd.aW (x : Wd) (g q v : Int) : Wd := x.bp g ((aa x g).bW ((aa x g).top.set q v))
def Wd.eV (x : Wd) (g : Int) : Wd := { x.bp g { aa x g with st := 1 } with ready := x.ready ++ [g] }
def Wd.block (x : Wd) (g : Int) (i : bZ) : Wd := x.bp g { aa x g with st := 2, wt := i }
def Wd.leave (x : Wd) (g : Int) : Wd := { x with av := x.av.map fun c => c.drop g }
def Wd.cU (x : Wd) (g k : Int) : Wd := (x.aW g (aa x g).wt.c k).leave g
def mG (p : cy) (k : Int) : nh := p.cases.getD k.toNat ⟨0, 0, 0⟩
def Wd.received (p : cy) (x : Wd) (v : Wt) (some : Int) : Wd :=
 let i := (aa x v.g).wt
 (if i.op = 16 then ((x.aW v.g (mG p (i.a + v.cs)).bH v.v).cU v.g v.cs)
  else (x.aW v.g i.b v.v).aW v.g i.c some).eV v.g
def Wd.sent (x : Wd) (v : Wt) : Wd := (if (aa x v.g).wt.op = 16 then x.cU v.g v.cs else x).eV v.g
inductive Out (α : Type) where
 | on (a : α)
 | dg (code : Int) (x : Wd)
 | fF (l : List PanicEntry) (x : Wd)
def Wd.bg (x : Wd) (k : Int) (c : aQ) : Wd := { x with av := x.av.set k.toNat c }
def Wd.put (p : cy) (x : Wd) (k v : Int) : Out (Wd × Bool) :=
 let s := (aX x.av k).send v
 if s.2.2.2 = 10 then .dg (-1) (x.bg k s.1)
 else .on ((if s.2.2.1 then (x.bg k s.1).received p s.2.1 1 else x.bg k s.1), s.2.2.2 == 0)
def Wd.get (x : Wd) (k : Int) : Wd × Int × Int × Bool :=
 let s := (aX x.av k).recv
 let y := if s.2.2.2.2.1 then (x.bg k s.1).sent s.2.2.2.1 else x.bg k s.1
 if s.2.2.1 then (y, s.2.1, 1, true) else (y, 0, 0, s.2.2.2.2.2 == 0)
def aT (x : Wd) (g : Int) : Prop := 0 ≤ g ∧ g < x.gs.length ∧ 0 < (aa x g).fs.length ∧ (aa x g).fs.length ≤ 1000
instance (x : Wd) (g : Int) : Decidable (aT x g) := by unfold aT; infer_instance
def lI (p : cy) (x : Wd) (v : Wt) : Prop := aT x v.g ∧
 if (aa x v.g).wt.op = 16 then 0 ≤ (aa x v.g).wt.a + v.cs ∧ (aa x v.g).wt.a + v.cs < p.cases.length ∧ p.cases.length ≤ 1000 ∧ aR (mG p ((aa x v.g).wt.a + v.cs)).bH ∧ aR (aa x v.g).wt.c
 else aR (aa x v.g).wt.b ∧ aR (aa x v.g).wt.c
instance (p : cy) (x : Wd) (v : Wt) : Decidable (lI p x v) := by unfold lI; infer_instance
def vf (x : Wd) (v : Wt) : Prop := aT x v.g ∧ ((aa x v.g).wt.op = 16 → aR (aa x v.g).wt.c)
instance (x : Wd) (v : Wt) : Decidable (vf x v) := by unfold vf; infer_instance
def Wd.Sm (x : Wd) : Prop := (∀ c ∈ x.av, c.Small 1000000) ∧ x.av.length ≤ 1000 ∧ x.gs.length ≤ 1000 ∧ x.ready.length ≤ 1000000 ∧ x.out.length ≤ 1000000 ∧ (∀ l ∈ x.aC, l.waits.length ≤ 1000000) ∧ x.aC.length ≤ 1000 ∧ x.hl.length ≤ 1000000
instance (x : Wd) : Decidable x.Sm := by unfold Wd.Sm; infer_instance
theorem iE {x : Wd} {g : Int} {y : gK} (h0 : 0 ≤ g) (hg : g < x.gs.length) : aa (x.bp g y) g = y := by
 have : g.toNat < x.gs.length := by omega
 simp [aa, Wd.bp, this]
end Go.Proofs
namespace Go.Proofs
open Go.AF
set_option maxRecDepth 100000
variable {M : Mem} {K : Value → Mem → Prop} {Kp : List PanicEntry → Mem → Prop}
theorem rL {b0 o0 : Nat} {x1 : Int} (h :
aM (decide ((x1 : Int) < 0))
 (K (.slice none 0 0) M)
 (rS M b0 (o0 + 4) fun A1 k2 k3 =>
 aM (decide ((x1 : Int) ≥ k2))
 (K (.slice none 0 0) M)
 (rS M b0 (o0 + 4) fun A4 k5 k6 =>
 ((0 : Int) ≤ x1) ∧
 ((x1 : Int) < k5) ∧
 aE A4 fun k7 k8 =>
 rP M k7 (k8 + (Int.toNat x1)) fun A9 =>
 aE A9 fun eB eo =>
 rS M eB (eo + 1) fun m8 eu fB =>
 ae Tryz.prog 115 #[(.slice m8 eu fB)] M (fun By gj =>
 aF (some By) fun AI fq jH =>
 K (.slice AI fq jH) gj) Kp))) :
 ae Tryz.prog 84 #[.pointer (some ⟨b0, o0, none⟩), .int .i64 x1] M K Kp := vw [] Tryz.func84 h
theorem vJ {B0 : Option Addr} {m0 c0 : Nat} (h :
aM ((m0 : Int) == 0)
 (K (.pointer none) M)
 (((0 : Int) ≤ (IntKind.wrap .i64 ((m0 : Int) - 1))) ∧
 (((IntKind.wrap .i64 ((m0 : Int) - 1)) : Int) < (m0 : Int)) ∧
 aE B0 fun k1 k2 =>
 K (.pointer (some ⟨k1, (k2 + ((Int.toNat (IntKind.wrap .i64 ((m0 : Int) - 1))) * 11)), none⟩)) M)) :
 ae Tryz.prog 120 #[.slice B0 m0 c0] M K Kp := vw [] Tryz.func120 h
theorem um {b0 o0 : Nat} {x1 : Int} (h :
aO M Br fun k1 M2 =>
aM (decide ((x1 : Int) < 0))
 (sT M2 k1 0 (.slice none 0 0) fun M3 =>
 sT M3 k1 1 (.slice none 0 0) fun M4 =>
 sT M4 k1 2 (.slice none 0 0) fun M5 =>
 sT M5 k1 3 (.bool false) fun M6 =>
 Oj M6 k1 0 fun A7 k8 k9 Le eo gI zA fB jy t16 =>
 K (.agg #[(.slice A7 k8 k9), (.slice Le eo gI), (.slice zA fB jy), (.bool t16)]) M6)
 (rS M2 b0 (o0 + 6) fun AI fq jH =>
 aM (decide ((x1 : Int) ≥ fq))
 (sT M2 k1 0 (.slice none 0 0) fun vC =>
 sT vC k1 1 (.slice none 0 0) fun jI =>
 sT jI k1 2 (.slice none 0 0) fun c9 =>
 sT c9 k1 3 (.bool false) fun mD =>
 Oj mD k1 0 fun CW jJ gM BI gV gk yG iM iy t33 =>
 K (.agg #[(.slice CW jJ gM), (.slice BI gV gk), (.slice yG iM iy), (.bool t33)]) mD)
 (rS M2 b0 (o0 + 6) fun Et kD nK =>
 ((0 : Int) ≤ x1) ∧
 ((x1 : Int) < kD) ∧
 aE Et fun qt fE =>
 rP M2 qt (fE + (Int.toNat x1)) fun ZL =>
 ae Tryz.prog 117 #[(.pointer ZL)] M2 (fun S8 BJ =>
 ∃ Iq : Option Addr, ∃ jK zB : Nat, ∃ Lw : Option Addr, ∃ me kj : Nat, ∃ OB : Option Addr, ∃ mg vD : Nat, ∃ t51 : Bool, (S8 = (.agg #[(.slice Iq jK zB), (.slice Lw me kj), (.slice OB mg vD), (.bool t51)])) ∧
 mB BJ k1 (.slice Iq jK zB) (.slice Lw me kj) (.slice OB mg vD) (.bool t51) fun FM =>
 Oj FM k1 0 fun WB vH Bz A59 Lm ve A62 Kv WC t65 =>
 K (.agg #[(.slice WB vH Bz), (.slice A59 Lm ve), (.slice A62 Kv WC), (.bool t65)]) FM) Kp))) :
 ae Tryz.prog 86 #[.pointer (some ⟨b0, o0, none⟩), .int .i64 x1] M K Kp := vw [] Tryz.func86 h
theorem qx {b0 o0 : Nat} {x1 : Int} (h :
aM (decide ((x1 : Int) < 0))
 (K (.int .i64 0) M)
 (aF (Mem.ld M ⟨b0, (o0 + 4), none⟩) fun A1 k2 k3 =>
 aM (decide ((x1 : Int) ≥ ((k2 : Nat) : Int)))
  (K (.int .i64 0) M)
  (aF (Mem.ld M ⟨b0, (o0 + 4), none⟩) fun A4 k5 k6 =>
  ((0 : Int) ≤ x1) ∧
  ((x1 : Int) < ((k5 : Nat) : Int)) ∧
  aE A4 fun k7 k8 =>
  dP (Mem.ld M ⟨k7, (k8 + (Int.toNat x1)), none⟩) fun A9 =>
  aE A9 fun eB eo =>
  bG (Mem.ld M ⟨eB, eo, none⟩) .i64 fun hG =>
  K (.int .i64 hG) M))) :
 ae Tryz.prog 65 ([.pointer (some ⟨b0, o0, none⟩), .int .i64 x1] : List Value).toArray M K Kp :=
 fe (C := Cx) good [] Tryz.func65 (by kernel_rfl) (by kernel_rfl) h
theorem vK {b0 o0 : Nat} (h :
rS M b0 (o0 + 4) fun A1 k2 k3 =>
K (iV (k2 : Int)) M) :
 ae Tryz.prog 64 #[.pointer (some ⟨b0, o0, none⟩)] M K Kp := vw [] Tryz.func64 h
theorem vL {b0 o0 : Nat} (h :
rI M b0 (o0 + 11) fun n1 =>
rI M b0 (o0 + 12) fun n2 =>
K (.tuple #[(iV n1), (iV n2)]) M) :
 ae Tryz.prog 60 #[.pointer (some ⟨b0, o0, none⟩)] M K Kp := vw [(1, .bH [0, 1, 3, 7, 0, 16, 48, 112, 15, 511] (sy [0, 1, 2, 4, 5, 6, 3, 8, 7, 9] .done))] Tryz.func60 h
theorem uo {b0 o0 : Nat} (h :
bG (Mem.ld M ⟨b0, (o0 + 11), none⟩) .i64 fun n1 =>
aM (n1 != 0)
 (K (.slice none 0 0) M)
 (bG (Mem.ld M ⟨b0, (o0 + 5), none⟩) .u64 fun n2 =>
 b7 M ⟨b0, (o0 + 5), none⟩ (.int .u64 (IntKind.wrap .u64 (n2 + 1))) fun M3 =>
 b7 M3 ⟨b0, (o0 + 13), none⟩ (.slice none 0 0) fun M4 =>
 bG (Mem.ld M4 ⟨b0, (o0 + 5), none⟩) .u64 fun n5 =>
 ae Tryz.prog 89 #[(.pointer (some ⟨b0, (o0 + 8), none⟩)), (.int .u64 n5)] M4 (fun v6 M7 =>
 aF (some v6) fun A8 k9 eB =>
 ∃ I11 : Nat → List Value → Mem → Prop, (∃ gI : Nat, I11 gI [(.int .i64 0)] M7) ∧
 ∀ eu : Nat, ∀ junk14 : Nat → Value, ∀ lj : Int, ∀ gj : Mem, (I11 eu [(.int .i64 lj)] gj) → aM (decide ((lj : Int) < ((k9 : Nat) : Int)))
  (((0 : Int) ≤ lj) ∧
  ((lj : Int) < ((k9 : Nat) : Int)) ∧
  aE A8 fun fT fq =>
  bG (Mem.ld gj ⟨fT, (fq + ((Int.toNat lj) * 3)), none⟩) .u64 fun nX =>
  bG (Mem.ld gj ⟨fT, ((fq + ((Int.toNat lj) * 3)) + 1), none⟩) .u64 fun gF =>
  bG (Mem.ld gj ⟨fT, ((fq + ((Int.toNat lj) * 3)) + 2), none⟩) .i64 fun vb =>
  aO gj (.cells #[(.int .u64 0), (.int .u64 0), (.int .i64 0)] 205 (0, 0)) fun gi mD =>
  b7 mD ⟨gi, 0, none⟩ (.int .u64 nX) fun nJ =>
  b7 nJ ⟨gi, (0 + 1), none⟩ (.int .u64 gF) fun qo =>
  b7 qo ⟨gi, (0 + 2), none⟩ (.int .i64 vb) fun xY =>
  bG (Mem.ld xY ⟨gi, (0 + 2), none⟩) .i64 fun Ll =>
  ae Tryz.prog 90 #[(.pointer (some ⟨b0, o0, none⟩)), (.int .i64 Ll)] xY (fun PM pG =>
  (PM = (.tuple #[])) ∧
  ∃ jg : Nat, (jg < eu) ∧
  I11 jg [(.int .i64 (IntKind.wrap .i64 (lj + 1)))] pG) Kp)
  (aF (Mem.ld gj ⟨b0, (o0 + 13), none⟩) fun Io iy lz =>
  K (.slice Io iy lz) gj)) Kp)) :
 ae Tryz.prog 43 ([.pointer (some ⟨b0, o0, none⟩)] : List Value).toArray M K Kp :=
 fe (C := Cx) good [(5, .bH [0, 1, 3, 0, 8, 24, 56, 127, 255, 0] (.step 0 (.step 1 (.step 2 (.step 3 (.step 4 (.step 5 (.step 9 (.step 6 (.step 7 (.step 8 .done))))))))))), (2000000, .loop [(29, .c (.int .i64))])] Tryz.func43 (by kernel_rfl) (by kernel_rfl) h
theorem vM {b0 o0 : Nat} (h :
aO M (cl [] 2) fun k1 M2 =>
rS M2 b0 (o0 + 10) fun A3 k4 k5 =>
aA 59 (some ⟨k1, 0, none⟩) 0 0 A3 k4 k5 M2 (fun v6 M7 =>
aF (some v6) fun A8 k9 eB =>
K (.slice A8 k9 eB) M7) Kp) :
 ae Tryz.prog 22 #[.pointer (some ⟨b0, o0, none⟩)] M K Kp := vw [] Tryz.func22 h
theorem oE {b0 o0 : Nat} (h :
ae Tryz.prog 61 #[(.pointer (some ⟨b0, (o0 + 8), none⟩))] M (fun v1 M2 =>
aF (some v1) fun A3 k4 k5 =>
K (.slice A3 k4 k5) M2) Kp) :
 ae Tryz.prog 24 #[.pointer (some ⟨b0, o0, none⟩)] M K Kp := vw [] Tryz.func24 h
theorem BK {x0 : Int} {x1 : Int} (h :
aO M (cl [(iV x0), (iV 0), (iV x1), (iV 0), (iV 0), (iV 0), (iV 0), (iV 0), (iV 0), (iV 0), (iV 0)] 234) fun k1 M2 =>
K (.slice (some ⟨k1, 0, none⟩) 1 1) M2) :
 ae Tryz.prog 71 #[.int .i64 x0, .int .i64 x1] M K Kp := vw [] Tryz.func71 h
theorem FN  (h :
aO M (cl [(iV (-1)), (.slice none 0 0)] 238) fun k1 M2 =>
K (.pointer (some ⟨k1, 0, none⟩)) M2) :
 ae Tryz.prog 73 #[] M K Kp := vw [] Tryz.func73 h
theorem rM {B0 : Option Addr} {m0 c0 : Nat} (h :
aA 179 none 0 0 B0 m0 c0 M (fun v1 M2 =>
aF (some v1) fun A3 k4 k5 =>
K (.slice A3 k4 k5) M2) Kp) :
 ae Tryz.prog 115 #[.slice B0 m0 c0] M K Kp := vw [] Tryz.func115 h
theorem xj {b0 o0 : Nat} {x1 : Int} (h :
∃ I1 : Nat → List Value → Mem → Prop, (∃ k2 : Nat, I1 k2 [(.slice none 0 0)] M) ∧
∀ k3 : Nat, ∀ ZT : Nat → Value, ∀ A5 : Option Addr, ∀ k6 : Nat, ∀ k7 : Nat, ∀ M8 : Mem, (I1 k3 [(.slice A5 k6 k7)] M8) → aF (Mem.ld M8 ⟨b0, o0, none⟩) fun A9 eB eo =>
aM (decide ((((eB : Nat) : Int) : Int) > 0))
 (aF (Mem.ld M8 ⟨b0, o0, none⟩) fun m8 eu fB =>
 ((0 : Int) ≤ 0) ∧
 ((0 : Int) < ((eu : Nat) : Int)) ∧
 aE m8 fun jy fx =>
 bG (Mem.ld M8 ⟨jy, (fx + 0), none⟩) .u64 fun kS =>
 aM (decide ((kS : Int) ≤ x1))
  (ae Tryz.prog 106 #[(.pointer (some ⟨b0, o0, none⟩)), (.int .i64 0)] M8 (fun FA m7 =>
  ∃ gF : Int, ∃ vb : Int, ∃ w5 : Int, (FA = (.agg #[(.int .u64 gF), (.int .u64 vb), (.int .i64 w5)])) ∧
  aO m7 (.cells #[(.int .u64 gF), (.int .u64 vb), (.int .i64 w5)] 205 (0, 0)) fun gN nJ =>
  bk Tryz.prog (Go.Builtin.append_ #[65, 65] 65 #[(.slice A5 k6 k7), (.slice (some ⟨gN, 0, none⟩) 1 1)]) nJ (fun v25 xY =>
  aF (some v25) fun BI gV gk =>
  ∃ jg : Nat, (jg < k3) ∧
  I1 jg [(.slice BI gV gk)] xY) Kp) Kp)
  (K (.slice A5 k6 k7) M8))
 (K (.slice A5 k6 k7) M8)) :
 ae Tryz.prog 89 ([.pointer (some ⟨b0, o0, none⟩), .int .u64 x1] : List Value).toArray M K Kp :=
 fe (C := Cx) good [(2000000, .loop [(5, .c .sl)])] Tryz.func89 (by kernel_rfl) (by kernel_rfl) h
theorem uq {b0 o0 : Nat} {x1 : Int} (h :
rS M b0 (o0 + 4) fun A1 k2 k3 =>
((0 : Int) ≤ x1) ∧
((x1 : Int) < k2) ∧
aE A1 fun k4 k5 =>
rP M k4 (k5 + (Int.toNat x1)) fun A6 =>
aE A6 fun k7 k8 =>
sT M k7 k8 (iV 1) fun M9 =>
rS M9 b0 (o0 + 13) fun Le eo gI =>
aO M9 (cl [(iV x1)] 3) fun eu ql =>
aA 38 Le eo gI (some ⟨eu, 0, none⟩) 1 1 ql (fun By gj =>
aF (some By) fun AI fq jH =>
sT gj b0 (o0 + 13) (.slice AI fq jH) fun vC =>
K (.tuple #[]) vC) Kp) :
 ae Tryz.prog 90 #[.pointer (some ⟨b0, o0, none⟩), .int .i64 x1] M K Kp := vw [] Tryz.func90 h
theorem xk {b0 o0 : Nat} (h :
aO M (.cells #[] 205 (0, 0)) fun k1 M2 =>
aF (Mem.ld M2 ⟨b0, o0, none⟩) fun A3 k4 k5 =>
bk Tryz.prog (Go.Builtin.append_ #[65, 65] 65 #[(.slice (some ⟨k1, 0, none⟩) 0 0), (.slice A3 k4 k5)]) M2 (fun v6 M7 =>
aF (some v6) fun A8 k9 eB =>
aO M7 (.cells #[(.slice none 0 0), (.int .u64 0)] 162 (0, 0)) fun eo wJ =>
b7 wJ ⟨eo, 0, none⟩ (.slice A8 k9 eB) fun lG =>
b7 lG ⟨eo, (0 + 1), none⟩ (.int .u64 0) fun ql =>
∃ I15 : Nat → List Value → Mem → Prop, (∃ fx : Nat, I15 fx [(.slice none 0 0)] ql) ∧
∀ fT : Nat, ∀ junk18 : Nat → Value, ∀ Hx : Option Addr, ∀ fV : Nat, ∀ lH : Nat, ∀ c9 : Mem, (I15 fT [(.slice Hx fV lH)] c9) → aF (Mem.ld c9 ⟨eo, 0, none⟩) fun PG nW jJ =>
aM (decide ((((nW : Nat) : Int) : Int) > 0))
 (ae Tryz.prog 106 #[(.pointer (some ⟨eo, 0, none⟩)), (.int .i64 0)] c9 (fun v26 ng =>
 ∃ Ko : Int, ∃ yI : Int, ∃ xl : Int, (v26 = (.agg #[(.int .u64 Ko), (.int .u64 yI), (.int .i64 xl)])) ∧
 aO ng (.cells #[(.int .u64 Ko), (.int .u64 yI), (.int .i64 xl)] 205 (0, 0)) fun iM mR =>
 bk Tryz.prog (Go.Builtin.append_ #[65, 65] 65 #[(.slice Hx fV lH), (.slice (some ⟨iM, 0, none⟩) 1 1)]) mR (fun v33 qO =>
 aF (some v33) fun Rx nK qt =>
 ∃ fE : Nat, (fE < fT) ∧
 I15 fE [(.slice Rx nK qt)] qO) Kp) Kp)
 (K (.slice Hx fV lH) c9)) Kp) :
 ae Tryz.prog 61 ([.pointer (some ⟨b0, o0, none⟩)] : List Value).toArray M K Kp :=
 fe (C := Cx) good [(2000000, .loop [(4, .c .sl)])] Tryz.func61 (by kernel_rfl) (by kernel_rfl) h
theorem ur {b0 o0 : Nat} {dS : Int} {eD : Int} {eE : Int} {hO : Int} (h :
aO M (cl [(iV dS), (iV eD), (iV eE), (iV hO)] 34) fun k1 M2 =>
rI M2 k1 0 fun n3 =>
ae Tryz.prog 153 #[] M2 (fun v4 M5 =>
eI M5 k1 0 n3 ∧
bk Tryz.prog (Go.Instr.lookup 302 v4 (iV n3) true) M5 (fun v6 M7 =>
∃ v8 : Value, ∃ t9 : Bool, (v6 = (.tuple #[v8, (.bool t9)])) ∧
eI M7 k1 0 n3 ∧
aM t9
 (rI M7 b0 (o0 + 1) fun dI =>
 sT M7 b0 (o0 + 1) (iV (IntKind.wrap .i64 (dI + 1))) fun iQ =>
 bP iQ k1 0 fun hG m9 jD lj =>
 qc Cx v8 [(.pointer (some ⟨b0, o0, none⟩)), (.agg #[(iV hG), (iV m9), (iV jD), (iV lj)])] iQ (fun IC mW =>
 (IC = (.tuple #[])) ∧
 K (.bool t9) mW) Kp)
 (K (.bool t9) M7)) Kp) Kp) :
 ae Tryz.prog 121 #[.pointer (some ⟨b0, o0, none⟩), .agg #[.int .i64 dS, .int .i64 eD, .int .i64 eE, .int .i64 hO]] M K Kp := vw [(1, .bH [0, 0, 2, 7, 15, 31, 31, 63, 255] (sy [1] (.cS 2 (sy [0, 3, 4, 5, 6, 7, 8] .done))))] Tryz.func121 h
theorem qy {b0 o0 : Nat} {x1 : Int} {b2 o2 : Nat} {fN : Int} {fO : Int} {fP : Int} {fQ : Int} (h :
aO M (cl [(iV fN), (iV fO), (iV fP), (iV fQ)] 34) fun k1 M2 =>
bP M2 k1 0 fun n3 n4 n5 n6 =>
ae Tryz.prog 154 #[(.pointer (some ⟨b0, o0, none⟩)), (.agg #[(iV n3), (iV n4), (iV n5), (iV n6)])] M2 (fun v7 M8 =>
aF (some v7) fun A9 eB eo =>
rS M8 b0 (o0 + 6) fun m8 eu fB =>
ae Tryz.prog 155 #[(.slice A9 eB eo), (.slice m8 eu fB)] M8 (fun By gj =>
aF (some By) fun AI fq jH =>
aM ((fq : Int) == 0)
 (rI gj b2 (o2 + 1) fun gF =>
 sT gj b2 (o2 + 1) (iV (IntKind.wrap .i64 (gF + 1))) fun jI =>
 ae Tryz.prog 156 #[(.slice A9 eB eo)] jI (fun Lc mD =>
 ∃ qg : Int, ∃ t25 : Bool, (Lc = (.tuple #[(iV qg), (.bool t25)])) ∧
 aM t25
 (rI mD k1 3 fun Iw =>
 (0 ≤ Iw) ∧
 (Iw < 8) ∧
 sT mD b2 ((o2 + 2) + (Int.toNat Iw)) (iV qg) fun ng =>
 K (.tuple #[]) ng)
 (((0 : Int) ≤ 8) ∧
 ((8 : Int) ≤ 8) ∧
 ((0 : Int) ≤ 8) ∧
 ((8 : Int) ≤ 8) ∧
 ((0 : Int) ≤ 0) ∧
 ((0 : Int) ≤ 8) ∧
 rS mD b0 (o0 + 6) fun z5 gk jg =>
 ae Tryz.prog 157 #[(iV x1), (.slice A9 eB eo), (.slice (jt (some ⟨b2, (o2 + 2), none⟩) 0 8 1) 8 8), (.slice z5 gk jg)] mD (fun SP mR =>
 (SP = (.tuple #[])) ∧
 bP mR k1 0 fun kP vg yK tH =>
 ae Tryz.prog 158 #[(.pointer (some ⟨b0, o0, none⟩)), (iV x1), (.agg #[(iV kP), (iV vg), (iV yK), (iV tH)])] mR (fun v37 lB =>
 (v37 = (.tuple #[])) ∧
 K (.tuple #[]) lB) Kp) Kp)) Kp)
 (fa (Mem.ld gj ⟨b0, (o0 + 14), none⟩) fun v39 =>
 qc Cx v39 [(iV 3), (iV (fq : Int))] gj (fun S8 BJ =>
 bG (some S8) .i64 fun BL =>
 (0 ≤ BL) ∧
 (BL < fq) ∧
 aE AI fun jK zB =>
 rI BJ jK (zB + (Int.toNat BL)) fun uk =>
 rI BJ b2 (o2 + 1) fun ID =>
 sT BJ b2 (o2 + 1) (iV (IntKind.wrap .i64 (ID + 1))) fun w9 =>
 (0 ≤ uk) ∧
 (uk < eB) ∧
 aE A9 fun xZ mg =>
 eT w9 xZ (mg + ((Int.toNat uk) * 3)) fun Aa C3 S9 =>
 aO w9 tr fun j8 PI =>
 pA PI j8 (iV Aa) (iV C3) (iV S9) fun Hu =>
 rI Hu j8 0 fun Dg =>
 aM (Dg == 1)
 (rI Hu j8 1 fun Ip =>
 rI Hu j8 2 fun vA =>
 (0 ≤ vA) ∧
 (vA < 8) ∧
 rI Hu b2 ((o2 + 2) + (Int.toNat vA)) fun n61 =>
 ae Tryz.prog 159 #[(.pointer (some ⟨b0, o0, none⟩)), (iV Ip), (iV n61)] Hu (fun FJ FB =>
 dF (some FJ) fun t64 =>
 rI FB k1 3 fun Hv =>
 (0 ≤ Hv) ∧
 (Hv < 8) ∧
 sT FB b2 ((o2 + 2) + (Int.toNat Hv)) (iV uk) fun OC =>
 K (.tuple #[]) OC) Kp)
 (rI Hu j8 1 fun IE =>
 rI Hu j8 2 fun xe =>
 ae Tryz.prog 160 #[(.pointer (some ⟨b0, o0, none⟩)), (iV IE)] Hu (fun Lx Ry =>
 ∃ WD IF : Int, ∃ t73 : Bool, (Lx = (.tuple #[(iV WD), (iV IF), (.bool t73)])) ∧
 eI Ry j8 2 xe ∧
 (0 ≤ xe) ∧
 (xe < 8) ∧
 sT Ry b2 ((o2 + 2) + (Int.toNat xe)) (iV WD) fun Hz =>
 eI Hz j8 2 xe ∧
 rI Hz k1 3 fun SQ =>
 (0 ≤ SQ) ∧
 (SQ < 8) ∧
 sT Hz b2 ((o2 + 2) + (Int.toNat SQ)) (iV uk) fun Xg =>
 K (.tuple #[]) Xg) Kp)) Kp)) Kp) Kp) :
 ae Tryz.prog 122 #[.pointer (some ⟨b0, o0, none⟩), .int .i64 x1, .pointer (some ⟨b2, o2, none⟩), .agg #[.int .i64 fN, .int .i64 fO, .int .i64 fP, .int .i64 fQ]] M K Kp := vw [(7, .bH [0, 0, 2, 0, 1, 17, 63, 127] (sy [0, 1, 3, 4, 5, 2, 6, 7] .done)), (8, .bH [0, 0, 0, 4, 12, 28, 0, 64, 192, 448, 1023] (sy [0, 1, 2, 3, 4, 5, 6, 7, 8, 9, 10] .done)), (14, .bH [0, 0, 2, 0, 0, 16, 8, 72, 248, 504, 1023] (sy [0, 1, 3, 4, 6, 7, 2, 5, 8, 9, 10] .done)), (15, .bH [0, 0, 2, 0, 0, 16, 56, 120, 248, 248, 248, 1, 2049, 6655, 14847] (sy [0, 1, 3, 4, 11, 12, 5] (.cS 2 (sy [6, 7, 8, 9, 10, 13, 14] .done)))), (16, .bH [0, 0, 2, 0, 1, 17, 63, 127] (sy [0, 1, 3, 4, 5, 2, 6, 7] .done))] Tryz.func122 h
theorem uu {b0 o0 : Nat} {x1 : Int} {b2 o2 : Nat} {fN : Int} {fO : Int} {fP : Int} {fQ : Int} (h :
aO M (cl [(iV fN), (iV fO), (iV fP), (iV fQ)] 34) fun k1 M2 =>
fa (Mem.ld M2 ⟨b0, (o0 + 14), none⟩) fun v3 =>
rI M2 k1 2 fun n4 =>
qc Cx v3 [(iV 4), (iV n4)] M2 (fun v5 M6 =>
bG (some v5) .i64 fun n7 =>
rI M6 b2 (o2 + 1) fun n8 =>
sT M6 b2 (o2 + 1) (iV (IntKind.wrap .i64 (n8 + 1))) fun M9 =>
rI M9 k1 1 fun dI =>
(0 ≤ dI) ∧
(dI < 8) ∧
sT M9 b2 ((o2 + 2) + (Int.toNat dI)) (iV n7) fun iQ =>
K (.tuple #[]) iQ) Kp) :
 ae Tryz.prog 123 #[.pointer (some ⟨b0, o0, none⟩), .int .i64 x1, .pointer (some ⟨b2, o2, none⟩), .agg #[.int .i64 fN, .int .i64 fO, .int .i64 fP, .int .i64 fQ]] M K Kp := vw [(1, .bH [0, 1, 3, 7, 0, 16, 63, 127] (sy [0, 1, 2, 4, 3, 5, 6, 7] .done)), (3, .bH [0, 0, 2, 0, 1, 17, 63, 127] (sy [0, 1, 3, 4, 5, 2, 6, 7] .done))] Tryz.func123 h
theorem BM  (h :
aO M (.map #[] 0) fun k1 M2 =>
bJ Tryz.prog (Go.Instr.mapUpdate 261 (.map (some k1)) (iV 9) (.func (.func 161) #[] #[])) M2 (fun M3 =>
bJ Tryz.prog (Go.Instr.mapUpdate 261 (.map (some k1)) (iV 10) (.func (.func 162) #[] #[])) M3 (fun M4 =>
bJ Tryz.prog (Go.Instr.mapUpdate 261 (.map (some k1)) (iV 11) (.func (.func 163) #[] #[])) M4 (fun M5 =>
bJ Tryz.prog (Go.Instr.mapUpdate 261 (.map (some k1)) (iV 12) (.func (.func 164) #[] #[])) M5 (fun M6 =>
bJ Tryz.prog (Go.Instr.mapUpdate 261 (.map (some k1)) (iV 13) (.func (.func 165) #[] #[])) M6 (fun M7 =>
bJ Tryz.prog (Go.Instr.mapUpdate 261 (.map (some k1)) (iV 14) (.func (.func 166) #[] #[])) M7 (fun M8 =>
bJ Tryz.prog (Go.Instr.mapUpdate 261 (.map (some k1)) (iV 15) (.func (.func 167) #[] #[])) M8 (fun M9 =>
bJ Tryz.prog (Go.Instr.mapUpdate 261 (.map (some k1)) (iV 17) (.func (.func 168) #[] #[])) M9 (fun mV =>
bJ Tryz.prog (Go.Instr.mapUpdate 261 (.map (some k1)) (iV 18) (.func (.func 169) #[] #[])) mV (fun iQ =>
bJ Tryz.prog (Go.Instr.mapUpdate 261 (.map (some k1)) (iV 19) (.func (.func 170) #[] #[])) iQ (fun wJ =>
bJ Tryz.prog (Go.Instr.mapUpdate 261 (.map (some k1)) (iV 20) (.func (.func 171) #[] #[])) wJ (fun lG =>
bJ Tryz.prog (Go.Instr.mapUpdate 261 (.map (some k1)) (iV 22) (.func (.func 172) #[] #[])) lG (fun ql =>
K (.map (some k1)) ql) Kp) Kp) Kp) Kp) Kp) Kp) Kp) Kp) Kp) Kp) Kp) Kp) :
 ae Tryz.prog 124 #[] M K Kp := vw [] Tryz.func124 h
theorem uv {b0 o0 : Nat} {x1 : Int} (h :
aO M (.cells #[(.int .u64 0), (.int .u64 0), (.int .i64 0)] 205 (0, 0)) fun k1 M2 =>
aF (Mem.ld M2 ⟨b0, o0, none⟩) fun A3 k4 k5 =>
((0 : Int) ≤ x1) ∧
((x1 : Int) < ((k4 : Nat) : Int)) ∧
aE A3 fun k6 k7 =>
bG (Mem.ld M2 ⟨k6, (k7 + ((Int.toNat x1) * 3)), none⟩) .u64 fun n8 =>
bG (Mem.ld M2 ⟨k6, ((k7 + ((Int.toNat x1) * 3)) + 1), none⟩) .u64 fun n9 =>
bG (Mem.ld M2 ⟨k6, ((k7 + ((Int.toNat x1) * 3)) + 2), none⟩) .i64 fun dI =>
aO M2 (.cells #[(.int .u64 0), (.int .u64 0), (.int .i64 0)] 205 (0, 0)) fun eo wJ =>
b7 wJ ⟨eo, 0, none⟩ (.int .u64 n8) fun lG =>
b7 lG ⟨eo, (0 + 1), none⟩ (.int .u64 n9) fun ql =>
b7 ql ⟨eo, (0 + 2), none⟩ (.int .i64 dI) fun Dt =>
aF (Mem.ld Dt ⟨b0, o0, none⟩) fun Xl fT fq =>
ae Tryz.prog 136 #[(.pointer (some ⟨b0, o0, none⟩)), (.int .i64 x1), (.int .i64 (IntKind.wrap .i64 (((fT : Nat) : Int) - 1)))] Dt (fun PW vC =>
(PW = (.tuple #[])) ∧
aF (Mem.ld vC ⟨b0, o0, none⟩) fun CZ gi gN =>
((0 : Int) ≤ ((gN : Nat) : Int)) ∧
((((gN : Nat) : Int) : Int) ≤ ((gN : Nat) : Int)) ∧
((0 : Int) ≤ (IntKind.wrap .i64 (((fT : Nat) : Int) - 1))) ∧
(((IntKind.wrap .i64 (((fT : Nat) : Int) - 1)) : Int) ≤ ((gN : Nat) : Int)) ∧
((0 : Int) ≤ 0) ∧
((0 : Int) ≤ (IntKind.wrap .i64 (((fT : Nat) : Int) - 1))) ∧
b7 vC ⟨b0, o0, none⟩ (.slice (jt CZ 0 (Int.toNat ((gN : Nat) : Int)) 3) ((Int.toNat (IntKind.wrap .i64 (((fT : Nat) : Int) - 1))) - 0) ((Int.toNat ((gN : Nat) : Int)) - 0)) fun nJ =>
aM (decide ((x1 : Int) < (IntKind.wrap .i64 (((fT : Nat) : Int) - 1))))
 (ae Tryz.prog 137 #[(.pointer (some ⟨b0, o0, none⟩)), (.int .i64 x1)] nJ (fun v25 xY =>
 (v25 = (.tuple #[])) ∧
 ae Tryz.prog 138 #[(.pointer (some ⟨b0, o0, none⟩)), (.int .i64 x1)] xY (fun v27 Df =>
 (v27 = (.tuple #[])) ∧
 bG (Mem.ld Df ⟨eo, 0, none⟩) .u64 fun yI =>
 bG (Mem.ld Df ⟨eo, (0 + 1), none⟩) .u64 fun xl =>
 bG (Mem.ld Df ⟨eo, (0 + 2), none⟩) .i64 fun ry =>
 b7 Df ⟨k1, 0, none⟩ (.int .u64 yI) fun mR =>
 b7 mR ⟨k1, (0 + 1), none⟩ (.int .u64 xl) fun uf =>
 b7 uf ⟨k1, (0 + 2), none⟩ (.int .i64 ry) fun qO =>
 bG (Mem.ld qO ⟨k1, 0, none⟩) .u64 fun yK =>
 bG (Mem.ld qO ⟨k1, (0 + 1), none⟩) .u64 fun tH =>
 bG (Mem.ld qO ⟨k1, (0 + 2), none⟩) .i64 fun xU =>
 K (.agg #[(.int .u64 yK), (.int .u64 tH), (.int .i64 xU)]) qO) Kp) Kp)
 (bG (Mem.ld nJ ⟨eo, 0, none⟩) .u64 fun mE =>
 bG (Mem.ld nJ ⟨eo, (0 + 1), none⟩) .u64 fun yC =>
 bG (Mem.ld nJ ⟨eo, (0 + 2), none⟩) .i64 fun ni =>
 b7 nJ ⟨k1, 0, none⟩ (.int .u64 mE) fun BJ =>
 b7 BJ ⟨k1, (0 + 1), none⟩ (.int .u64 yC) fun OD =>
 b7 OD ⟨k1, (0 + 2), none⟩ (.int .i64 ni) fun xd =>
 bG (Mem.ld xd ⟨k1, 0, none⟩) .u64 fun yL =>
 bG (Mem.ld xd ⟨k1, (0 + 1), none⟩) .u64 fun uk =>
 bG (Mem.ld xd ⟨k1, (0 + 2), none⟩) .i64 fun ID =>
 K (.agg #[(.int .u64 yL), (.int .u64 uk), (.int .i64 ID)]) xd)) Kp) :
 ae Tryz.prog 106 ([.pointer (some ⟨b0, o0, none⟩), .int .i64 x1] : List Value).toArray M K Kp :=
 fe (C := Cx) good [] Tryz.func106 (by kernel_rfl) (by kernel_rfl) h
theorem BN  (h :
aO M (.map #[] 0) fun k1 M2 =>
bJ Tryz.prog (Go.Instr.mapUpdate 302 (.map (some k1)) (iV 0) (.func (.func 195) #[] #[])) M2 (fun M3 =>
bJ Tryz.prog (Go.Instr.mapUpdate 302 (.map (some k1)) (iV 1) (.func (.func 196) #[] #[])) M3 (fun M4 =>
bJ Tryz.prog (Go.Instr.mapUpdate 302 (.map (some k1)) (iV 2) (.func (.func 197) #[] #[])) M4 (fun M5 =>
bJ Tryz.prog (Go.Instr.mapUpdate 302 (.map (some k1)) (iV 3) (.func (.func 198) #[] #[])) M5 (fun M6 =>
bJ Tryz.prog (Go.Instr.mapUpdate 302 (.map (some k1)) (iV 4) (.func (.func 199) #[] #[])) M6 (fun M7 =>
bJ Tryz.prog (Go.Instr.mapUpdate 302 (.map (some k1)) (iV 5) (.func (.func 200) #[] #[])) M7 (fun M8 =>
bJ Tryz.prog (Go.Instr.mapUpdate 302 (.map (some k1)) (iV 6) (.func (.func 201) #[] #[])) M8 (fun M9 =>
bJ Tryz.prog (Go.Instr.mapUpdate 302 (.map (some k1)) (iV 7) (.func (.func 202) #[] #[])) M9 (fun mV =>
bJ Tryz.prog (Go.Instr.mapUpdate 302 (.map (some k1)) (iV 8) (.func (.func 203) #[] #[])) mV (fun iQ =>
K (.map (some k1)) iQ) Kp) Kp) Kp) Kp) Kp) Kp) Kp) Kp) Kp) :
 ae Tryz.prog 153 #[] M K Kp := vw [] Tryz.func153 h
theorem rN {b0 o0 : Nat} {dS : Int} {eD : Int} {eE : Int} {hO : Int} (h :
aO M (cl [(iV dS), (iV eD), (iV eE), (iV hO)] 34) fun k1 M2 =>
rS M2 b0 (o0 + 3) fun A3 k4 k5 =>
rI M2 k1 1 fun n6 =>
rI M2 k1 1 fun n7 =>
rI M2 k1 2 fun n8 =>
((0 : Int) ≤ k5) ∧
((k5 : Int) ≤ k5) ∧
((0 : Int) ≤ (IntKind.wrap .i64 (n7 + n8))) ∧
(((IntKind.wrap .i64 (n7 + n8)) : Int) ≤ (k5 : Int)) ∧
(0 ≤ n6) ∧
((n6 : Int) ≤ (IntKind.wrap .i64 (n7 + n8))) ∧
K (.slice (jt A3 (Int.toNat n6) (Int.toNat (k5 : Int)) 3) ((Int.toNat (IntKind.wrap .i64 (n7 + n8))) - (Int.toNat n6)) ((Int.toNat (k5 : Int)) - (Int.toNat n6))) M2) :
 ae Tryz.prog 154 #[.pointer (some ⟨b0, o0, none⟩), .agg #[.int .i64 dS, .int .i64 eD, .int .i64 eE, .int .i64 hO]] M K Kp := vw [(1, .bH [0, 1, 3, 7, 15, 0, 32, 0, 128, 0, 512, 1920, 4095, 8191] (sy [0, 1, 2, 3, 5, 7, 9, 4, 6, 8, 10, 11, 12, 13] .done))] Tryz.func154 h
theorem rO {b0 o0 : Nat} {x1 : Int} {oB : Int} {rH : Int} {oD : Int} {rJ : Int} (h :
aO M (cl [(iV oB), (iV rH), (iV oD), (iV rJ)] 34) fun k1 M2 =>
rS M2 b0 (o0 + 4) fun A3 k4 k5 =>
((0 : Int) ≤ x1) ∧
((x1 : Int) < k4) ∧
aE A3 fun k6 k7 =>
rP M2 k6 (k7 + (Int.toNat x1)) fun A8 =>
rS M2 b0 (o0 + 4) fun A9 eB eo =>
((0 : Int) ≤ x1) ∧
((x1 : Int) < eB) ∧
aE A9 fun gI eu =>
rP M2 gI (eu + (Int.toNat x1)) fun ue =>
aE A8 fun jy fx =>
bP M2 k1 0 fun kS kQ nX gF =>
sT M2 jy fx (iV 2) fun jI =>
((Mem.fX jI ⟨k1, 0, none⟩ 0 4) = some [(iV kS), (iV kQ), (iV nX), (iV gF)]) ∧
aE ue fun gi gN =>
sT jI gi (gN + 2) (iV kS) fun nJ =>
sT nJ gi ((gN + 2) + 1) (iV kQ) fun qo =>
sT qo gi ((gN + 2) + 2) (iV nX) fun xY =>
sT xY gi ((gN + 2) + 3) (iV gF) fun ng =>
((Mem.fX ng ⟨k1, 0, none⟩ 0 4) = some [(iV kS), (iV kQ), (iV nX), (iV gF)]) ∧
K (.tuple #[]) ng) :
 ae Tryz.prog 158 #[.pointer (some ⟨b0, o0, none⟩), .int .i64 x1, .agg #[.int .i64 oB, .int .i64 rH, .int .i64 oD, .int .i64 rJ]] M K Kp := vw [(1, .bH [0, 1, 3, 7, 0, 31, 63, 0, 128, 384, 896, 0, 3968, 8064, 0, 16383, 49151, 114687, 262143, 524287, 1048575] (sy [0, 1, 2, 4, 7, 8, 9, 11, 3, 5, 6, 10, 12, 13, 15, 16] (.cS 14 (sy [17, 18, 19, 20] .done))))] Tryz.func158 h
theorem vN {b0 o0 : Nat} {x1 : Int} {x2 : Int} (h :
rS M b0 (o0 + 6) fun A1 k2 k3 =>
((0 : Int) ≤ x1) ∧
((x1 : Int) < k2) ∧
aE A1 fun k4 k5 =>
rP M k4 (k5 + (Int.toNat x1)) fun A6 =>
ae Tryz.prog 207 #[(.pointer A6), (iV x2)] M (fun v7 M8 =>
∃ n9 dI lp : Int, ∃ t12 : Bool, ∃ m9 : Int, (v7 = (.tuple #[(.agg #[(iV n9), (iV dI), (iV lp)]), (.bool t12), (iV m9)])) ∧
aO M8 mb fun fB Dt =>
pA Dt fB (iV n9) (iV dI) (iV lp) fun lR =>
aM (m9 == 10)
 (Kp [{ v := (.iface 256 (iV (-1))), recovered := false }] lR)
 (aM t12
 (rI lR fB 0 fun nX =>
 rI lR fB 1 fun gF =>
 rI lR fB 2 fun vb =>
 ae Tryz.prog 208 #[(.pointer (some ⟨b0, o0, none⟩)), (.agg #[(iV nX), (iV gF), (iV vb)]), (iV 1)] lR (fun Lc mD =>
 (Lc = (.tuple #[])) ∧
 K (.bool (m9 == 0)) mD) Kp)
 (K (.bool (m9 == 0)) lR))) Kp) :
 ae Tryz.prog 159 #[.pointer (some ⟨b0, o0, none⟩), .int .i64 x1, .int .i64 x2] M K Kp := vw [] Tryz.func159 h
theorem vO {b0 o0 : Nat} {x1 : Int} (h :
rS M b0 (o0 + 6) fun A1 k2 k3 =>
((0 : Int) ≤ x1) ∧
((x1 : Int) < k2) ∧
aE A1 fun k4 k5 =>
rP M k4 (k5 + (Int.toNat x1)) fun A6 =>
ae Tryz.prog 209 #[(.pointer A6)] M (fun v7 M8 =>
∃ n9 : Int, ∃ t10 : Bool, ∃ lp hG m9 : Int, ∃ t14 : Bool, ∃ lj : Int, (v7 = (.tuple #[(.agg #[(iV n9), (.bool t10), (iV lp), (iV hG), (iV m9), (.bool t14)]), (iV lj)])) ∧
aO M8 pB fun fx mW =>
Rm mW fx (iV n9) (.bool t10) (iV lp) (iV hG) (iV m9) (.bool t14) fun mD =>
rB mD fx 5 fun t24 =>
aM t24
 (rI mD fx 2 fun yH =>
 rI mD fx (2 + 1) fun Iw =>
 rI mD fx (2 + 2) fun Ll =>
 ae Tryz.prog 210 #[(.pointer (some ⟨b0, o0, none⟩)), (.agg #[(iV yH), (iV Iw), (iV Ll)])] mD (fun PM pG =>
 (PM = (.tuple #[])) ∧
 rB pG fx 1 fun t30 =>
 aM t30
 (rI pG fx 0 fun ry =>
 K (.tuple #[(iV ry), (iV 1), (.bool true)]) pG)
 (K (.tuple #[(iV 0), (iV 0), (.bool (lj == 0))]) pG)) Kp)
 (rB mD fx 1 fun t32 =>
 aM t32
 (rI mD fx 0 fun kP =>
 K (.tuple #[(iV kP), (iV 1), (.bool true)]) mD)
 (K (.tuple #[(iV 0), (iV 0), (.bool (lj == 0))]) mD))) Kp) :
 ae Tryz.prog 160 #[.pointer (some ⟨b0, o0, none⟩), .int .i64 x1] M K Kp := vw [] Tryz.func160 h
theorem uw {b0 o0 : Nat} {x1 : Int} {b2 o2 : Nat} {fN : Int} {fO : Int} {fP : Int} {fQ : Int} (h :
aO M (cl [(iV fN), (iV fO), (iV fP), (iV fQ)] 34) fun k1 M2 =>
rS M2 b0 (o0 + 4) fun A3 k4 k5 =>
((0 : Int) ≤ x1) ∧
((x1 : Int) < k4) ∧
aE A3 fun k6 k7 =>
rP M2 k6 (k7 + (Int.toNat x1)) fun A8 =>
aE A8 fun k9 eB =>
rS M2 k9 (eB + 1) fun FO gI eu =>
rI M2 k1 1 fun jD =>
rI M2 k1 2 fun lj =>
(0 ≤ lj) ∧
(lj < 8) ∧
rI M2 b2 ((o2 + 2) + (Int.toNat lj)) fun nI =>
rI M2 k1 3 fun kS =>
ae Tryz.prog 211 #[(.slice FO gI eu), (iV jD), (iV nI), (iV kS)] M2 (fun FA m7 =>
∃ Xm : Option Addr, ∃ lH gi : Nat, ∃ t23 : Bool, (FA = (.tuple #[(.slice Xm lH gi), (.bool t23)])) ∧
aM (!t23)
 (Kp [{ v := (.iface 256 (iV (-4))), recovered := false }] m7)
 (rS m7 b0 (o0 + 4) fun CW jJ gM =>
 ((0 : Int) ≤ x1) ∧
 ((x1 : Int) < jJ) ∧
 aE CW fun kK gV =>
 rP m7 kK (gV + (Int.toNat x1)) fun A29 =>
 aE A29 fun jg iM =>
 sT m7 jg (iM + 1) (.slice Xm lH gi) fun mR =>
 K (.tuple #[]) mR)) Kp) :
 ae Tryz.prog 161 #[.pointer (some ⟨b0, o0, none⟩), .int .i64 x1, .pointer (some ⟨b2, o2, none⟩), .agg #[.int .i64 fN, .int .i64 fO, .int .i64 fP, .int .i64 fQ]] M K Kp := vw [(1, .bH [0, 1, 3, 7, 0, 31, 63, 127, 255, 511, 0, 1024, 0, 0, 8192, 4096, 36864, 126976, 258048, 0, 524288, 2097151, 4194303, 8388607, 8388607, 16777215, 67108863] (sy [0, 1, 2, 4, 10, 12, 13, 15, 16, 19, 3, 5, 6, 7, 8, 9, 11, 14, 17, 18, 20, 21, 22, 23, 24, 25, 26] .done))] Tryz.func161 h
theorem ux {b0 o0 : Nat} {x1 : Int} {b2 o2 : Nat} {fN : Int} {fO : Int} {fP : Int} {fQ : Int} (h :
aO M (cl [(iV fN), (iV fO), (iV fP), (iV fQ)] 34) fun k1 M2 =>
rS M2 b0 (o0 + 4) fun A3 k4 k5 =>
((0 : Int) ≤ x1) ∧
((x1 : Int) < k4) ∧
aE A3 fun k6 k7 =>
rP M2 k6 (k7 + (Int.toNat x1)) fun A8 =>
aE A8 fun k9 eB =>
rS M2 k9 (eB + 1) fun FO gI eu =>
rI M2 k1 1 fun jD =>
(0 ≤ jD) ∧
(jD < 8) ∧
rI M2 b2 ((o2 + 2) + (Int.toNat jD)) fun lj =>
ae Tryz.prog 212 #[(.slice FO gI eu), (iV lj)] M2 (fun IC mW =>
∃ Lt : Option Addr, ∃ jH fV : Nat, ∃ t21 : Bool, (IC = (.tuple #[(.slice Lt jH fV), (.bool t21)])) ∧
aM t21
 (rS mW b0 (o0 + 4) fun Ly gN nW =>
 ((0 : Int) ≤ x1) ∧
 ((x1 : Int) < gN) ∧
 aE Ly fun jJ gM =>
 rP mW jJ (gM + (Int.toNat x1)) fun BI =>
 aE BI fun gV gk =>
 sT mW gV (gk + 1) (.slice Lt jH fV) fun wH =>
 K (.tuple #[]) wH)
 (rS mW b0 (o0 + 4) fun Io iy lz =>
 ((0 : Int) ≤ x1) ∧
 ((x1 : Int) < iy) ∧
 aE Io fun mS kD =>
 rP mW mS (kD + (Int.toNat x1)) fun A36 =>
 aE A36 fun qt fE =>
 sT mW qt fE (iV 4) fun FE =>
 aM (x1 == 0)
 (sT FE b0 (o0 + 11) (iV 1) fun FP =>
 K (.tuple #[]) FP)
 (K (.tuple #[]) FE))) Kp) :
 ae Tryz.prog 162 #[.pointer (some ⟨b0, o0, none⟩), .int .i64 x1, .pointer (some ⟨b2, o2, none⟩), .agg #[.int .i64 fN, .int .i64 fO, .int .i64 fP, .int .i64 fQ]] M K Kp := vw [(1, .bH [0, 1, 3, 7, 0, 31, 63, 127, 255, 511, 0, 0, 2048, 1024, 9216, 31744, 64512, 131071, 262143, 524287, 524287, 1048575, 4194303] (sy [0, 1, 2, 4, 10, 11, 13, 14, 3, 5, 6, 7, 8, 9, 12, 15, 16, 17, 18, 19, 20, 21, 22] .done))] Tryz.func162 h
theorem rQ {b0 o0 : Nat} {x1 : Int} {b2 o2 : Nat} {fN : Int} {fO : Int} {fP : Int} {fQ : Int} (h :
aO M (cl [(iV fN), (iV fO), (iV fP), (iV fQ)] 34) fun k1 M2 =>
rS M2 b0 (o0 + 4) fun A3 k4 k5 =>
aM (decide ((k4 : Int) ≥ 100))
 (Kp [{ v := (.iface 256 (iV (-5))), recovered := false }] M2)
 (rS M2 b0 (o0 + 4) fun A6 k7 k8 =>
 ∃ J9 : List Value → Mem → Prop, (rI M2 k1 1 fun dI =>
 rI M2 k1 2 fun lp =>
 (0 ≤ lp) ∧
 (lp < 8) ∧
 rI M2 b2 ((o2 + 2) + (Int.toNat lp)) fun hG =>
 (rS M2 b0 (o0 + 4) fun zA fB jy =>
 ae Tryz.prog 71 #[(iV dI), (iV hG)] M2 (fun IC mW =>
 aF (some IC) fun Lt jH fV =>
 aO mW (cl [(iV 0), (.slice Lt jH fV), (iV 0), (iV 0), (iV 0), (iV 0)] 182) fun lH c9 =>
 aO c9 (cl [(.pointer (some ⟨lH, 0, none⟩))] 177) fun gN nJ =>
 aA 158 zA fB jy (some ⟨gN, 0, none⟩) 1 1 nJ (fun v25 xY =>
 aF (some v25) fun BI gV gk =>
 sT xY b0 (o0 + 4) (.slice BI gV gk) fun wH =>
 J9 [] wH) Kp) Kp) ∧
 (ae Tryz.prog 71 #[(iV dI), (iV hG)] M2 (fun SP mR =>
 aF (some SP) fun Kr mS kD =>
 rS mR b0 (o0 + 4) fun A36 qt fE =>
 aO mR (cl [(iV 0), (.slice Kr mS kD), (iV 0), (iV 0), (iV 0), (iV 0)] 182) fun lA FP =>
 aO FP (cl [(.pointer (some ⟨lA, 0, none⟩))] 177) fun nH OD =>
 aA 158 A36 qt fE (some ⟨nH, 0, none⟩) 1 1 OD (fun v43 qs =>
 aF (some v43) fun Lw me kj =>
 sT qs b0 (o0 + 4) (.slice Lw me kj) fun Ep =>
 J9 [] Ep) Kp) Kp) ∧
 True) ∧
 ∀ junk49 : Nat → Value, ∀ Ht : Mem, (J9 [] Ht) → ae Tryz.prog 90 #[(.pointer (some ⟨b0, o0, none⟩)), (iV (k7 : Int))] Ht (fun v51 ya =>
 (v51 = (.tuple #[])) ∧
 rI ya k1 3 fun Lz =>
 (0 ≤ Lz) ∧
 (Lz < 8) ∧
 sT ya b2 ((o2 + 2) + (Int.toNat Lz)) (iV (k7 : Int)) fun PI =>
 K (.tuple #[]) PI) Kp)) :
 ae Tryz.prog 163 #[.pointer (some ⟨b0, o0, none⟩), .int .i64 x1, .pointer (some ⟨b2, o2, none⟩), .agg #[.int .i64 fN, .int .i64 fO, .int .i64 fP, .int .i64 fQ]] M K Kp := vw [(4, .Pv [0, 0, 2, 6, 14, 0, 32, 0, 0, 256, 128, 1152, 3968, 8064, 16352, 32736, 65504, 131040, 262142, 524287, 1048575, 2097151] (sy [0, 1, 2, 3, 5, 7, 8, 10, 11, 6, 9, 12, 13] (.fork 4 (sy [14, 15, 16, 17, 18, 19, 20, 21] .done) (.fork 14 (sy [15, 4, 16, 17, 18, 19, 20, 21] .done) .dead))) []), (6, .bH [0, 0, 2, 0, 1, 17, 63, 127] (sy [0, 1, 3, 4, 5, 2, 6, 7] .done))] Tryz.func163 h
theorem rR {b0 o0 : Nat} {x1 : Int} {b2 o2 : Nat} {fN : Int} {fO : Int} {fP : Int} {fQ : Int} (h :
aO M (cl [(iV fN), (iV fO), (iV fP), (iV fQ)] 34) fun k1 M2 =>
K (.tuple #[]) M2) :
 ae Tryz.prog 164 #[.pointer (some ⟨b0, o0, none⟩), .int .i64 x1, .pointer (some ⟨b2, o2, none⟩), .agg #[.int .i64 fN, .int .i64 fO, .int .i64 fP, .int .i64 fQ]] M K Kp := vw [] Tryz.func164 h
theorem uy {b0 o0 : Nat} {x1 : Int} {b2 o2 : Nat} {fN : Int} {fO : Int} {fP : Int} {fQ : Int} (h :
aO M (cl [(iV fN), (iV fO), (iV fP), (iV fQ)] 34) fun k1 M2 =>
rI M2 k1 1 fun n3 =>
rI M2 k1 2 fun n4 =>
(0 ≤ n4) ∧
(n4 < 8) ∧
rI M2 b2 ((o2 + 2) + (Int.toNat n4)) fun n5 =>
ae Tryz.prog 159 #[(.pointer (some ⟨b0, o0, none⟩)), (iV n3), (iV n5)] M2 (fun v6 M7 =>
dF (some v6) fun t8 =>
aM (!t8)
 (rS M7 b0 (o0 + 6) fun A9 eB eo =>
 rI M7 k1 1 fun hG =>
 (0 ≤ hG) ∧
 (hG < eB) ∧
 aE A9 fun eu fB =>
 rP M7 eu (fB + (Int.toNat hG)) fun oW =>
 rI M7 k1 2 fun nI =>
 (0 ≤ nI) ∧
 (nI < 8) ∧
 rI M7 b2 ((o2 + 2) + (Int.toNat nI)) fun kS =>
 ae Tryz.prog 206 #[(.pointer oW), (.agg #[(iV x1), (iV 0), (iV kS)])] M7 (fun FA m7 =>
 (FA = (.tuple #[])) ∧
 bP m7 k1 0 fun gF vb w5 nY =>
 ae Tryz.prog 158 #[(.pointer (some ⟨b0, o0, none⟩)), (iV x1), (.agg #[(iV gF), (iV vb), (iV w5), (iV nY)])] m7 (fun v24 qo =>
 (v24 = (.tuple #[])) ∧
 K (.tuple #[]) qo) Kp) Kp)
 (K (.tuple #[]) M7)) Kp) :
 ae Tryz.prog 165 #[.pointer (some ⟨b0, o0, none⟩), .int .i64 x1, .pointer (some ⟨b2, o2, none⟩), .agg #[.int .i64 fN, .int .i64 fO, .int .i64 fP, .int .i64 fQ]] M K Kp := vw [(1, .bH [0, 0, 2, 0, 0, 16, 8, 72, 248, 504, 1023, 2047] (sy [0, 1, 3, 4, 6, 7, 2, 5, 8, 9, 10, 11] .done)), (2, .bH [0, 1, 3, 7, 0, 16, 63, 127, 0, 0, 0, 1024, 512, 4608, 15872, 32256, 65280, 131071] (sy [0, 1, 2, 4, 8, 9, 10, 12, 13, 3, 5, 6, 7, 11, 14, 15, 16, 17] .done))] Tryz.func165 h
theorem uz {b0 o0 : Nat} {x1 : Int} {b2 o2 : Nat} {fN : Int} {fO : Int} {fP : Int} {fQ : Int} (h :
aO M (cl [(iV fN), (iV fO), (iV fP), (iV fQ)] 34) fun k1 M2 =>
rI M2 k1 1 fun n3 =>
ae Tryz.prog 160 #[(.pointer (some ⟨b0, o0, none⟩)), (iV n3)] M2 (fun v4 M5 =>
∃ n6 n7 : Int, ∃ t8 : Bool, (v4 = (.tuple #[(iV n6), (iV n7), (.bool t8)])) ∧
aM (!t8)
 (rS M5 b0 (o0 + 6) fun A9 eB eo =>
 rI M5 k1 1 fun hG =>
 (0 ≤ hG) ∧
 (hG < eB) ∧
 aE A9 fun eu fB =>
 rP M5 eu (fB + (Int.toNat hG)) fun oW =>
 ae Tryz.prog 205 #[(.pointer oW), (.agg #[(iV x1), (iV 0), (iV 0)])] M5 (fun IC mW =>
 (IC = (.tuple #[])) ∧
 bP mW k1 0 fun kQ nX gF vb =>
 ae Tryz.prog 158 #[(.pointer (some ⟨b0, o0, none⟩)), (iV x1), (.agg #[(iV kQ), (iV nX), (iV gF), (iV vb)])] mW (fun Lc mD =>
 (Lc = (.tuple #[])) ∧
 K (.tuple #[]) mD) Kp) Kp)
 (rI M5 k1 2 fun qg =>
 (0 ≤ qg) ∧
 (qg < 8) ∧
 rI M5 k1 3 fun yH =>
 sT M5 b2 ((o2 + 2) + (Int.toNat qg)) (iV n6) fun xY =>
 eI xY k1 3 yH ∧
 (0 ≤ yH) ∧
 (yH < 8) ∧
 sT xY b2 ((o2 + 2) + (Int.toNat yH)) (iV n7) fun ng =>
 eI ng k1 3 yH ∧
 K (.tuple #[]) ng)) Kp) :
 ae Tryz.prog 166 #[.pointer (some ⟨b0, o0, none⟩), .int .i64 x1, .pointer (some ⟨b2, o2, none⟩), .agg #[.int .i64 fN, .int .i64 fO, .int .i64 fP, .int .i64 fQ]] M K Kp := vw [(3, .bH [0, 1, 3, 7, 0, 16, 63, 127, 0, 256, 1023] (sy [0, 1, 2, 4, 8, 9, 3, 5, 6, 7, 10] .done)), (5, .bH [0, 0, 2, 0, 0, 16, 0, 0, 1, 257, 839, 1863, 8, 4104, 16383, 32767] (sy [0, 1, 3, 4, 6, 7, 8, 9, 12, 13, 2, 10] (.cS 5 (sy [11, 14, 15] .done))))] Tryz.func166 h
theorem uA {b0 o0 : Nat} {x1 : Int} {b2 o2 : Nat} {fN : Int} {fO : Int} {fP : Int} {fQ : Int} (h :
aO M (cl [(iV fN), (iV fO), (iV fP), (iV fQ)] 34) fun k1 M2 =>
rS M2 b0 (o0 + 6) fun A3 k4 k5 =>
rI M2 k1 1 fun n6 =>
(0 ≤ n6) ∧
(n6 < k4) ∧
aE A3 fun k7 k8 =>
rP M2 k7 (k8 + (Int.toNat n6)) fun A9 =>
ae Tryz.prog 213 #[(.pointer A9)] M2 (fun v10 iQ =>
∃ m8 : Option Addr, ∃ eu fB : Nat, ∃ oW : Option Addr, ∃ fx fT : Nat, ∃ kQ : Int, (v10 = (.tuple #[(.slice m8 eu fB), (.slice oW fx fT), (iV kQ)])) ∧
aM (kQ != 0)
 (Kp [{ v := (.iface 256 (iV (-2))), recovered := false }] iQ)
 (aM (decide ((fx : Int) > 0))
 (Kp [{ v := (.iface 256 (iV (-1))), recovered := false }] iQ)
 (∃ I19 : IT, (∃ fV, I19 fV [(iV 0)] iQ) ∧
 ∀ (lH : Nat) (_ : Nat → Value) (nY : Int) (nJ : Mem), (I19 lH [(iV nY)] nJ) → aM (decide (nY < eu))
 ((0 ≤ nY) ∧
 (nY < eu) ∧
 aE m8 fun jJ gM =>
 eT nJ jJ (gM + ((Int.toNat nY) * 3)) fun Ll Ko yI =>
 aO nJ mb fun jg uj =>
 pA uj jg (iV Ll) (iV Ko) (iV yI) fun qO =>
 rS qO b0 (o0 + 4) fun Rx nK qt =>
 rI qO jg 0 fun mE =>
 (0 ≤ mE) ∧
 (mE < nK) ∧
 aE Rx fun lA va =>
 rP qO lA (va + (Int.toNat mE)) fun Ld =>
 aE Ld fun jC jK =>
 rI qO jC jK fun yL =>
 aM (yL == 2)
 (sT qO jg 2 (iV 0) fun IG =>
 eT IG jg 0 fun ID Dh FQ =>
 ae Tryz.prog 208 #[(.pointer (some ⟨b0, o0, none⟩)), (.agg #[(iV ID), (iV Dh), (iV FQ)]), (iV 0)] IG (fun Xd Ht =>
 (Xd = (.tuple #[])) ∧
 ∃ Hy : Nat, (Hy < lH) ∧
 I19 Hy [(iV (IntKind.wrap .i64 (nY + 1)))] Ht) Kp)
 (∃ pI : Nat, (pI < lH) ∧
 I19 pI [(iV (IntKind.wrap .i64 (nY + 1)))] qO))
 (K (.tuple #[]) nJ)))) Kp) :
 ae Tryz.prog 167 #[.pointer (some ⟨b0, o0, none⟩), .int .i64 x1, .pointer (some ⟨b2, o2, none⟩), .agg #[.int .i64 fN, .int .i64 fO, .int .i64 fP, .int .i64 fQ]] M K Kp := vw [(1, .bH [0, 1, 3, 7, 0, 16, 63, 127, 255, 511, 1023, 1023, 1023, 2047, 12287, 32767] (sy [0, 1, 2, 4, 3, 5, 6, 7, 8, 9, 10, 11, 12, 13, 14, 15] .done)), (2000001, .loop [(37, .c (.int .i64))]), (9, .bH [0, 1, 3, 7, 0, 16, 63, 127, 255, 511, 1023, 2047] (sy [0, 1, 2, 4, 3, 5, 6, 7, 8, 9, 10, 11] .done))] Tryz.func167 h
theorem rT {b0 o0 : Nat} {x1 : Int} {b2 o2 : Nat} {fN : Int} {fO : Int} {fP : Int} {fQ : Int} (h :
aO M (cl [(iV fN), (iV fO), (iV fP), (iV fQ)] 34) fun k1 M2 =>
rI M2 k1 1 fun n3 =>
(0 ≤ n3) ∧
(n3 < 8) ∧
rI M2 b2 ((o2 + 2) + (Int.toNat n3)) fun n4 =>
aM (decide (((if (1048576 : Int) < n4 then 1048576 else n4) : Int) > 0))
 (rU M2 b0 (o0 + 5) fun n5 =>
 ae Tryz.prog 214 #[(.pointer (some ⟨b0, (o0 + 8), none⟩)), (.int .u64 (IntKind.wrap .u64 (n5 + (IntKind.wrap .u64 (if (1048576 : Int) < n4 then 1048576 else n4))))), (iV x1)] M2 (fun v6 M7 =>
 bG (some v6) .u64 fun n8 =>
 rS M7 b0 (o0 + 4) fun A9 eB eo =>
 ((0 : Int) ≤ x1) ∧
 ((x1 : Int) < eB) ∧
 aE A9 fun gI eu =>
 rP M7 gI (eu + (Int.toNat x1)) fun ue =>
 aE ue fun jy fx =>
 sT M7 jy fx (iV 3) fun mW =>
 K (.tuple #[]) mW) Kp)
 (K (.tuple #[]) M2)) :
 ae Tryz.prog 168 #[.pointer (some ⟨b0, o0, none⟩), .int .i64 x1, .pointer (some ⟨b2, o2, none⟩), .agg #[.int .i64 fN, .int .i64 fO, .int .i64 fP, .int .i64 fQ]] M K Kp := vw [(1, .bH [0, 0, 2, 1, 9, 31, 63, 127, 255] (sy [0, 1, 3, 4, 2, 5, 6, 7, 8] .done)), (3, .bH [0, 1, 3, 0, 8, 24, 56, 0, 128, 504, 0, 2047] (sy [0, 1, 2, 3, 4, 5, 7, 8, 10, 6, 9, 11] .done))] Tryz.func168 h
theorem uB {b0 o0 : Nat} {x1 : Int} {b2 o2 : Nat} {fN : Int} {fO : Int} {fP : Int} {fQ : Int} (h :
aO M (cl [(iV fN), (iV fO), (iV fP), (iV fQ)] 34) fun k1 M2 =>
rS M2 b0 (o0 + 7) fun A3 k4 k5 =>
rI M2 k1 1 fun n6 =>
(0 ≤ n6) ∧
(n6 < k4) ∧
aE A3 fun k7 k8 =>
rP M2 k7 (k8 + (Int.toNat n6)) fun A9 =>
ae Tryz.prog 215 #[(.pointer A9), (iV x1)] M2 (fun v10 iQ =>
dF (some v10) fun t12 =>
aM (!t12)
 (rI iQ k1 0 fun m9 =>
 rI iQ k1 1 fun jD =>
 rI iQ k1 2 fun lj =>
 rI iQ k1 3 fun nI =>
 ae Tryz.prog 158 #[(.pointer (some ⟨b0, o0, none⟩)), (iV x1), (.agg #[(iV m9), (iV jD), (iV lj), (iV nI)])] iQ (fun Ta lR =>
 (Ta = (.tuple #[])) ∧
 K (.tuple #[]) lR) Kp)
 (K (.tuple #[]) iQ)) Kp) :
 ae Tryz.prog 169 #[.pointer (some ⟨b0, o0, none⟩), .int .i64 x1, .pointer (some ⟨b2, o2, none⟩), .agg #[.int .i64 fN, .int .i64 fO, .int .i64 fP, .int .i64 fQ]] M K Kp := vw [(1, .bH [0, 1, 3, 7, 0, 16, 63, 127, 0, 511, 1023] (sy [0, 1, 2, 4, 8, 3, 5, 6, 7, 9, 10] .done))] Tryz.func169 h
theorem qz {b0 o0 : Nat} {x1 : Int} {b2 o2 : Nat} {fN : Int} {fO : Int} {fP : Int} {fQ : Int} (h :
aO M (cl [(iV fN), (iV fO), (iV fP), (iV fQ)] 34) fun k1 M2 =>
rS M2 b0 (o0 + 7) fun A3 k4 k5 =>
rI M2 k1 1 fun n6 =>
(0 ≤ n6) ∧
(n6 < k4) ∧
aE A3 fun k7 k8 =>
rP M2 k7 (k8 + (Int.toNat n6)) fun A9 =>
ae Tryz.prog 216 #[(.pointer A9), (iV x1)] M2 (fun v10 iQ =>
∃ hG m9 : Int, (v10 = (.tuple #[(iV hG), (iV m9)])) ∧
aM (m9 != 0)
 (Kp [{ v := (.iface 256 (iV (-3))), recovered := false }] iQ)
 (aM (hG != (-1))
 (ae Tryz.prog 90 #[(.pointer (some ⟨b0, o0, none⟩)), (iV hG)] iQ (fun Xn Dt =>
 (Xn = (.tuple #[])) ∧
 K (.tuple #[]) Dt) Kp)
 (K (.tuple #[]) iQ))) Kp) :
 ae Tryz.prog 170 #[.pointer (some ⟨b0, o0, none⟩), .int .i64 x1, .pointer (some ⟨b2, o2, none⟩), .agg #[.int .i64 fN, .int .i64 fO, .int .i64 fP, .int .i64 fQ]] M K Kp := vw [(1, .bH [0, 1, 3, 7, 0, 16, 63, 127, 0, 511, 1023, 2047, 2047, 4095, 16383] (sy [0, 1, 2, 4, 8, 3, 5, 6, 7, 9, 10, 11, 12, 13, 14] .done))] Tryz.func170 h
theorem uC {b0 o0 : Nat} {x1 : Int} {b2 o2 : Nat} {fN : Int} {fO : Int} {fP : Int} {fQ : Int} (h :
aO M (cl [(iV fN), (iV fO), (iV fP), (iV fQ)] 34) fun k1 M2 =>
rS M2 b0 (o0 + 10) fun A3 k4 k5 =>
aM (decide ((k4 : Int) ≥ 1000))
 (Kp [{ v := (.iface 256 (iV (-6))), recovered := false }] M2)
 (rS M2 b0 (o0 + 10) fun A6 k7 k8 =>
 rI M2 k1 1 fun n9 =>
 (0 ≤ n9) ∧
 (n9 < 8) ∧
 rI M2 b2 ((o2 + 2) + (Int.toNat n9)) fun dI =>
 aO M2 (cl [(iV dI)] 2) fun eo wJ =>
 aA 59 A6 k7 k8 (some ⟨eo, 0, none⟩) 1 1 wJ (fun Kn ql =>
 aF (some Kn) fun oW fx fT =>
 sT ql b0 (o0 + 10) (.slice oW fx fT) fun lR =>
 K (.tuple #[]) lR) Kp)) :
 ae Tryz.prog 171 #[.pointer (some ⟨b0, o0, none⟩), .int .i64 x1, .pointer (some ⟨b2, o2, none⟩), .agg #[.int .i64 fN, .int .i64 fO, .int .i64 fP, .int .i64 fQ]] M K Kp := vw [(3, .bH [0, 0, 2, 6, 14, 0, 0, 64, 32, 288, 992, 2016, 4064, 8190, 16383, 32767, 65535] (sy [0, 1, 2, 3, 5, 6, 8, 9, 4, 7, 10, 11, 12, 13, 14, 15, 16] .done))] Tryz.func171 h
theorem uD {b0 o0 : Nat} {x1 : Int} {b2 o2 : Nat} {fN : Int} {fO : Int} {fP : Int} {fQ : Int} (h :
aO M (cl [(iV fN), (iV fO), (iV fP), (iV fQ)] 34) fun k1 M2 =>
rI M2 k1 1 fun n3 =>
Kp [{ v := (.iface 256 (iV n3)), recovered := false }] M2) :
 ae Tryz.prog 172 #[.pointer (some ⟨b0, o0, none⟩), .int .i64 x1, .pointer (some ⟨b2, o2, none⟩), .agg #[.int .i64 fN, .int .i64 fO, .int .i64 fP, .int .i64 fQ]] M K Kp := vw [] Tryz.func172 h
theorem xm {b0 o0 : Nat} {x1 : Int} {x2 : Int} (h :
aF (Mem.ld M ⟨b0, o0, none⟩) fun A1 k2 k3 =>
aF (Mem.ld M ⟨b0, o0, none⟩) fun A4 k5 k6 =>
aF (Mem.ld M ⟨b0, o0, none⟩) fun A7 k8 k9 =>
((0 : Int) ≤ x2) ∧
((x2 : Int) < ((k8 : Nat) : Int)) ∧
aE A7 fun eB eo =>
bG (Mem.ld M ⟨eB, (eo + ((Int.toNat x2) * 3)), none⟩) .u64 fun hG =>
bG (Mem.ld M ⟨eB, ((eo + ((Int.toNat x2) * 3)) + 1), none⟩) .u64 fun m9 =>
bG (Mem.ld M ⟨eB, ((eo + ((Int.toNat x2) * 3)) + 2), none⟩) .i64 fun jD =>
aF (Mem.ld M ⟨b0, o0, none⟩) fun oW fx fT =>
((0 : Int) ≤ x1) ∧
((x1 : Int) < ((fx : Nat) : Int)) ∧
aE oW fun fq jH =>
bG (Mem.ld M ⟨fq, (jH + ((Int.toNat x1) * 3)), none⟩) .u64 fun gF =>
bG (Mem.ld M ⟨fq, ((jH + ((Int.toNat x1) * 3)) + 1), none⟩) .u64 fun vb =>
bG (Mem.ld M ⟨fq, ((jH + ((Int.toNat x1) * 3)) + 2), none⟩) .i64 fun w5 =>
((0 : Int) ≤ x1) ∧
((x1 : Int) < ((k2 : Nat) : Int)) ∧
aE A1 fun gN nW =>
b7 M ⟨gN, (nW + ((Int.toNat x1) * 3)), none⟩ (.int .u64 hG) fun qo =>
b7 qo ⟨gN, ((nW + ((Int.toNat x1) * 3)) + 1), none⟩ (.int .u64 m9) fun xY =>
b7 xY ⟨gN, ((nW + ((Int.toNat x1) * 3)) + 2), none⟩ (.int .i64 jD) fun ng =>
((0 : Int) ≤ x2) ∧
((x2 : Int) < ((k5 : Nat) : Int)) ∧
aE A4 fun gV gk =>
b7 ng ⟨gV, (gk + ((Int.toNat x2) * 3)), none⟩ (.int .u64 gF) fun wH =>
b7 wH ⟨gV, ((gk + ((Int.toNat x2) * 3)) + 1), none⟩ (.int .u64 vb) fun uj =>
b7 uj ⟨gV, ((gk + ((Int.toNat x2) * 3)) + 2), none⟩ (.int .i64 w5) fun mR =>
K (.tuple #[]) mR) :
 ae Tryz.prog 136 ([.pointer (some ⟨b0, o0, none⟩), .int .i64 x1, .int .i64 x2] : List Value).toArray M K Kp :=
 fe (C := Cx) good [(0, .bH [0, 1, 3, 7, 0, 0, 32, 96, 224, 0, 0, 1024, 3072, 7168, 0, 31744, 64512, 0, 131072, 393216, 917504, 0, 4063232, 8257536, 16776703, 33553919, 67108863, 134217727] (.step 0 (.step 1 (.step 2 (.step 4 (.step 5 (.step 6 (.step 7 (.step 9 (.step 10 (.step 11 (.step 12 (.step 14 (.step 17 (.step 18 (.step 19 (.step 21 (.step 3 (.step 8 (.step 13 (.step 15 (.step 16 (.step 20 (.step 22 (.step 23 (.step 24 (.step 25 (.step 26 (.step 27 .done)))))))))))))))))))))))))))))] Tryz.func136 (by kernel_rfl) (by kernel_rfl) h
theorem xn {b0 o0 : Nat} {x1 : Int} (h :
ae Tryz.prog 185 #[(.pointer (some ⟨b0, o0, none⟩)), (iV x1)] M (fun v1 M2 =>
bG (some v1) .i64 fun n3 =>
∃ I4 : IT, (∃ k5, I4 k5 [(iV x1), (iV n3)] M2) ∧
∀ (k6 : Nat) (_ : Nat → Value) (n8 : Int) (n9 : Int) (mV : Mem), (I4 k6 [(iV n8), (iV n9)] mV) → aM (n9 != n8)
 (ae Tryz.prog 136 #[(.pointer (some ⟨b0, o0, none⟩)), (iV n8), (iV n9)] mV (fun v11 wJ =>
 (v11 = (.tuple #[])) ∧
 ae Tryz.prog 185 #[(.pointer (some ⟨b0, o0, none⟩)), (iV n9)] wJ (fun Kn ql =>
 bG (some Kn) .i64 fun lj =>
 ∃ fx : Nat, (fx < k6) ∧
 I4 fx [(iV n9), (iV lj)] ql) Kp) Kp)
 (K (.tuple #[]) mV)) Kp) :
 ae Tryz.prog 137 #[.pointer (some ⟨b0, o0, none⟩), .int .i64 x1] M K Kp := vw [(2000000, .loop [(1, .c (.int .i64)), (4, .c (.int .i64))])] Tryz.func137 h
theorem Ad {b0 o0 : Nat} {x1 : Int} (h :
∃ I1 : Nat → List Value → Mem → Prop, (∃ k2 : Nat, I1 k2 [(.int .i64 x1)] M) ∧
∀ k3 : Nat, ∀ ZT : Nat → Value, ∀ n5 : Int, ∀ M6 : Mem, (I1 k3 [(.int .i64 n5)] M6) → aM (decide ((n5 : Int) > 0))
 (((4 : Int) ≠ 0) ∧
 aF (Mem.ld M6 ⟨b0, o0, none⟩) fun A7 k8 k9 =>
 ((0 : Int) ≤ n5) ∧
 ((n5 : Int) < ((k8 : Nat) : Int)) ∧
 aE A7 fun eB eo =>
 bG (Mem.ld M6 ⟨eB, (eo + ((Int.toNat n5) * 3)), none⟩) .u64 fun hG =>
 bG (Mem.ld M6 ⟨eB, ((eo + ((Int.toNat n5) * 3)) + 1), none⟩) .u64 fun m9 =>
 bG (Mem.ld M6 ⟨eB, ((eo + ((Int.toNat n5) * 3)) + 2), none⟩) .i64 fun jD =>
 aF (Mem.ld M6 ⟨b0, o0, none⟩) fun oW fx fT =>
 ((0 : Int) ≤ (IntKind.wrap .i64 (Int.tdiv (IntKind.wrap .i64 (n5 - 1)) 4))) ∧
 (((IntKind.wrap .i64 (Int.tdiv (IntKind.wrap .i64 (n5 - 1)) 4)) : Int) < ((fx : Nat) : Int)) ∧
 aE oW fun fq jH =>
 bG (Mem.ld M6 ⟨fq, (jH + ((Int.toNat (IntKind.wrap .i64 (Int.tdiv (IntKind.wrap .i64 (n5 - 1)) 4))) * 3)), none⟩) .u64 fun gF =>
 bG (Mem.ld M6 ⟨fq, ((jH + ((Int.toNat (IntKind.wrap .i64 (Int.tdiv (IntKind.wrap .i64 (n5 - 1)) 4))) * 3)) + 1), none⟩) .u64 fun vb =>
 bG (Mem.ld M6 ⟨fq, ((jH + ((Int.toNat (IntKind.wrap .i64 (Int.tdiv (IntKind.wrap .i64 (n5 - 1)) 4))) * 3)) + 2), none⟩) .i64 fun w5 =>
 ae Tryz.prog 186 #[(.agg #[(.int .u64 hG), (.int .u64 m9), (.int .i64 jD)]), (.agg #[(.int .u64 gF), (.int .u64 vb), (.int .i64 w5)])] M6 (fun v23 nJ =>
 dF (some v23) fun t25 =>
 aM t25
  (((4 : Int) ≠ 0) ∧
  ae Tryz.prog 136 #[(.pointer (some ⟨b0, o0, none⟩)), (.int .i64 n5), (.int .i64 (IntKind.wrap .i64 (Int.tdiv (IntKind.wrap .i64 (n5 - 1)) 4)))] nJ (fun v26 ng =>
  (v26 = (.tuple #[])) ∧
  ((4 : Int) ≠ 0) ∧
  ∃ gV : Nat, (gV < k3) ∧
  I1 gV [(.int .i64 (IntKind.wrap .i64 (Int.tdiv (IntKind.wrap .i64 (n5 - 1)) 4)))] ng) Kp)
  (K (.tuple #[]) nJ)) Kp)
 (K (.tuple #[]) M6)) :
 ae Tryz.prog 138 ([.pointer (some ⟨b0, o0, none⟩), .int .i64 x1] : List Value).toArray M K Kp :=
 fe (C := Cx) good [(2000000, .loop [(1, .c (.int .i64))]), (0, .bH [0, 1, 3, 7, 15, 31, 63, 7, 255, 511, 7, 1031, 3079, 7175, 7, 16391, 49159, 130055, 261127, 524287, 1048575] (.step 0 (.step 1 (.step 2 (.step 3 (.step 4 (.step 5 (.step 7 (.step 10 (.step 11 (.step 12 (.step 14 (.step 15 (.step 16 (.step 6 (.step 8 (.step 9 (.step 13 (.step 17 (.step 18 (.step 19 (.step 20 .done))))))))))))))))))))))] Tryz.func138 (by kernel_rfl) (by kernel_rfl) h
theorem vP {b0 o0 : Nat} {dS : Int} {eD : Int} {eE : Int} {hO : Int} (h :
aO M (cl [(iV dS), (iV eD), (iV eE), (iV hO)] 34) fun k1 M2 =>
K (.tuple #[]) M2) :
 ae Tryz.prog 195 #[.pointer (some ⟨b0, o0, none⟩), .agg #[.int .i64 dS, .int .i64 eD, .int .i64 eE, .int .i64 hO]] M K Kp := vw [] Tryz.func195 h
theorem oF {b0 o0 : Nat} {dS : Int} {eD : Int} {eE : Int} {hO : Int} (h :
aO M (cl [(iV dS), (iV eD), (iV eE), (iV hO)] 34) fun k1 M2 =>
rI M2 k1 1 fun n3 =>
rI M2 k1 2 fun n4 =>
(0 ≤ n3) ∧
(n3 < 8) ∧
sT M2 b0 ((o0 + 2) + (Int.toNat n3)) (iV n4) fun M5 =>
K (.tuple #[]) M5) :
 ae Tryz.prog 196 #[.pointer (some ⟨b0, o0, none⟩), .agg #[.int .i64 dS, .int .i64 eD, .int .i64 eE, .int .i64 hO]] M K Kp := vw [(1, .bH [0, 0, 2, 0, 8, 1, 33, 127, 255] (sy [0, 1, 3, 5, 6, 2, 4, 7, 8] .done))] Tryz.func196 h
theorem uE {b0 o0 : Nat} {dS : Int} {eD : Int} {eE : Int} {hO : Int} (h :
aO M (cl [(iV dS), (iV eD), (iV eE), (iV hO)] 34) fun k1 M2 =>
rI M2 k1 1 fun n3 =>
rI M2 k1 2 fun n4 =>
(0 ≤ n4) ∧
(n4 < 8) ∧
rI M2 b0 ((o0 + 2) + (Int.toNat n4)) fun n5 =>
(0 ≤ n3) ∧
(n3 < 8) ∧
sT M2 b0 ((o0 + 2) + (Int.toNat n3)) (iV n5) fun M6 =>
K (.tuple #[]) M6) :
 ae Tryz.prog 197 #[.pointer (some ⟨b0, o0, none⟩), .agg #[.int .i64 dS, .int .i64 eD, .int .i64 eE, .int .i64 hO]] M K Kp := vw [(1, .bH [0, 0, 2, 0, 0, 16, 8, 72, 248, 504, 1, 1025, 4095, 8191] (sy [0, 1, 3, 4, 6, 7, 10, 11, 2, 5, 8, 9, 12, 13] .done))] Tryz.func197 h
theorem vQ {b0 o0 : Nat} {dS : Int} {eD : Int} {eE : Int} {hO : Int} (h :
aO M (cl [(iV dS), (iV eD), (iV eE), (iV hO)] 34) fun k1 M2 =>
rI M2 k1 1 fun n3 =>
rI M2 k1 2 fun n4 =>
(0 ≤ n4) ∧
(n4 < 8) ∧
rI M2 b0 ((o0 + 2) + (Int.toNat n4)) fun n5 =>
rI M2 k1 3 fun n6 =>
(0 ≤ n6) ∧
(n6 < 8) ∧
rI M2 b0 ((o0 + 2) + (Int.toNat n6)) fun n7 =>
(0 ≤ n3) ∧
(n3 < 8) ∧
sT M2 b0 ((o0 + 2) + (Int.toNat n3)) (iV (IntKind.wrap .i64 (n5 + n7))) fun M8 =>
K (.tuple #[]) M8) :
 ae Tryz.prog 198 #[.pointer (some ⟨b0, o0, none⟩), .agg #[.int .i64 dS, .int .i64 eD, .int .i64 eE, .int .i64 hO]] M K Kp := vw [(1, .bH [0, 0, 2, 0, 0, 16, 8, 72, 248, 504, 0, 0, 2048, 1024, 9216, 31744, 64512, 131064, 1, 262145, 1048575, 2097151] (sy [0, 1, 3, 4, 6, 7, 10, 11, 13, 14, 18, 19, 2, 5, 8, 9, 12, 15, 16, 17, 20, 21] .done))] Tryz.func198 h
theorem vR {b0 o0 : Nat} {dS : Int} {eD : Int} {eE : Int} {hO : Int} (h :
aO M (cl [(iV dS), (iV eD), (iV eE), (iV hO)] 34) fun k1 M2 =>
rI M2 k1 1 fun n3 =>
rI M2 k1 2 fun n4 =>
(0 ≤ n4) ∧
(n4 < 8) ∧
rI M2 b0 ((o0 + 2) + (Int.toNat n4)) fun n5 =>
rI M2 k1 3 fun n6 =>
(0 ≤ n6) ∧
(n6 < 8) ∧
rI M2 b0 ((o0 + 2) + (Int.toNat n6)) fun n7 =>
(0 ≤ n3) ∧
(n3 < 8) ∧
sT M2 b0 ((o0 + 2) + (Int.toNat n3)) (iV (IntKind.wrap .i64 (n5 - n7))) fun M8 =>
K (.tuple #[]) M8) :
 ae Tryz.prog 199 #[.pointer (some ⟨b0, o0, none⟩), .agg #[.int .i64 dS, .int .i64 eD, .int .i64 eE, .int .i64 hO]] M K Kp := vw [(1, .bH [0, 0, 2, 0, 0, 16, 8, 72, 248, 504, 0, 0, 2048, 1024, 9216, 31744, 64512, 131064, 1, 262145, 1048575, 2097151] (sy [0, 1, 3, 4, 6, 7, 10, 11, 13, 14, 18, 19, 2, 5, 8, 9, 12, 15, 16, 17, 20, 21] .done))] Tryz.func199 h
theorem vS {b0 o0 : Nat} {dS : Int} {eD : Int} {eE : Int} {hO : Int} (h :
aO M (cl [(iV dS), (iV eD), (iV eE), (iV hO)] 34) fun k1 M2 =>
rI M2 k1 1 fun n3 =>
rI M2 k1 2 fun n4 =>
(0 ≤ n4) ∧
(n4 < 8) ∧
rI M2 b0 ((o0 + 2) + (Int.toNat n4)) fun n5 =>
rI M2 k1 3 fun n6 =>
(0 ≤ n6) ∧
(n6 < 8) ∧
rI M2 b0 ((o0 + 2) + (Int.toNat n6)) fun n7 =>
(0 ≤ n3) ∧
(n3 < 8) ∧
sT M2 b0 ((o0 + 2) + (Int.toNat n3)) (iV (IntKind.wrap .i64 (n5 * n7))) fun M8 =>
K (.tuple #[]) M8) :
 ae Tryz.prog 200 #[.pointer (some ⟨b0, o0, none⟩), .agg #[.int .i64 dS, .int .i64 eD, .int .i64 eE, .int .i64 hO]] M K Kp := vw [(1, .bH [0, 0, 2, 0, 0, 16, 8, 72, 248, 504, 0, 0, 2048, 1024, 9216, 31744, 64512, 131064, 1, 262145, 1048575, 2097151] (sy [0, 1, 3, 4, 6, 7, 10, 11, 13, 14, 18, 19, 2, 5, 8, 9, 12, 15, 16, 17, 20, 21] .done))] Tryz.func200 h
theorem uF {b0 o0 : Nat} {dS : Int} {eD : Int} {eE : Int} {hO : Int} (h :
aO M (cl [(iV dS), (iV eD), (iV eE), (iV hO)] 34) fun k1 M2 =>
rI M2 k1 2 fun n3 =>
(0 ≤ n3) ∧
(n3 < 8) ∧
rI M2 b0 ((o0 + 2) + (Int.toNat n3)) fun n4 =>
rI M2 k1 3 fun n5 =>
(0 ≤ n5) ∧
(n5 < 8) ∧
rI M2 b0 ((o0 + 2) + (Int.toNat n5)) fun n6 =>
rI M2 k1 1 fun n7 =>
(0 ≤ n7) ∧
(n7 < 8) ∧
sT M2 b0 ((o0 + 2) + (Int.toNat n7)) (iV 0) fun M8 =>
aM (decide (n4 < n6))
 (rI M8 k1 1 fun n9 =>
 (0 ≤ n9) ∧
 (n9 < 8) ∧
 sT M8 b0 ((o0 + 2) + (Int.toNat n9)) (iV 1) fun mV =>
 K (.tuple #[]) mV)
 (K (.tuple #[]) M8)) :
 ae Tryz.prog 201 #[.pointer (some ⟨b0, o0, none⟩), .agg #[.int .i64 dS, .int .i64 eD, .int .i64 eE, .int .i64 hO]] M K Kp := vw [(1, .bH [0, 0, 2, 1, 9, 31, 63, 0, 0, 256, 128, 1152, 3968, 8064, 16383, 32767] (sy [0, 1, 3, 4, 7, 8, 10, 11, 2, 5, 6, 9, 12, 13, 14, 15] .done)), (2, .bH [0, 0, 2, 1, 9, 31, 63] (sy [0, 1, 3, 4, 2, 5, 6] .done)), (4, .bH [0, 0, 2, 1, 9, 31, 63] (sy [0, 1, 3, 4, 2, 5, 6] .done))] Tryz.func201 h
theorem uG {b0 o0 : Nat} {dS : Int} {eD : Int} {eE : Int} {hO : Int} (h :
aO M (cl [(iV dS), (iV eD), (iV eE), (iV hO)] 34) fun k1 M2 =>
rI M2 k1 1 fun n3 =>
sT M2 b0 (o0 + 1) (iV n3) fun M4 =>
K (.tuple #[]) M4) :
 ae Tryz.prog 202 #[.pointer (some ⟨b0, o0, none⟩), .agg #[.int .i64 dS, .int .i64 eD, .int .i64 eE, .int .i64 hO]] M K Kp := vw [] Tryz.func202 h
theorem qA {b0 o0 : Nat} {dS : Int} {eD : Int} {eE : Int} {hO : Int} (h :
aO M (cl [(iV dS), (iV eD), (iV eE), (iV hO)] 34) fun k1 M2 =>
rI M2 k1 1 fun n3 =>
(0 ≤ n3) ∧
(n3 < 8) ∧
rI M2 b0 ((o0 + 2) + (Int.toNat n3)) fun n4 =>
aM (n4 != 0)
 (rI M2 k1 2 fun n5 =>
 sT M2 b0 (o0 + 1) (iV n5) fun M6 =>
 K (.tuple #[]) M6)
 (K (.tuple #[]) M2)) :
 ae Tryz.prog 203 #[.pointer (some ⟨b0, o0, none⟩), .agg #[.int .i64 dS, .int .i64 eD, .int .i64 eE, .int .i64 hO]] M K Kp := vw [(1, .bH [0, 0, 2, 1, 9, 31, 63, 127] (sy [0, 1, 3, 4, 2, 5, 6, 7] .done))] Tryz.func203 h
theorem oG {b0 o0 : Nat} {dS : Int} {eD : Int} {eE : Int} {x2 : Int} (h :
aO M (cl [(iV dS), (iV eD), (iV eE)] 298) fun k1 M2 =>
rS M2 b0 (o0 + 4) fun A3 k4 k5 =>
rI M2 k1 0 fun n6 =>
(0 ≤ n6) ∧
(n6 < k4) ∧
aE A3 fun k7 k8 =>
rP M2 k7 (k8 + (Int.toNat n6)) fun A9 =>
aE A9 fun eB eo =>
rS M2 eB (eo + 1) fun m8 eu fB =>
rS M2 b0 (o0 + 4) fun oW fx fT =>
rI M2 k1 0 fun kQ =>
(0 ≤ kQ) ∧
(kQ < fx) ∧
aE oW fun jH fV =>
rP M2 jH (fV + (Int.toNat kQ)) fun CZ =>
aE CZ fun gi gN =>
bP M2 gi (gN + 2) fun qg yH Iw Ll =>
(True) ∧
ae Tryz.prog 120 #[(.slice m8 eu fB)] M2 (fun PM pG =>
dP (some PM) fun yG =>
((Mem.fX pG ⟨gi, (gN + 2), none⟩ 0 4) = some [(iV qg), (iV yH), (iV Iw), (iV Ll)]) ∧
((Mem.ld pG ⟨jH, (fV + (Int.toNat kQ)), none⟩) = (some (.pointer CZ))) ∧
eI pG k1 0 kQ ∧
((Mem.ld pG ⟨b0, (o0 + 4), none⟩) = (some (.slice oW fx fT))) ∧
aE yG fun iM iy =>
aO pG yw fun lz qO =>
mB qO lz (iV qg) (iV yH) (iV Iw) (iV Ll) fun lB =>
((Mem.fX lB ⟨gi, (gN + 2), none⟩ 0 4) = some [(iV qg), (iV yH), (iV Iw), (iV Ll)]) ∧
((Mem.ld lB ⟨jH, (fV + (Int.toNat kQ)), none⟩) = (some (.pointer CZ))) ∧
eI lB k1 0 kQ ∧
((Mem.ld lB ⟨b0, (o0 + 4), none⟩) = (some (.slice oW fx fT))) ∧
rI lB lz 0 fun yC =>
aM (yC == 16)
 (rS lB b0 (o0 + 3) fun A40 nH jC =>
 rI lB lz 1 fun xV =>
 rI lB k1 1 fun yL =>
 ((0 : Int) ≤ (IntKind.wrap .i64 (xV + yL))) ∧
 (((IntKind.wrap .i64 (xV + yL)) : Int) < (nH : Int)) ∧
 aE A40 fun wI me =>
 rI lB wI ((me + ((Int.toNat (IntKind.wrap .i64 (xV + yL))) * 3)) + 2) fun Dh =>
 rI lB k1 2 fun FQ =>
 (0 ≤ Dh) ∧
 (Dh < 8) ∧
 sT lB iM ((iy + 2) + (Int.toNat Dh)) (iV FQ) fun w6 =>
 rII w6 k1 0 fun Aa C3 =>
 ae Tryz.prog 223 #[(.pointer (some ⟨b0, o0, none⟩)), (iV Aa), (iV C3)] w6 (fun Xo LA =>
 (Xo = (.tuple #[])) ∧
 rI LA k1 0 fun vG =>
 ae Tryz.prog 90 #[(.pointer (some ⟨b0, o0, none⟩)), (iV vG)] LA (fun Lf Ks =>
 (Lf = (.tuple #[])) ∧
 K (.tuple #[]) Ks) Kp) Kp)
 (rI lB lz 2 fun Xp =>
 rI lB k1 2 fun Dg =>
 (0 ≤ Xp) ∧
 (Xp < 8) ∧
 rI lB lz 3 fun Ip =>
 sT lB iM ((iy + 2) + (Int.toNat Xp)) (iV Dg) fun Rr =>
 eI Rr lz 3 Ip ∧
 (0 ≤ Ip) ∧
 (Ip < 8) ∧
 sT Rr iM ((iy + 2) + (Int.toNat Ip)) (iV x2) fun z4 =>
 eI z4 lz 3 Ip ∧
 rI z4 k1 0 fun WE =>
 ae Tryz.prog 90 #[(.pointer (some ⟨b0, o0, none⟩)), (iV WE)] z4 (fun Dp ug =>
 (Dp = (.tuple #[])) ∧
 K (.tuple #[]) ug) Kp)) Kp) :
 ae Tryz.prog 208 #[.pointer (some ⟨b0, o0, none⟩), .agg #[.int .i64 dS, .int .i64 eD, .int .i64 eE], .int .i64 x2] M K Kp := vw [(1, .bH [0, 1, 3, 7, 0, 16, 63, 127, 255, 511, 1023, 0, 2048, 6144, 14336, 0, 32768, 129024, 260096, 522240, 1046528, 2095104, 4192256, 8386560, 16775168, 0, 41943039, 134217727] (sy [0, 1, 2, 4, 11, 12, 13, 15, 14, 16, 17, 18, 19, 20, 21] (.cS 3 (.cS 5 (sy [6] (.cS 7 (sy [8, 9] (.cS 10 (.late 22 (sy [23, 24, 25, 26, 27] .done)))))))))), (3, .bH [0, 0, 2, 6, 14, 30, 0, 64, 0, 256, 960, 2046, 4094, 8190, 0, 16384, 1, 131071, 262143] (sy [0, 1, 2, 3, 4, 6, 8, 14, 16, 5, 7, 9, 10, 11, 12, 13, 15, 17, 18] .done)), (5, .bH [0, 0, 2, 0, 0, 16, 0, 64, 0, 1, 711, 1735, 8, 8191, 16383] (sy [0, 1, 3, 4, 6, 8, 9, 12, 2, 7, 10] (.cS 5 (sy [11, 13, 14] .done))))] Tryz.func208 h
theorem uH {b0 o0 : Nat} {dS : Int} {eD : Int} {eE : Int} (h :
aO M (cl [(iV dS), (iV eD), (iV eE)] 298) fun k1 M2 =>
rS M2 b0 (o0 + 4) fun A3 k4 k5 =>
rI M2 k1 0 fun n6 =>
(0 ≤ n6) ∧
(n6 < k4) ∧
aE A3 fun k7 k8 =>
rP M2 k7 (k8 + (Int.toNat n6)) fun A9 =>
aE A9 fun eB eo =>
rI M2 eB (eo + 2) fun hG =>
aM (hG == 16)
 (rI M2 k1 0 fun m9 =>
 rI M2 k1 1 fun jD =>
 ae Tryz.prog 223 #[(.pointer (some ⟨b0, o0, none⟩)), (iV m9), (iV jD)] M2 (fun By gj =>
 (By = (.tuple #[])) ∧
 rI gj k1 0 fun kS =>
 ae Tryz.prog 90 #[(.pointer (some ⟨b0, o0, none⟩)), (iV kS)] gj (fun FA m7 =>
 (FA = (.tuple #[])) ∧
 K (.tuple #[]) m7) Kp) Kp)
 (rI M2 k1 0 fun gF =>
 ae Tryz.prog 90 #[(.pointer (some ⟨b0, o0, none⟩)), (iV gF)] M2 (fun II c9 =>
 (II = (.tuple #[])) ∧
 K (.tuple #[]) c9) Kp)) :
 ae Tryz.prog 210 #[.pointer (some ⟨b0, o0, none⟩), .agg #[.int .i64 dS, .int .i64 eD, .int .i64 eE]] M K Kp := vw [(1, .bH [0, 1, 3, 7, 0, 16, 63, 127, 255, 511, 1023, 2047, 4095] (sy [0, 1, 2, 4, 3, 5, 6, 7, 8, 9, 10, 11, 12] .done))] Tryz.func210 h
theorem uI {B0 : Option Addr} {m0 c0 : Nat} {x1 : Int} {x2 : Int} {x3 : Int} (h :
aM (decide ((m0 : Int) ≥ 16))
 (K (.tuple #[(.slice B0 m0 c0), (.bool false)]) M)
 (((0 : Int) ≤ m0) ∧
 ((m0 : Int) ≤ c0) ∧
 ((0 : Int) ≤ m0) ∧
 ((m0 : Int) ≤ m0) ∧
 ((0 : Int) ≤ 0) ∧
 ((0 : Int) ≤ m0) ∧
 aO M (cl [(iV x1), (iV 0), (iV x2), (iV 0), (iV 0), (iV 0), (iV 0), (iV 0), (iV 0), (iV 0), (iV x3)] 234) fun k1 M2 =>
 bk Tryz.prog (Go.Builtin.append_ #[179, 179] 179 #[(.slice (jt B0 0 (Int.toNat (m0 : Int)) 11) ((Int.toNat (m0 : Int)) - 0) ((Int.toNat (m0 : Int)) - 0)), (.slice (some ⟨k1, 0, none⟩) 1 1)]) M2 (fun v3 M4 =>
 aF (some v3) fun A5 k6 k7 =>
 K (.tuple #[(.slice A5 k6 k7), (.bool true)]) M4) Kp)) :
 ae Tryz.prog 211 #[.slice B0 m0 c0, .int .i64 x1, .int .i64 x2, .int .i64 x3] M K Kp := vw [] Tryz.func211 h
theorem qB {B0 : Option Addr} {m0 c0 : Nat} {x1 : Int} (h :
aM (decide ((m0 : Int) < 2))
 (K (.tuple #[(.slice none 0 0), (.bool false)]) M)
 (aO M (cl [] 234) fun k1 M2 =>
 ((0 : Int) ≤ c0) ∧
 ((c0 : Int) ≤ c0) ∧
 ((0 : Int) ≤ (IntKind.wrap .i64 ((m0 : Int) - 1))) ∧
 (((IntKind.wrap .i64 ((m0 : Int) - 1)) : Int) ≤ (c0 : Int)) ∧
 ((0 : Int) ≤ 0) ∧
 ((0 : Int) ≤ (IntKind.wrap .i64 ((m0 : Int) - 1))) ∧
 bk Tryz.prog (Go.Builtin.append_ #[179, 179] 179 #[(.slice (some ⟨k1, 0, none⟩) 0 0), (.slice (jt B0 0 (Int.toNat (c0 : Int)) 11) ((Int.toNat (IntKind.wrap .i64 ((m0 : Int) - 1))) - 0) ((Int.toNat (c0 : Int)) - 0))]) M2 (fun v3 M4 =>
 aF (some v3) fun A5 k6 k7 =>
 ae Tryz.prog 120 #[(.slice A5 k6 k7)] M4 (fun v8 M9 =>
 dP (some v8) fun Le =>
 aE Le fun eo gI =>
 ae Tryz.prog 120 #[(.slice B0 m0 c0)] M9 (fun Kn ql =>
 dP (some Kn) fun oW =>
 aE oW fun fx fT =>
 rI ql fx (fT + 10) fun kQ =>
 (0 ≤ kQ) ∧
 (kQ < 8) ∧
 sT ql eo ((gI + 2) + (Int.toNat kQ)) (iV x1) fun m7 =>
 K (.tuple #[(.slice A5 k6 k7), (.bool true)]) m7) Kp) Kp) Kp)) :
 ae Tryz.prog 212 #[.slice B0 m0 c0, .int .i64 x1] M K Kp := vw [(4, .bH [0, 1, 0, 7, 15, 31, 63, 0, 3, 259, 1023, 2047] (sy [0, 2, 7, 1, 8, 9, 3, 4, 5, 6, 10, 11] .done))] Tryz.func212 h
theorem xo {b0 o0 : Nat} {x1 : Int} {x2 : Int} (h :
aF (Mem.ld M ⟨b0, o0, none⟩) fun A1 k2 k3 =>
bG (Mem.ld M ⟨b0, (o0 + 1), none⟩) .u64 fun n4 =>
aO M (.cells #[(.int .u64 x1), (.int .u64 n4), (.int .i64 x2)] 205 (0, 0)) fun k5 M6 =>
bk Tryz.prog (Go.Builtin.append_ #[65, 65] 65 #[(.slice A1 k2 k3), (.slice (some ⟨k5, 0, none⟩) 1 1)]) M6 (fun v7 M8 =>
aF (some v7) fun A9 eB eo =>
b7 M8 ⟨b0, o0, none⟩ (.slice A9 eB eo) fun wJ =>
bG (Mem.ld wJ ⟨b0, (o0 + 1), none⟩) .u64 fun m9 =>
b7 wJ ⟨b0, (o0 + 1), none⟩ (.int .u64 (IntKind.wrap .u64 (m9 + 1))) fun ql =>
aF (Mem.ld ql ⟨b0, o0, none⟩) fun oW fx fT =>
ae Tryz.prog 138 #[(.pointer (some ⟨b0, o0, none⟩)), (.int .i64 (IntKind.wrap .i64 (((fx : Nat) : Int) - 1)))] ql (fun FA m7 =>
(FA = (.tuple #[])) ∧
bG (Mem.ld m7 ⟨b0, (o0 + 1), none⟩) .u64 fun gF =>
K (.int .u64 (IntKind.wrap .u64 (gF - 1))) m7) Kp) Kp) :
 ae Tryz.prog 214 ([.pointer (some ⟨b0, o0, none⟩), .int .u64 x1, .int .i64 x2] : List Value).toArray M K Kp :=
 fe (C := Cx) good [(1, .bH [0, 0, 2, 6, 14, 0, 0, 64, 192, 448, 0, 2016, 4064, 8190, 16383, 32767, 65535] (.step 0 (.step 1 (.step 2 (.step 3 (.step 5 (.step 6 (.step 7 (.step 8 (.step 10 (.step 4 (.step 9 (.step 11 (.step 12 (.step 13 (.step 14 (.step 15 (.step 16 .done))))))))))))))))))] Tryz.func214 (by kernel_rfl) (by kernel_rfl) h
theorem vT {b0 o0 : Nat} {x1 : Int} (h :
rI M b0 o0 fun n1 =>
aM (n1 != (-1))
 (rS M b0 (o0 + 1) fun A2 k3 k4 =>
 aO M (cl [(iV x1)] 3) fun k5 M6 =>
 aA 38 A2 k3 k4 (some ⟨k5, 0, none⟩) 1 1 M6 (fun v7 M8 =>
 aF (some v7) fun A9 eB eo =>
 sT M8 b0 (o0 + 1) (.slice A9 eB eo) fun wJ =>
 K (.bool false) wJ) Kp)
 (sT M b0 o0 (iV x1) fun lG =>
 K (.bool true) lG)) :
 ae Tryz.prog 215 #[.pointer (some ⟨b0, o0, none⟩), .int .i64 x1] M K Kp := vw [] Tryz.func215 h
theorem vU {b0 o0 : Nat} {x1 : Int} (h :
rI M b0 o0 fun n1 =>
aM (n1 == (-1))
 (K (.tuple #[(iV (-1)), (iV 5)]) M)
 (rI M b0 o0 fun n2 =>
 aM (n2 != x1)
 (K (.tuple #[(iV (-1)), (iV 5)]) M)
 (sT M b0 o0 (iV (-1)) fun M3 =>
 rS M3 b0 (o0 + 1) fun A4 k5 k6 =>
 aM (decide ((k5 : Int) > 0))
 (rS M3 b0 (o0 + 1) fun A7 k8 k9 =>
 ((0 : Int) ≤ 0) ∧
 ((0 : Int) < k8) ∧
 aE A7 fun eB eo =>
 rI M3 eB (eo + 0) fun hG =>
 sT M3 b0 o0 (iV hG) fun lG =>
 aO lG (cl [] 3) fun fB Dt =>
 rS Dt b0 (o0 + 1) fun Xl fT fq =>
 ((0 : Int) ≤ fq) ∧
 ((fq : Int) ≤ fq) ∧
 ((0 : Int) ≤ fT) ∧
 ((fT : Int) ≤ fq) ∧
 ((0 : Int) ≤ 1) ∧
 ((1 : Int) ≤ fT) ∧
 bk Tryz.prog (Go.Builtin.append_ #[38, 38] 38 #[(.slice (some ⟨fB, 0, none⟩) 0 0), (.slice (jt Xl 1 (Int.toNat (fq : Int)) 1) ((Int.toNat (fT : Int)) - 1) ((Int.toNat (fq : Int)) - 1))]) Dt (fun PW vC =>
 aF (some PW) fun CZ gi gN =>
 sT vC b0 (o0 + 1) (.slice CZ gi gN) fun nJ =>
 rI nJ b0 o0 fun yH =>
 K (.tuple #[(iV yH), (iV 0)]) nJ) Kp)
 (rI M3 b0 o0 fun Iw =>
 K (.tuple #[(iV Iw), (iV 0)]) M3)))) :
 ae Tryz.prog 216 #[.pointer (some ⟨b0, o0, none⟩), .int .i64 x1] M K Kp := vw [] Tryz.func216 h
theorem vV {b0 o0 : Nat} {x1 : Int} (h :
∃ I1 : Nat → List Value → Mem → Prop, (∃ k2 : Nat, I1 k2 [(.int .i64 x1), (.int .i64 (IntKind.wrap .i64 ((IntKind.wrap .i64 (4 * x1)) + 1)))] M) ∧
∀ k3 : Nat, ∀ ZT : Nat → Value, ∀ n5 : Int, ∀ n6 : Int, ∀ M7 : Mem, (I1 k3 [(.int .i64 n5), (.int .i64 n6)] M7) → aM (decide ((n6 : Int) ≤ (IntKind.wrap .i64 ((IntKind.wrap .i64 (4 * x1)) + 4))))
 (aF (Mem.ld M7 ⟨b0, o0, none⟩) fun A8 k9 eB =>
 aM (decide ((n6 : Int) < ((k9 : Nat) : Int)))
  (aF (Mem.ld M7 ⟨b0, o0, none⟩) fun FO gI eu =>
  ((0 : Int) ≤ n6) ∧
  ((n6 : Int) < ((gI : Nat) : Int)) ∧
  aE FO fun fB jy =>
  bG (Mem.ld M7 ⟨fB, (jy + ((Int.toNat n6) * 3)), none⟩) .u64 fun nI =>
  bG (Mem.ld M7 ⟨fB, ((jy + ((Int.toNat n6) * 3)) + 1), none⟩) .u64 fun kS =>
  bG (Mem.ld M7 ⟨fB, ((jy + ((Int.toNat n6) * 3)) + 2), none⟩) .i64 fun kQ =>
  aF (Mem.ld M7 ⟨b0, o0, none⟩) fun Hx fV lH =>
  ((0 : Int) ≤ n5) ∧
  ((n5 : Int) < ((fV : Nat) : Int)) ∧
  aE Hx fun gi gN =>
  bG (Mem.ld M7 ⟨gi, (gN + ((Int.toNat n5) * 3)), none⟩) .u64 fun qg =>
  bG (Mem.ld M7 ⟨gi, ((gN + ((Int.toNat n5) * 3)) + 1), none⟩) .u64 fun yH =>
  bG (Mem.ld M7 ⟨gi, ((gN + ((Int.toNat n5) * 3)) + 2), none⟩) .i64 fun Iw =>
  ae Tryz.prog 186 #[(.agg #[(.int .u64 nI), (.int .u64 kS), (.int .i64 kQ)]), (.agg #[(.int .u64 qg), (.int .u64 yH), (.int .i64 Iw)])] M7 (fun v27 Df =>
  dF (some v27) fun t29 =>
  aM t29
   (∃ jg : Nat, (jg < k3) ∧
   I1 jg [(.int .i64 n6), (.int .i64 (IntKind.wrap .i64 (n6 + 1)))] Df)
   (∃ iM : Nat, (iM < k3) ∧
   I1 iM [(.int .i64 n5), (.int .i64 (IntKind.wrap .i64 (n6 + 1)))] Df)) Kp)
  (K (.int .i64 n5) M7))
 (K (.int .i64 n5) M7)) :
 ae Tryz.prog 185 ([.pointer (some ⟨b0, o0, none⟩), .int .i64 x1] : List Value).toArray M K Kp :=
 fe (C := Cx) good [(2000000, .loop [(5, .c (.int .i64)), (6, .c (.int .i64))]), (5, .bH [0, 1, 3, 7, 0, 31, 63, 0, 128, 384, 896, 0, 3968, 8064, 16383] (.step 0 (.step 1 (.step 2 (.step 4 (.step 7 (.step 8 (.step 9 (.step 11 (.step 3 (.step 5 (.step 6 (.step 10 (.step 12 (.step 13 (.step 14 .done))))))))))))))))] Tryz.func185 (by kernel_rfl) (by kernel_rfl) h
theorem BO {oy : Int} {w8 : Int} {kT : Int} {dS : Int} {eD : Int} {eE : Int} (h :
aO M (cl [(.int .u64 oy), (.int .u64 w8), (iV kT)] 205) fun k1 M2 =>
aO M2 (cl [(.int .u64 dS), (.int .u64 eD), (iV eE)] 205) fun k3 M4 =>
rU M4 k1 0 fun n5 =>
rU M4 k3 0 fun n6 =>
aM (decide (n5 < n6))
 (K (.bool true) M4)
 (rU M4 k1 0 fun n7 =>
 rU M4 k3 0 fun n8 =>
 aM (n7 == n8)
 (rU M4 k1 1 fun n9 =>
 rU M4 k3 1 fun dI =>
 K (.bool (decide (n9 < dI))) M4)
 (K (.bool false) M4))) :
 ae Tryz.prog 186 #[.agg #[.int .u64 oy, .int .u64 w8, .int .i64 kT], .agg #[.int .u64 dS, .int .u64 eD, .int .i64 eE]] M K Kp := vw [] Tryz.func186 h
theorem qC {b0 o0 : Nat} {x1 : Int} {x2 : Int} (h :
rS M b0 (o0 + 4) fun A1 k2 k3 =>
((0 : Int) ≤ x1) ∧
((x1 : Int) < k2) ∧
aE A1 fun k4 k5 =>
rP M k4 (k5 + (Int.toNat x1)) fun A6 =>
aE A6 fun k7 k8 =>
bP M k7 (k8 + 2) fun n9 dI lp hG =>
aO M yw fun eu ql =>
mB ql eu (iV n9) (iV dI) (iV lp) (iV hG) fun lR =>
rS lR b0 (o0 + 4) fun Hx fV lH =>
((0 : Int) ≤ x1) ∧
((x1 : Int) < fV) ∧
aE Hx fun gi gN =>
rP lR gi (gN + (Int.toNat x1)) fun CW =>
aE CW fun jJ gM =>
rS lR jJ (gM + 1) fun BI gV gk =>
rI lR eu 3 fun xl =>
ae Tryz.prog 120 #[(.slice BI gV gk)] lR (fun SP mR =>
dP (some SP) fun Kr =>
eI mR eu 3 xl ∧
aE Kr fun mS kD =>
(0 ≤ xl) ∧
(xl < 8) ∧
sT mR mS ((kD + 2) + (Int.toNat xl)) (iV x2) fun pH =>
eI pH eu 3 xl ∧
rS pH b0 (o0 + 6) fun yM fE lA =>
ae Tryz.prog 225 #[(iV x1), (.slice yM fE lA)] pH (fun S8 BJ =>
(S8 = (.tuple #[])) ∧
K (.tuple #[]) BJ) Kp) Kp) :
 ae Tryz.prog 223 #[.pointer (some ⟨b0, o0, none⟩), .int .i64 x1, .int .i64 x2] M K Kp := vw [(1, .bH [0, 1, 3, 7, 0, 31, 63, 127, 255, 511, 1023, 0, 2048, 0, 2047, 18431, 65535, 131071] (sy [0, 1, 2, 4, 11, 13, 3, 5, 6, 7, 8, 9] (.cS 12 (sy [10, 14, 15, 16, 17] .done))))] Tryz.func223 h
end Go.Proofs
namespace Go.Proofs
open Go.AF
set_option maxRecDepth 100000
theorem FR {iR : Option Addr} {iS iT : Nat} {iU : Option Addr} {iW iX : Nat} {kT : Int} {jS : Option Addr} {jT jU : Nat} {M : Mem} {K : Value → Mem → Prop} {Kp : List PanicEntry → Mem → Prop} (h :
aO M (cl [(.slice iR iS iT), (.slice iU iW iX), (iV kT), (.slice jS jT jU)] 41) fun k1 M2 =>
Bt M2 k1 0 fun A3 k4 k5 A6 k7 k8 n9 Le eo gI =>
ae Tryz.prog 71 #[(iV 0), (iV 0)] M2 (fun Kn ql =>
aF (some Kn) fun oW fx fT =>
((Mem.fX ql ⟨k1, 0, none⟩ 0 4) = some [(.slice A3 k4 k5), (.slice A6 k7 k8), (iV n9), (.slice Le eo gI)]) ∧
aO ql (cl [(iV 1), (.slice oW fx fT), (iV 0), (iV 0), (iV 0), (iV 0)] 182) fun fq m7 =>
aO m7 (cl [(.pointer (some ⟨fq, 0, none⟩))] 177) fun fV jI =>
aO jI (cl [(.slice A3 k4 k5), (.slice A6 k7 k8), (iV n9), (.slice Le eo gI), (.slice (some ⟨fV, 0, none⟩) 1 1), (.int .u64 0), (.slice none 0 0), (.slice none 0 0), (.slice none 0 0), (.int .u64 0), (.slice none 0 0), (iV 0), (iV 0), (.slice none 0 0), .nilFunc] 164) fun gi mD =>
rS mD k1 1 fun CW jJ gM =>
∃ I27 : IT, (∃ gV, I27 gV [(iV 0)] mD) ∧
∀ (gk : Nat) (_ : Nat → Value) (ry : Int) (mR : Mem), (I27 gk [(iV ry)] mR) → aM (decide (ry < jJ))
 ((0 ≤ ry) ∧
 (ry < jJ) ∧
 aE CW fun lz mS =>
 rI mR lz (mS + (Int.toNat ry)) fun yK =>
 ∃ J36 : List Value → Mem → Prop, ((rS mR gi 6 fun yM fE lA =>
 ae Tryz.prog 72 #[(iV yK)] mR (fun S8 BJ =>
 dP (some S8) fun Iq =>
 aO BJ (cl [(.pointer Iq)] 183) fun jK qs =>
 aA 159 yM fE lA (some ⟨jK, 0, none⟩) 1 1 qs (fun v45 WG =>
 aF (some v45) fun OE xZ mg =>
 sT WG gi 6 (.slice OE xZ mg) fun Ht =>
 J36 [] Ht) Kp) Kp) ∧
 (ae Tryz.prog 72 #[(iV yK)] mR (fun v51 ya =>
 dP (some v51) fun A53 =>
 rS ya gi 6 fun A54 Xq C0 =>
 aO ya (cl [(.pointer A53)] 183) fun vH ZU =>
 aA 159 A54 Xq C0 (some ⟨vH, 0, none⟩) 1 1 ZU (fun LB Rr =>
 aF (some LB) fun Xr BG Kv =>
 sT Rr gi 6 (.slice Xr BG Kv) fun ug =>
 J36 [] ug) Kp) Kp) ∧
 True) ∧
 ∀ junk65 : Nat → Value, ∀ OC : Mem, (J36 [] OC) → ∃ Kt : Nat, (Kt < gk) ∧
 I27 Kt [(iV (IntKind.wrap .i64 (ry + 1)))] OC)
 (rI mR k1 2 fun xe =>
 ∃ I69 : IT, (∃ Eu, I69 Eu [(iV 0)] mR) ∧
 ∀ (FF : Nat) (_ : Nat → Value) (PK : Int) (Hz : Mem), (I69 FF [(iV PK)] Hz) → aM (decide (PK < xe))
 (∃ J75 : List Value → Mem → Prop, ((rS Hz gi 7 fun A76 z8 Dq =>
 ae Tryz.prog 73 #[] Hz (fun LC WH =>
 dP (some LC) fun A81 =>
 aO WH (cl [(.pointer A81)] 185) fun FG M83 =>
 aA 160 A76 z8 Dq (some ⟨FG, 0, none⟩) 1 1 M83 (fun PX ZR =>
 aF (some PX) fun A86 Lq Tb =>
 sT ZR gi 7 (.slice A86 Lq Tb) fun Kw =>
 J75 [] Kw) Kp) Kp) ∧
 (ae Tryz.prog 73 #[] Hz (fun PY ov =>
 dP (some PY) fun A92 =>
 rS ov gi 7 fun Xs Oy OF =>
 aO ov (cl [(.pointer A92)] 185) fun Tc ZV =>
 aA 160 Xs Oy OF (some ⟨Tc, 0, none⟩) 1 1 ZV (fun v98 M99 =>
 aF (some v98) fun A100 LD FT =>
 sT M99 gi 7 (.slice A100 LD FT) fun Ls =>
 J75 [] Ls) Kp) Kp) ∧
 True) ∧
 ∀ junk104 : Nat → Value, ∀ Xt : Mem, (J75 [] Xt) → ∃ z6 : Nat, (z6 < FF) ∧
 I69 z6 [(iV (IntKind.wrap .i64 (PK + 1)))] Xt)
 (K (.pointer (some ⟨gi, 0, none⟩)) Hz))) Kp) :
 ae Tryz.prog 36 #[.agg #[.slice iR iS iT, .slice iU iW iX, .int .i64 kT, .slice jS jT jU]] M K Kp := vw [(1, .bH [0, 0, 2, 6, 14, 31, 63, 127] (.cS 0 (sy [1, 2, 3, 4, 5, 6, 7] .done))), (2000000, .loop [(16, .c (.int .i64))]), (5, .Pv [0, 0, 2, 6, 14, 0, 32, 96, 254, 511, 1023, 2047] (sy [0, 1, 2, 3, 5] (.fork 4 (sy [6, 7, 8, 9, 10, 11] .done) (.fork 6 (sy [4, 7, 8, 9, 10, 11] .done) .dead))) []), (2000002, .loop [(34, .c (.int .i64))]), (9, .Pv [0, 0, 2, 6, 14, 0, 32, 126, 255, 511, 1023] (sy [0, 1, 2, 3] (.fork 4 (sy [5, 6, 7, 8, 9, 10] .done) (.fork 5 (sy [4, 6, 7, 8, 9, 10] .done) .dead))) [])] Tryz.func36 h
theorem lJ {b0 o0 : Nat} {x1 : Int} {u2 : Value} {M : Mem} {K : Value → Mem → Prop} {Kp : List PanicEntry → Mem → Prop} (h :
aO M (.cells #[(.bool false), (.slice none 0 0)] 120 (0, 0)) fun k1 M2 =>
aM (decide ((x1 : Int) < 0))
 (b7 M2 ⟨k1, 0, none⟩ (.bool false) fun M3 =>
 b7 M3 ⟨k1, (0 + 1), none⟩ (.slice none 0 0) fun M4 =>
 dF (Mem.ld M4 ⟨k1, 0, none⟩) fun t5 =>
 aF (Mem.ld M4 ⟨k1, (0 + 1), none⟩) fun A6 k7 k8 =>
 K (.agg #[(.bool t5), (.slice A6 k7 k8)]) M4)
 (aF (Mem.ld M2 ⟨b0, (o0 + 4), none⟩) fun A9 eB eo =>
 aM (decide ((x1 : Int) ≥ ((eB : Nat) : Int)))
  (b7 M2 ⟨k1, 0, none⟩ (.bool false) fun wJ =>
  b7 wJ ⟨k1, (0 + 1), none⟩ (.slice none 0 0) fun lG =>
  dF (Mem.ld lG ⟨k1, 0, none⟩) fun t14 =>
  aF (Mem.ld lG ⟨k1, (0 + 1), none⟩) fun oW fx fT =>
  K (.agg #[(.bool t14), (.slice oW fx fT)]) lG)
  (bG (Mem.ld M2 ⟨b0, (o0 + 11), none⟩) .i64 fun kQ =>
  aM (kQ != 0)
   (b7 M2 ⟨k1, 0, none⟩ (.bool false) fun m7 =>
   b7 m7 ⟨k1, (0 + 1), none⟩ (.slice none 0 0) fun vC =>
   dF (Mem.ld vC ⟨k1, 0, none⟩) fun t21 =>
   aF (Mem.ld vC ⟨k1, (0 + 1), none⟩) fun Ly gN nW =>
   K (.agg #[(.bool t21), (.slice Ly gN nW)]) vC)
   (aF (Mem.ld M2 ⟨b0, (o0 + 4), none⟩) fun CY gM kK =>
   ((0 : Int) ≤ x1) ∧
   ((x1 : Int) < ((gM : Nat) : Int)) ∧
   aE CY fun gV gk =>
   dP (Mem.ld M2 ⟨gV, (gk + (Int.toNat x1)), none⟩) fun yG =>
   aE yG fun iM iy =>
   bG (Mem.ld M2 ⟨iM, iy, none⟩) .i64 fun kP =>
   aM (kP != 1)
    (b7 M2 ⟨k1, 0, none⟩ (.bool false) fun qO =>
    b7 qO ⟨k1, (0 + 1), none⟩ (.slice none 0 0) fun vj =>
    dF (Mem.ld vj ⟨k1, 0, none⟩) fun t36 =>
    aF (Mem.ld vj ⟨k1, (0 + 1), none⟩) fun yM fE lA =>
    K (.agg #[(.bool t36), (.slice yM fE lA)]) vj)
    (b7 M2 ⟨b0, (o0 + 13), none⟩ (.slice none 0 0) fun FP =>
    DZ u2 <|
    b7 FP ⟨b0, (o0 + 14), none⟩ u2 fun BJ =>
    ae Tryz.prog 88 #[(.pointer (some ⟨b0, o0, none⟩)), (.int .i64 x1)] BJ (fun v42 xd =>
    dF (some v42) fun t44 =>
    aM (!t44)
     (bG (Mem.ld xd ⟨b0, (o0 + 11), none⟩) .i64 fun uk =>
     aM (uk == 0)
      (aF (Mem.ld xd ⟨b0, (o0 + 4), none⟩) fun A46 kj xZ =>
      ((0 : Int) ≤ x1) ∧
      ((x1 : Int) < ((kj : Nat) : Int)) ∧
      aE A46 fun mg vD =>
      dP (Mem.ld xd ⟨mg, (vD + (Int.toNat x1)), none⟩) fun CX =>
      aE CX fun pI j8 =>
      bG (Mem.ld xd ⟨pI, j8, none⟩) .i64 fun vG =>
      aF (Mem.ld xd ⟨b0, (o0 + 13), none⟩) fun Wx C0 vH =>
      b7 xd ⟨k1, 0, none⟩ (.bool (vG == 1)) fun ZU =>
      b7 ZU ⟨k1, (0 + 1), none⟩ (.slice Wx C0 vH) fun eL =>
      dF (Mem.ld eL ⟨k1, 0, none⟩) fun t60 =>
      aF (Mem.ld eL ⟨k1, (0 + 1), none⟩) fun Xr BG Kv =>
      K (.agg #[(.bool t60), (.slice Xr BG Kv)]) eL)
      (aF (Mem.ld xd ⟨b0, (o0 + 13), none⟩) fun A64 Oz Ln =>
      b7 xd ⟨k1, 0, none⟩ (.bool false) fun S2 =>
      b7 S2 ⟨k1, (0 + 1), none⟩ (.slice A64 Oz Ln) fun M68 =>
      dF (Mem.ld M68 ⟨k1, 0, none⟩) fun t69 =>
      aF (Mem.ld M68 ⟨k1, (0 + 1), none⟩) fun A70 FF Ku =>
      K (.agg #[(.bool t69), (.slice A70 FF Ku)]) M68))
     (aF (Mem.ld xd ⟨b0, (o0 + 13), none⟩) fun A73 HA S3 =>
     b7 xd ⟨k1, 0, none⟩ (.bool false) fun Xg =>
     b7 Xg ⟨k1, (0 + 1), none⟩ (.slice A73 HA S3) fun M77 =>
     dF (Mem.ld M77 ⟨k1, 0, none⟩) fun t78 =>
     aF (Mem.ld M77 ⟨k1, (0 + 1), none⟩) fun A79 Iu Xk =>
     K (.agg #[(.bool t78), (.slice A79 Iu Xk)]) M77)) Kp))))) :
 ae Tryz.prog 41 ([.pointer (some ⟨b0, o0, none⟩), .int .i64 x1, u2] : List Value).toArray M K Kp :=
 fe (C := Cx) good [(5, .bH [0, 1, 3, 7, 15, 31, 63, 127, 255, 511, 1023, 2047, 4095, 8191, 1023, 32767, 65535, 131071, 262143, 524287, 1048575, 2097151, 0, 4194304, 12582912, 29360128, 67108863, 134217727] (.step 0 (.step 1 (.step 2 (.step 3 (.step 4 (.step 5 (.step 22 (.step 23 (.step 24 (.step 6 (.step 7 (.step 8 (.step 9 (.step 10 (.step 11 (.step 12 (.step 14 (.step 13 (.step 15 (.step 16 (.step 17 (.step 18 (.step 19 (.step 20 (.step 21 (.step 25 (.step 26 (.step 27 .done)))))))))))))))))))))))))))))] Tryz.func41 (by kernel_rfl) (by kernel_rfl) h
variable {M : Mem} {K : Value → Mem → Prop} {Kp : List PanicEntry → Mem → Prop}
theorem rV {b0 o0 : Nat} (h :
bG (Mem.ld M ⟨b0, (o0 + 11), none⟩) .i64 fun n1 =>
aM (n1 != 0)
 (K (.bool false) M)
 (aF (Mem.ld M ⟨b0, (o0 + 4), none⟩) fun A2 k3 k4 =>
 ∃ I5 : Nat → List Value → Mem → Prop, (∃ k6 : Nat, I5 k6 [(.int .i64 0)] M) ∧
 ∀ k7 : Nat, ∀ junk8 : Nat → Value, ∀ n9 : Int, ∀ mV : Mem, (I5 k7 [(.int .i64 n9)] mV) → aM (decide ((n9 : Int) < ((k3 : Nat) : Int)))
  (((0 : Int) ≤ n9) ∧
  ((n9 : Int) < ((k3 : Nat) : Int)) ∧
  aE A2 fun eo gI =>
  dP (Mem.ld mV ⟨eo, (gI + (Int.toNat n9)), none⟩) fun zA =>
  aE zA fun fB jy =>
  bG (Mem.ld mV ⟨fB, jy, none⟩) .i64 fun nI =>
  aM (nI == 1)
   (K (.bool false) mV)
   (aE zA fun fT fq =>
   bG (Mem.ld mV ⟨fT, fq, none⟩) .i64 fun nX =>
   aM (nX == 3)
    (K (.bool false) mV)
    (∃ fV : Nat, (fV < k7) ∧
    I5 fV [(.int .i64 (IntKind.wrap .i64 (n9 + 1)))] mV)))
  (K (.bool true) mV))) :
 ae Tryz.prog 44 ([.pointer (some ⟨b0, o0, none⟩)] : List Value).toArray M K Kp :=
 fe (C := Cx) good [(2000000, .loop [(15, .c (.int .i64))])] Tryz.func44 (by kernel_rfl) (by kernel_rfl) h
theorem rX {b0 o0 : Nat} (h :
rU M b0 (o0 + 5) fun n1 =>
K (.int .u64 n1) M) :
 ae Tryz.prog 81 #[.pointer (some ⟨b0, o0, none⟩)] M K Kp := vw [] Tryz.func81 h
theorem uJ {b0 o0 : Nat} {x1 : Int} (h :
aM (decide ((x1 : Int) < 0))
 (K (.tuple #[(.int .i64 (-1)), (.slice none 0 0)]) M)
 (aF (Mem.ld M ⟨b0, (o0 + 7), none⟩) fun A1 k2 k3 =>
 aM (decide ((x1 : Int) ≥ ((k2 : Nat) : Int)))
  (K (.tuple #[(.int .i64 (-1)), (.slice none 0 0)]) M)
  (aF (Mem.ld M ⟨b0, (o0 + 7), none⟩) fun A4 k5 k6 =>
  ((0 : Int) ≤ x1) ∧
  ((x1 : Int) < ((k5 : Nat) : Int)) ∧
  aE A4 fun k7 k8 =>
  dP (Mem.ld M ⟨k7, (k8 + (Int.toNat x1)), none⟩) fun A9 =>
  aF (Mem.ld M ⟨b0, (o0 + 7), none⟩) fun Le eo gI =>
  ((0 : Int) ≤ x1) ∧
  ((x1 : Int) < ((eo : Nat) : Int)) ∧
  aE Le fun eu fB =>
  dP (Mem.ld M ⟨eu, (fB + (Int.toNat x1)), none⟩) fun oW =>
  ae Tryz.prog 151 #[(.pointer A9)] M (fun IC mW =>
  bG (some IC) .i64 fun kQ =>
  ((Mem.ld mW ⟨eu, (fB + (Int.toNat x1)), none⟩) = (some (.pointer oW))) ∧
  ((Mem.ld mW ⟨b0, (o0 + 7), none⟩) = (some (.slice Le eo gI))) ∧
  ae Tryz.prog 152 #[(.pointer oW)] mW (fun PW vC =>
  aF (some PW) fun CZ gi gN =>
  ((Mem.ld vC ⟨eu, (fB + (Int.toNat x1)), none⟩) = (some (.pointer oW))) ∧
  ((Mem.ld vC ⟨b0, (o0 + 7), none⟩) = (some (.slice Le eo gI))) ∧
  K (.tuple #[(.int .i64 kQ), (.slice CZ gi gN)]) vC) Kp) Kp))) :
 ae Tryz.prog 118 ([.pointer (some ⟨b0, o0, none⟩), .int .i64 x1] : List Value).toArray M K Kp :=
 fe (C := Cx) good [(3, .bH [0, 1, 3, 7, 0, 31, 63, 127, 0, 256, 768, 1792, 0, 7936, 16128, 32767, 65535, 131071] (.step 0 (.step 1 (.step 2 (.step 4 (.step 8 (.step 9 (.step 10 (.step 12 (.step 3 (.step 5 (.step 6 (.cS 11 (.step 13 (.cS 14 (.step 7 (.step 15 (.step 16 (.step 17 .done)))))))))))))))))))] Tryz.func118 (by kernel_rfl) (by kernel_rfl) h
theorem uK {b0 o0 : Nat} (h :
rI M b0 o0 fun n1 =>
K (iV n1) M) :
 ae Tryz.prog 151 #[.pointer (some ⟨b0, o0, none⟩)] M K Kp := vw [] Tryz.func151 h
theorem uL {b0 o0 : Nat} (h :
aO M (cl [] 3) fun k1 M2 =>
rS M2 b0 (o0 + 1) fun A3 k4 k5 =>
aA 38 (some ⟨k1, 0, none⟩) 0 0 A3 k4 k5 M2 (fun v6 M7 =>
aF (some v6) fun A8 k9 eB =>
K (.slice A8 k9 eB) M7) Kp) :
 ae Tryz.prog 152 #[.pointer (some ⟨b0, o0, none⟩)] M K Kp := vw [] Tryz.func152 h
end Go.Proofs
namespace Go.Proofs
open Go.AF
set_option maxRecDepth 100000
variable {M : Mem} {K : Value → Mem → Prop} {Kp : List PanicEntry → Mem → Prop}
theorem uM {iR : Option Addr} {iS iT : Nat} {iU : Option Addr} {iW iX : Nat} {kT : Int} {jS : Option Addr} {jT jU : Nat} (h :
aO M (cl [(.slice iR iS iT), (.slice iU iW iX), (iV kT), (.slice jS jT jU)] 73) fun k1 M2 =>
aO M2 En fun k3 M4 =>
rS M4 k1 1 fun A5 k6 k7 =>
rI M4 k1 2 fun n8 =>
aO M4 (cl [] 3) fun k9 mV =>
(True) ∧
aA 38 (some ⟨k9, 0, none⟩) 0 0 A5 k6 k7 mV (fun v11 wJ =>
aF (some v11) fun zA fB jy =>
eI wJ k1 2 n8 ∧
aO wJ En fun fx mW =>
mB mW fx (.slice none 0 0) (.slice zA fB jy) (iV n8) (.slice none 0 0) fun jI =>
eI jI k1 2 n8 ∧
rS jI k1 0 fun Ly gN nW =>
∃ I25 : IT, (∃ gM, I25 gM [(iV 0)] jI) ∧
∀ (kK : Nat) (_ : Nat → Value) (yI : Int) (wH : Mem), (I25 kK [(iV yI)] wH) → aM (decide (yI < gN))
 ((0 ≤ yI) ∧
 (yI < gN) ∧
 aE Ly fun iM iy =>
 rS wH iM (iy + (Int.toNat yI)) fun Kr mS kD =>
 aO wH (cl [] 34) fun nK Ro =>
 ∃ I38 : IT, (∃ lA, I38 lA [(.slice (some ⟨nK, 0, none⟩) 0 0), (iV 0)] Ro) ∧
 ∀ (va : Nat) (_ : Nat → Value) (Iq : Option Addr) (jK : Nat) (zB : Nat) (uk : Int) (WG : Mem), (I38 va [(.slice Iq jK zB), (iV uk)] WG) → aM (decide (uk < mS))
 ((0 ≤ uk) ∧
 (uk < mS) ∧
 aE Kr fun kj xZ =>
 bP WG kj (xZ + ((Int.toNat uk) * 4)) fun PT Aa C3 S9 =>
 aO WG fU fun j8 PI =>
 mB PI j8 (iV PT) (iV Aa) (iV C3) (iV S9) fun ZU =>
 bP ZU j8 0 fun Ip vA n61 WE =>
 aO ZU (cl [(iV Ip), (iV vA), (iV n61), (iV WE)] 34) fun Kv ug =>
 aA 31 Iq jK zB (some ⟨Kv, 0, none⟩) 1 1 ug (fun PZ OC =>
 aF (some PZ) fun A67 Rt ZW =>
 ∃ Eu : Nat, (Eu < va) ∧
 I38 Eu [(.slice A67 Rt ZW), (iV (IntKind.wrap .i64 (uk + 1)))] OC) Kp)
 (rS WG fx 0 fun A71 Ku Ov =>
 aO WG (cl [(.slice Iq jK zB)] 31) fun HA Td =>
 aA 37 A71 Ku Ov (some ⟨HA, 0, none⟩) 1 1 Td (fun Te M77 =>
 aF (some Te) fun A78 Ru Iu =>
 sT M77 fx 0 (.slice A78 Ru Iu) fun IJ =>
 ∃ FG : Nat, (FG < kK) ∧
 I25 FG [(iV (IntKind.wrap .i64 (yI + 1)))] IJ) Kp))
 (rS wH k1 3 fun A83 Xu Ow =>
 ∃ I86 : IT, (∃ Lq, I86 Lq [(iV 0)] wH) ∧
 ∀ (Tb : Nat) (_ : Nat → Value) (zF : Int) (ov : Mem), (I86 Tb [(iV zF)] ov) → aM (decide (zF < Xu))
 ((0 ≤ zF) ∧
 (zF < Xu) ∧
 aE A83 fun PN Xi =>
 eT ov PN (Xi + ((Int.toNat zF) * 3)) fun SR SS SU =>
 aO ov mc fun Rv Kx =>
 pA Kx Rv (iV SR) (iV SS) (iV SU) fun uh =>
 rS uh fx 3 fun A102 BP SZ =>
 eT uh Rv 0 fun BQ yN yO =>
 aO uh (cl [(iV BQ), (iV yN), (iV yO)] 172) fun PR PL =>
 aA 39 A102 BP SZ (some ⟨PR, 0, none⟩) 1 1 PL (fun BR M111 =>
 aF (some BR) fun Tf FU Du =>
 sT M111 fx 3 (.slice Tf FU Du) fun P0 =>
 ∃ Iv : Nat, (Iv < Tb) ∧
 I86 Iv [(iV (IntKind.wrap .i64 (zF + 1)))] P0) Kp)
 (rS ov fx 0 fun LF z7 gS =>
 rS ov fx 1 fun A120 BF yP =>
 rI ov fx 2 fun FV =>
 rS ov fx 3 fun A124 IK FW =>
 mB ov k3 (.slice LF z7 gS) (.slice A120 BF yP) (iV FV) (.slice A124 IK FW) fun Ae =>
 Bt Ae k3 0 fun Tg FX xp Th Dx xq xu A138 Xv yQ =>
 K (.agg #[(.slice Tg FX xp), (.slice Th Dx xq), (iV xu), (.slice A138 Xv yQ)]) Ae))) Kp) :
 ae Tryz.prog 29 #[.agg #[.slice iR iS iT, .slice iU iW iX, .int .i64 kT, .slice jS jT jU]] M K Kp := vw [(1, .bH [0, 0, 2, 7, 0, 16, 63, 0, 255] (sy [1, 4, 2] (.cS 5 (sy [0] (.late 3 (sy [6, 7, 8] .done)))))), (2000000, .loop [(21, .c (.int .i64))]), (2000002, .loop [(6, .c .sl), (28, .c (.int .i64))]), (2000004, .loop [(55, .c (.int .i64))])] Tryz.func29 h
theorem rY {iR : Option Addr} {iS iT : Nat} {iU : Option Addr} {iW iX : Nat} {kT : Int} {jS : Option Addr} {jT jU : Nat} (h :
aO M (cl [(.slice iR iS iT), (.slice iU iW iX), (iV kT), (.slice jS jT jU)] 73) fun k1 M2 =>
aO M2 yx fun k3 M4 =>
rI M4 k1 2 fun n5 =>
ae Tryz.prog 69 #[(iV n5), (iV 4)] M4 (fun v6 M7 =>
bG (some v6) .i64 fun n8 =>
aO M7 yx fun k9 mV =>
mB mV k9 (.slice none 0 0) (.slice none 0 0) (iV n8) (.slice none 0 0) fun ql =>
∃ J15 : List Value → Mem → Prop, (∃ Xw : IT, (∃ fT, Xw fT [(iV 0)] ql) ∧
 ∀ (fq : Nat) (_ : Nat → Value) (gF : Int) (jI : Mem), (Xw fq [(iV gF)] jI) → rS jI k1 1 fun Ly gN nW =>
 aM (decide (gF < gN))
 (aM (decide (gF < 4))
 (∃ J25 : List Value → Mem → Prop, (rS jI k1 1 fun Xx kK gV =>
 (0 ≤ gF) ∧
 (gF < kK) ∧
 aE Xx fun gk jg =>
 rI jI gk (jg + (Int.toNat gF)) fun ry =>
 (rS jI k9 1 fun A32 lz mS =>
 ae Tryz.prog 69 #[(iV ry), (iV 4)] jI (fun v35 pH =>
 bG (some v35) .i64 fun xU =>
 aO pH (cl [(iV xU)] 3) fun fE FE =>
 aA 38 A32 lz mS (some ⟨fE, 0, none⟩) 1 1 FE (fun S8 BJ =>
 aF (some S8) fun Iq jK zB =>
 sT BJ k9 1 (.slice Iq jK zB) fun IG =>
 J25 [] IG) Kp) Kp) ∧
 (ae Tryz.prog 69 #[(iV ry), (iV 4)] jI (fun Xy w9 =>
 bG (some Xy) .i64 fun FQ =>
 rS w9 k9 1 fun ZS vD Hy =>
 aO w9 (cl [(iV FQ)] 3) fun pI LA =>
 aA 38 ZS vD Hy (some ⟨pI, 0, none⟩) 1 1 LA (fun Ti FM =>
 aF (some Ti) fun WB vH Bz =>
 sT FM k9 1 (.slice WB vH Bz) fun eL =>
 J25 [] eL) Kp) Kp) ∧
 True) ∧
 ∀ junk60 : Nat → Value, ∀ z4 : Mem, (J25 [] z4) → ∃ BG : Nat, (BG < fq) ∧
 Xw BG [(iV (IntKind.wrap .i64 (gF + 1)))] z4)
 (J15 [] jI))
 (J15 [] jI)) ∧
∀ junk63 : Nat → Value, ∀ ug : Mem, (J15 [] ug) → ∃ J65 : List Value → Mem → Prop, (∃ I66 : IT, (∃ Kt, I66 Kt [(iV 0)] ug) ∧
 ∀ (Rt : Nat) (_ : Nat → Value) (IL : Int) (Dy : Mem), (I66 Rt [(iV IL)] Dy) → rS Dy k1 3 fun A72 Ov HA =>
 aM (decide (IL < Ov))
 (aM (decide (IL < 8))
 (rS Dy k1 3 fun A75 P1 z8 =>
 (0 ≤ IL) ∧
 (IL < P1) ∧
 aE A75 fun Dq Ru =>
 eT Dy Dq (Ru + ((Int.toNat IL) * 3)) fun Hw Rz Wv =>
 aO Dy mc fun C2 ZQ =>
 pA ZQ C2 (iV Hw) (iV Rz) (iV Wv) fun OG =>
 rII OG C2 0 fun Ky HB =>
 rS OG k9 1 fun A90 Ox PN =>
 rI OG C2 2 fun Dz =>
 (True) ∧
 ae Tryz.prog 69 #[(iV Ky), (iV 3)] OG (fun v94 P2 =>
 bG (some v94) .i64 fun SU =>
 eI P2 C2 2 Dz ∧
 eS P2 k9 1 A90 Ox PN ∧
 eI P2 C2 1 HB ∧
 (True) ∧
 ae Tryz.prog 69 #[(iV HB), (iV (Ox : Int))] P2 (fun Xz Kx =>
 bG (some Xz) .i64 fun XA =>
 eI Kx C2 2 Dz ∧
 eS Kx k9 1 A90 Ox PN ∧
 eI Kx C2 1 HB ∧
 (True) ∧
 ae Tryz.prog 69 #[(iV Dz), (iV 8)] Kx (fun FY uh =>
 bG (some FY) .i64 fun BA =>
 eI uh C2 2 Dz ∧
 eS uh k9 1 A90 Ox PN ∧
 eI uh C2 1 HB ∧
 aO uh mc fun BP DA =>
 pA DA BP (iV SU) (iV XA) (iV BA) fun vI =>
 eI vI C2 2 Dz ∧
 eS vI k9 1 A90 Ox PN ∧
 eI vI C2 1 HB ∧
 rS vI k9 1 fun A108 FI Tj =>
 ∃ J111 : List Value → Mem → Prop, (aM ((FI : Int) == 0)
 (sT vI BP 0 (iV 2) fun nL =>
 sT nL BP 1 (iV 0) fun XB =>
 sT XB BP 2 (iV 0) fun PS =>
 J111 [] PS)
 (J111 [] vI)) ∧
 ∀ junk115 : Nat → Value, ∀ DB : Mem, (J111 [] DB) → rS DB k9 3 fun LF z7 gS =>
 eT DB BP 0 fun LG LH FZ =>
 aO DB (cl [(iV LG), (iV LH), (iV FZ)] 171) fun IM FK =>
 aA 71 LF z7 gS (some ⟨IM, 0, none⟩) 1 1 FK (fun Tk M126 =>
 aF (some Tk) fun A127 LI uN =>
 sT M126 k9 3 (.slice A127 LI uN) fun Ae =>
 ∃ DC : Nat, (DC < Rt) ∧
 I66 DC [(iV (IntKind.wrap .i64 (IL + 1)))] Ae) Kp) Kp) Kp) Kp)
 (J65 [] Dy))
 (J65 [] Dy)) ∧
∀ junk132 : Nat → Value, ∀ Tl : Mem, (J65 [] Tl) → rS Tl k1 0 fun Th Dx xq =>
rS Tl k1 0 fun A137 oH Xv =>
((0 : Int) ≤ xq) ∧
((xq : Int) ≤ xq) ∧
((0 : Int) ≤ (if (5 : Int) < (oH : Int) then 5 else (oH : Int))) ∧
(((if (5 : Int) < (oH : Int) then 5 else (oH : Int)) : Int) ≤ (xq : Int)) ∧
((0 : Int) ≤ 0) ∧
((0 : Int) ≤ (if (5 : Int) < (oH : Int) then 5 else (oH : Int))) ∧
∃ J140 : List Value → Mem → Prop, (aM (((((Int.toNat (if (5 : Int) < (oH : Int) then 5 else (oH : Int))) - 0) : Nat) : Int) == 0)
 (aO Tl fU fun DD M142 =>
 aO M142 (cl [(.slice (some ⟨DD, 0, none⟩) 1 1)] 115) fun F0 DE =>
 J140 [(.slice (some ⟨F0, 0, none⟩) 1 1)] DE)
 (J140 [(.slice (jt Th 0 (Int.toNat (xq : Int)) 1) ((Int.toNat (if (5 : Int) < (oH : Int) then 5 else (oH : Int))) - 0) ((Int.toNat (xq : Int)) - 0))] Tl)) ∧
∀ junk145 : Nat → Value, ∀ IN : Option Addr, ∀ BS : Nat, ∀ F1 : Nat, ∀ M149 : Mem, (J140 [(.slice IN BS F1)] M149) → bk Tryz.prog (Go.Instr.makeSlice 70 (iV (BS : Int)) (iV (BS : Int))) M149 (fun F2 BT =>
aF (some F2) fun A152 k153 F3 =>
sT BT k9 0 (.slice A152 k153 F3) fun M155 =>
∃ I156 : IT, (∃ XC, I156 XC [(iV 0)] M155) ∧
∀ (lT : Nat) (_ : Nat → Value) (yR : Int) (F4 : Mem), (I156 lT [(iV yR)] F4) → aM (decide (yR < BS))
 ((0 ≤ yR) ∧
 (yR < BS) ∧
 aE IN fun LJ Tm =>
 rS F4 LJ (Tm + (Int.toNat yR)) fun A164 DF IP =>
 ((0 : Int) ≤ IP) ∧
 ((IP : Int) ≤ IP) ∧
 ((0 : Int) ≤ (if (20 : Int) < (DF : Int) then 20 else (DF : Int))) ∧
 (((if (20 : Int) < (DF : Int) then 20 else (DF : Int)) : Int) ≤ (IP : Int)) ∧
 ((0 : Int) ≤ 0) ∧
 ((0 : Int) ≤ (if (20 : Int) < (DF : Int) then 20 else (DF : Int))) ∧
 ∃ J167 : List Value → Mem → Prop, (aM (((((Int.toNat (if (20 : Int) < (DF : Int) then 20 else (DF : Int))) - 0) : Nat) : Int) == 0)
 (aO F4 fU fun Af M169 =>
 J167 [(.slice (some ⟨Af, 0, none⟩) 1 1)] M169)
 (J167 [(.slice (jt A164 0 (Int.toNat (IP : Int)) 4) ((Int.toNat (if (20 : Int) < (DF : Int) then 20 else (DF : Int))) - 0) ((Int.toNat (IP : Int)) - 0))] F4)) ∧
 ∀ junk170 : Nat → Value, ∀ A171 : Option Addr, ∀ P3 : Nat, ∀ BU : Nat, ∀ XD : Mem, (J167 [(.slice A171 P3 BU)] XD) → aO XD (cl [] 109) fun k175 Tn =>
 ∃ I177 : IT, (∃ LK, I177 LK [(.slice (some ⟨k175, 0, none⟩) 0 0), (iV 0)] Tn) ∧
 ∀ (F5 : Nat) (_ : Nat → Value) (LL : Option Addr) (LM : Nat) (P4 : Nat) (rZ : Int) (LN : Mem), (I177 F5 [(.slice LL LM P4), (iV rZ)] LN) → aM (decide (rZ < P3))
 ((0 ≤ rZ) ∧
 (rZ < P3) ∧
 aE A171 fun LO IQ =>
 bP LN LO (IQ + ((Int.toNat rZ) * 4)) fun LP LQ BV n191 =>
 aO LN fU fun P5 M193 =>
 mB M193 P5 (iV LP) (iV LQ) (iV BV) (iV n191) fun P6 =>
 Bt P6 k9 0 fun LR LS F6 A201 k202 k203 F7 A205 To k207 =>
 bP P6 P5 0 fun LU LV BW n211 =>
 ae Tryz.prog 70 #[(.agg #[(.slice LR LS F6), (.slice A201 k202 k203), (iV F7), (.slice A205 To k207)]), (.slice A171 P3 BU), (.agg #[(iV LU), (iV LV), (iV BW), (iV n211)])] P6 (fun v212 M213 =>
 ∃ uO DG XE P7 : Int, (v212 = (.agg #[(iV uO), (iV DG), (iV XE), (iV P7)])) ∧
 aO M213 (cl [(iV uO), (iV DG), (iV XE), (iV P7)] 109) fun k218 F8 =>
 aA 115 LL LM P4 (some ⟨k218, 0, none⟩) 1 1 F8 (fun v220 XF =>
 aF (some v220) fun A222 lU k224 =>
 ∃ XG : Nat, (XG < F5) ∧
 I177 XG [(.slice A222 lU k224), (iV (IntKind.wrap .i64 (rZ + 1)))] XF) Kp) Kp)
 (rS LN k9 0 fun A226 k227 XH =>
 (0 ≤ yR) ∧
 (yR < k227) ∧
 aE A226 fun k229 k230 =>
 sT LN k229 (k230 + (Int.toNat yR)) (.slice LL LM P4) fun P8 =>
 ∃ P9 : Nat, (P9 < lT) ∧
 I156 P9 [(iV (IntKind.wrap .i64 (yR + 1)))] P8))
 (rS F4 k9 0 fun F9 BX BY =>
 rS F4 k9 1 fun Ga Gb BZ =>
 rI F4 k9 2 fun Gc =>
 rS F4 k9 3 fun Gd Ge IS =>
 mB F4 k3 (.slice F9 BX BY) (.slice Ga Gb BZ) (iV Gc) (.slice Gd Ge IS) fun M246 =>
 Bt M246 k3 0 fun B5 B6 DH Gf B7 B8 n253 A254 IU k256 =>
 K (.agg #[(.slice B5 B6 DH), (.slice Gf B7 B8), (iV n253), (.slice A254 IU k256)]) M246)) Kp) Kp) :
 ae Tryz.prog 35 #[.agg #[.slice iR iS iT, .slice iU iW iX, .int .i64 kT, .slice jS jT jU]] M K Kp := vw [(1000000, .cut []), (2000000, .loop [(4, .c (.int .i64))]), (5, .Pv [0, 1, 0, 4, 0, 28, 60, 124, 252, 511, 1023, 2047] (sy [0, 2, 4, 3, 5, 6] (.fork 1 (sy [7, 8, 9, 10, 11] .done) (.fork 7 (sy [1, 8, 9, 10, 11] .done) .dead))) []), (1000002, .cut []), (2000002, .loop [(5, .c (.int .i64))]), (10, .bH [0, 1, 3, 0, 8, 0, 32, 96, 255, 0, 512, 2047, 4095, 0, 16383] (sy [0, 3, 5, 9, 1] (.cS 4 (.cS 6 (sy [7] (.cS 10 (.late 2 (.late 8 (.late 11 (sy [12, 13, 14] .done)))))))))), (3000072, .cut []), (3000089, .cut [(8, .c .sl)]), (2000004, .loop [(99, .c (.int .i64))]), (3000111, .cut [(10, .c .sl)]), (2000006, .loop [(11, .c .sl), (117, .c (.int .i64))])] Tryz.func35 h
theorem uP {x0 : Int} {x1 : Int} (h :
aM (decide ((x1 : Int) < 1))
 (K (iV 0) M)
 (((x1 : Int) ≠ 0) ∧
 ((x1 : Int) ≠ 0) ∧
 K (iV (Int.tmod (IntKind.wrap .i64 ((Int.tmod x0 x1) + x1)) x1)) M)) :
 ae Tryz.prog 69 #[.int .i64 x0, .int .i64 x1] M K Kp := vw [] Tryz.func69 h
theorem uQ {iR : Option Addr} {iS iT : Nat} {iU : Option Addr} {iW iX : Nat} {kT : Int} {jS : Option Addr} {jT jU : Nat} {B1 : Option Addr} {m1 c1 : Nat} {oB : Int} {rH : Int} {oD : Int} {rJ : Int} (h :
aO M (cl [(.slice iR iS iT), (.slice iU iW iX), (iV kT), (.slice jS jT jU)] 73) fun k1 M2 =>
aO M2 (cl [(iV oB), (iV rH), (iV oD), (iV rJ)] 109) fun k3 M4 =>
aO M4 fU fun k5 M6 =>
rI M6 k3 0 fun n7 =>
ae Tryz.prog 69 #[(iV n7), (iV 23)] M6 (fun v8 M9 =>
bG (some v8) .i64 fun dI =>
sT M9 k3 0 (iV dI) fun iQ =>
rI iQ k3 1 fun hG =>
rI iQ k3 2 fun m9 =>
rI iQ k3 3 fun jD =>
ae Tryz.prog 69 #[(iV hG), (iV 8)] iQ (fun By gj =>
bG (some By) .i64 fun kS =>
eI gj k3 3 jD ∧
eI gj k3 2 m9 ∧
ae Tryz.prog 69 #[(iV m9), (iV 8)] gj (fun FA m7 =>
bG (some FA) .i64 fun gF =>
eI m7 k3 3 jD ∧
eI m7 k3 2 m9 ∧
ae Tryz.prog 69 #[(iV jD), (iV 8)] m7 (fun II c9 =>
bG (some II) .i64 fun nY =>
eI c9 k3 3 jD ∧
eI c9 k3 2 m9 ∧
rSS c9 k1 0 fun CW jJ gM BI gV gk =>
rS c9 k1 3 fun yG iM iy =>
rI c9 k3 0 fun kP =>
aM (kP == 1)
 (rI c9 k3 2 fun vg =>
 mB c9 k5 (iV 1) (iV kS) (iV vg) (iV 0) fun lB =>
 bP lB k5 0 fun yC ni zG BL =>
 K (.agg #[(iV yC), (iV ni), (iV zG), (iV BL)]) lB)
 (aM (kP == 2)
 (sT c9 k5 0 (iV 2) fun xd =>
 sT xd k5 1 (iV kS) fun qs =>
 sT qs k5 2 (iV gF) fun IG =>
 sT IG k5 3 (iV 0) fun WG =>
 bP WG k5 0 fun Dh FQ PT Aa =>
 K (.agg #[(iV Dh), (iV FQ), (iV PT), (iV Aa)]) WG)
 (aM (kP == 3)
 (rI c9 k3 0 fun C3 =>
 mB c9 k5 (iV C3) (iV kS) (iV gF) (iV nY) fun FM =>
 bP FM k5 0 fun Kz Xp Dg Ip =>
 K (.agg #[(iV Kz), (iV Xp), (iV Dg), (iV Ip)]) FM)
 (aM (kP == 4)
 (rI c9 k3 0 fun vA =>
 mB c9 k5 (iV vA) (iV kS) (iV gF) (iV nY) fun ug =>
 bP ug k5 0 fun Hv PJ IE xe =>
 K (.agg #[(iV Hv), (iV PJ), (iV IE), (iV xe)]) ug)
 (aM (kP == 5)
 (rI c9 k3 0 fun Lo =>
 mB c9 k5 (iV Lo) (iV kS) (iV gF) (iV nY) fun IV =>
 bP IV k5 0 fun n74 SQ Xe Xf =>
 K (.agg #[(iV n74), (iV SQ), (iV Xe), (iV Xf)]) IV)
 (aM (kP == 6)
 (rI c9 k3 0 fun n78 =>
 mB c9 k5 (iV n78) (iV kS) (iV gF) (iV nY) fun M82 =>
 bP M82 k5 0 fun Ww Rs RA n86 =>
 K (.agg #[(iV Ww), (iV Rs), (iV RA), (iV n86)]) M82)
 (aM (kP == 7)
 (rI c9 k3 1 fun n87 =>
 ae Tryz.prog 69 #[(iV n87), (iV (m1 : Int))] c9 (fun Qa Kw =>
 bG (some Qa) .i64 fun zF =>
 mB Kw k5 (iV 7) (iV zF) (iV 0) (iV 0) fun S4 =>
 bP S4 k5 0 fun SS SU n97 n98 =>
 K (.agg #[(iV SS), (iV SU), (iV n97), (iV n98)]) S4) Kp)
 (aM (kP == 8)
 (rI c9 k3 2 fun XA =>
 ae Tryz.prog 69 #[(iV XA), (iV (m1 : Int))] c9 (fun FY uh =>
 bG (some FY) .i64 fun BA =>
 mB uh k5 (iV 8) (iV kS) (iV BA) (iV 0) fun M106 =>
 bP M106 k5 0 fun yO qv S5 FC =>
 K (.agg #[(iV yO), (iV qv), (iV S5), (iV FC)]) M106) Kp)
 (aM (kP == 9)
 (rI c9 k3 1 fun Tp =>
 rI c9 k3 0 fun Lg =>
 ae Tryz.prog 69 #[(iV Tp), (iV (jJ : Int))] c9 (fun BE PS =>
 bG (some BE) .i64 fun LW =>
 eI PS k3 0 Lg ∧
 mB PS k5 (iV Lg) (iV LW) (iV gF) (iV nY) fun Gg =>
 eI Gg k3 0 Lg ∧
 bP Gg k5 0 fun LG LH FZ FV =>
 K (.agg #[(iV LG), (iV LH), (iV FZ), (iV FV)]) Gg) Kp)
 (aM (kP == 11)
 (rI c9 k3 1 fun B9 =>
 rI c9 k3 0 fun yS =>
 ae Tryz.prog 69 #[(iV B9), (iV (jJ : Int))] c9 (fun LX yT =>
 bG (some LX) .i64 fun lD =>
 eI yT k3 0 yS ∧
 mB yT k5 (iV yS) (iV lD) (iV gF) (iV nY) fun oI =>
 eI oI k3 0 yS ∧
 bP oI k5 0 fun XI Ag xw XJ =>
 K (.agg #[(iV XI), (iV Ag), (iV xw), (iV XJ)]) oI) Kp)
 (aM (kP == 10)
 (rI c9 k3 0 fun xu =>
 mB c9 k5 (iV xu) (iV kS) (iV 0) (iV 0) fun LY =>
 bP LY k5 0 fun yU Tq n144 Tr =>
 K (.agg #[(iV yU), (iV Tq), (iV n144), (iV Tr)]) LY)
 (aM (kP == 17)
 (rI c9 k3 0 fun n146 =>
 mB c9 k5 (iV n146) (iV kS) (iV 0) (iV 0) fun M150 =>
 bP M150 k5 0 fun Ts yV Gh Tt =>
 K (.agg #[(iV Ts), (iV yV), (iV Gh), (iV Tt)]) M150)
 (aM (kP == 20)
 (rI c9 k3 0 fun LZ =>
 mB c9 k5 (iV LZ) (iV kS) (iV 0) (iV 0) fun Qb =>
 bP Qb k5 0 fun yR n161 n162 Ma =>
 K (.agg #[(iV yR), (iV n161), (iV n162), (iV Ma)]) Qb)
 (aM (kP == 13)
 (aM ((gV : Int) == 0)
 (sT c9 k5 0 (iV 0) fun M164 =>
 sT M164 k5 1 (iV 0) fun Gi =>
 sT Gi k5 2 (iV 0) fun Qc =>
 sT Qc k5 3 (iV 0) fun Gj =>
 bP Gj k5 0 fun n168 Tu n170 Tv =>
 K (.agg #[(iV n168), (iV Tu), (iV n170), (iV Tv)]) Gj)
 (rI c9 k3 1 fun n172 =>
 rI c9 k3 0 fun n173 =>
 (True) ∧
 ae Tryz.prog 69 #[(iV n172), (iV (gV : Int))] c9 (fun v174 Tw =>
 bG (some v174) .i64 fun Gk =>
 eI Tw k3 0 n173 ∧
 aO Tw fU fun mX XK =>
 mB XK mX (iV n173) (iV Gk) (iV 0) (iV 0) fun vW =>
 eI vW k3 0 n173 ∧
 rI vW k3 0 fun uR =>
 aM (decide (uR < 15))
 (sT vW mX 2 (iV gF) fun Mb =>
 rI Mb k3 0 fun IW =>
 aM (IW == 14)
 (sT Mb mX 3 (iV nY) fun M186 =>
 bP M186 mX 0 fun n187 LP LQ BV =>
 mB M186 k5 (iV n187) (iV LP) (iV LQ) (iV BV) fun M194 =>
 bP M194 k5 0 fun Tx Mc Gl n198 =>
 K (.agg #[(iV Tx), (iV Mc), (iV Gl), (iV n198)]) M194)
 (rI Mb mX 0 fun n199 =>
 rI Mb mX 1 fun Ty =>
 rI Mb mX 2 fun n201 =>
 rI Mb mX 3 fun Tz =>
 mB Mb k5 (iV n199) (iV Ty) (iV n201) (iV Tz) fun TA =>
 bP TA k5 0 fun Md LU LV BW =>
 K (.agg #[(iV Md), (iV LU), (iV LV), (iV BW)]) TA))
 (rI vW k3 0 fun n211 =>
 aM (n211 == 14)
 (sT vW mX 3 (iV nY) fun XL =>
 bP XL mX 0 fun Gm uO DG XE =>
 mB XL k5 (iV Gm) (iV uO) (iV DG) (iV XE) fun XM =>
 bP XM k5 0 fun n221 n222 Me n224 =>
 K (.agg #[(iV n221), (iV n222), (iV Me), (iV n224)]) XM)
 (rI vW mX 0 fun n225 =>
 rI vW mX 1 fun TB =>
 rI vW mX 2 fun n227 =>
 rI vW mX 3 fun n228 =>
 mB vW k5 (iV n225) (iV TB) (iV n227) (iV n228) fun Ca =>
 bP Ca k5 0 fun Ah n234 TC n236 =>
 K (.agg #[(iV Ah), (iV n234), (iV TC), (iV n236)]) Ca))) Kp))
 (aM (kP == 14)
 (aM ((gV : Int) == 0)
 (sT c9 k5 0 (iV 0) fun M237 =>
 sT M237 k5 1 (iV 0) fun XN =>
 sT XN k5 2 (iV 0) fun XO =>
 sT XO k5 3 (iV 0) fun M240 =>
 bP M240 k5 0 fun TD TE Gn n244 =>
 K (.agg #[(iV TD), (iV TE), (iV Gn), (iV n244)]) M240)
 (rI c9 k3 1 fun n245 =>
 rI c9 k3 0 fun yW =>
 (True) ∧
 ae Tryz.prog 69 #[(iV n245), (iV (gV : Int))] c9 (fun TF M248 =>
 bG (some TF) .i64 fun n249 =>
 eI M248 k3 0 yW ∧
 aO M248 fU fun xx XP =>
 mB XP xx (iV yW) (iV n249) (iV 0) (iV 0) fun yX =>
 eI yX k3 0 yW ∧
 rI yX k3 0 fun vX =>
 aM (decide (vX < 15))
 (sT yX xx 2 (iV gF) fun Mf =>
 rI Mf k3 0 fun n258 =>
 aM (n258 == 14)
 (sT Mf xx 3 (iV nY) fun M259 =>
 bP M259 xx 0 fun Mg Gp n262 n263 =>
 mB M259 k5 (iV Mg) (iV Gp) (iV n262) (iV n263) fun M267 =>
 bP M267 k5 0 fun IX n269 n270 n271 =>
 K (.agg #[(iV IX), (iV n269), (iV n270), (iV n271)]) M267)
 (rI Mf xx 0 fun TG =>
 rI Mf xx 1 fun n273 =>
 rI Mf xx 2 fun Gq =>
 rI Mf xx 3 fun Mh =>
 mB Mf k5 (iV TG) (iV n273) (iV Gq) (iV Mh) fun TH =>
 bP TH k5 0 fun n280 n281 n282 n283 =>
 K (.agg #[(iV n280), (iV n281), (iV n282), (iV n283)]) TH))
 (rI yX k3 0 fun n284 =>
 aM (n284 == 14)
 (sT yX xx 3 (iV nY) fun M285 =>
 bP M285 xx 0 fun TI n287 n288 TJ =>
 mB M285 k5 (iV TI) (iV n287) (iV n288) (iV TJ) fun M293 =>
 bP M293 k5 0 fun n294 n295 Mi n297 =>
 K (.agg #[(iV n294), (iV n295), (iV Mi), (iV n297)]) M293)
 (rI yX xx 0 fun n298 =>
 rI yX xx 1 fun n299 =>
 rI yX xx 2 fun Mj =>
 rI yX xx 3 fun Mk =>
 mB yX k5 (iV n298) (iV n299) (iV Mj) (iV Mk) fun Qd =>
 bP Qd k5 0 fun n306 n307 n308 n309 =>
 K (.agg #[(iV n306), (iV n307), (iV n308), (iV n309)]) Qd))) Kp))
 (aM (kP == 15)
 (aM ((gV : Int) == 0)
 (sT c9 k5 0 (iV 0) fun M310 =>
 sT M310 k5 1 (iV 0) fun M311 =>
 sT M311 k5 2 (iV 0) fun M312 =>
 sT M312 k5 3 (iV 0) fun M313 =>
 bP M313 k5 0 fun IY n315 n316 n317 =>
 K (.agg #[(iV IY), (iV n315), (iV n316), (iV n317)]) M313)
 (rI c9 k3 1 fun n318 =>
 rI c9 k3 0 fun TK =>
 (True) ∧
 ae Tryz.prog 69 #[(iV n318), (iV (gV : Int))] c9 (fun v320 M321 =>
 bG (some v320) .i64 fun n322 =>
 eI M321 k3 0 TK ∧
 aO M321 fU fun xy M324 =>
 mB M324 xy (iV TK) (iV n322) (iV 0) (iV 0) fun DI =>
 eI DI k3 0 TK ∧
 rI DI k3 0 fun n329 =>
 aM (decide (n329 < 15))
 (sT DI xy 2 (iV gF) fun DJ =>
 rI DJ k3 0 fun TL =>
 aM (TL == 14)
 (sT DJ xy 3 (iV nY) fun M332 =>
 bP M332 xy 0 fun n333 n334 n335 n336 =>
 mB M332 k5 (iV n333) (iV n334) (iV n335) (iV n336) fun M340 =>
 bP M340 k5 0 fun n341 TM IZ I0 =>
 K (.agg #[(iV n341), (iV TM), (iV IZ), (iV I0)]) M340)
 (rI DJ xy 0 fun Qe =>
 rI DJ xy 1 fun I2 =>
 rI DJ xy 2 fun n347 =>
 rI DJ xy 3 fun n348 =>
 mB DJ k5 (iV Qe) (iV I2) (iV n347) (iV n348) fun M352 =>
 bP M352 k5 0 fun n353 n354 n355 n356 =>
 K (.agg #[(iV n353), (iV n354), (iV n355), (iV n356)]) M352))
 (rI DI k3 0 fun n357 =>
 aM (n357 == 14)
 (sT DI xy 3 (iV nY) fun M358 =>
 bP M358 xy 0 fun n359 n360 n361 n362 =>
 mB M358 k5 (iV n359) (iV n360) (iV n361) (iV n362) fun M366 =>
 bP M366 k5 0 fun n367 n368 n369 n370 =>
 K (.agg #[(iV n367), (iV n368), (iV n369), (iV n370)]) M366)
 (rI DI xy 0 fun n371 =>
 rI DI xy 1 fun n372 =>
 rI DI xy 2 fun n373 =>
 rI DI xy 3 fun n374 =>
 mB DI k5 (iV n371) (iV n372) (iV n373) (iV n374) fun M378 =>
 bP M378 k5 0 fun n379 n380 n381 TN =>
 K (.agg #[(iV n379), (iV n380), (iV n381), (iV TN)]) M378))) Kp))
 (aM (kP == 16)
 (aM ((iM : Int) == 0)
 (sT c9 k5 0 (iV 0) fun M383 =>
 sT M383 k5 1 (iV 0) fun M384 =>
 sT M384 k5 2 (iV 0) fun M385 =>
 sT M385 k5 3 (iV 0) fun M386 =>
 bP M386 k5 0 fun Qf n388 n389 n390 =>
 K (.agg #[(iV Qf), (iV n388), (iV n389), (iV n390)]) M386)
 (rI c9 k3 1 fun n391 =>
 ae Tryz.prog 69 #[(iV n391), (iV (iM : Int))] c9 (fun v392 M393 =>
 bG (some v392) .i64 fun Ml =>
 rI M393 k3 2 fun n395 =>
 ae Tryz.prog 69 #[(iV n395), (iV (IntKind.wrap .i64 ((iM : Int) - Ml)))] M393 (fun v396 M397 =>
 bG (some v396) .i64 fun n398 =>
 mB M397 k5 (iV 16) (iV Ml) (iV (IntKind.wrap .i64 (1 + n398))) (iV nY) fun M402 =>
 bP M402 k5 0 fun n403 n404 n405 n406 =>
 K (.agg #[(iV n403), (iV n404), (iV n405), (iV n406)]) M402) Kp) Kp))
 (aM (kP == 18)
 (rI c9 k1 2 fun n407 =>
 aM (n407 == 0)
 (sT c9 k5 0 (iV 0) fun M408 =>
 sT M408 k5 1 (iV 0) fun M409 =>
 sT M409 k5 2 (iV 0) fun M410 =>
 sT M410 k5 3 (iV 0) fun M411 =>
 bP M411 k5 0 fun n412 n413 n414 n415 =>
 K (.agg #[(iV n412), (iV n413), (iV n414), (iV n415)]) M411)
 (rI c9 k3 1 fun n416 =>
 rI c9 k1 2 fun n417 =>
 rI c9 k3 0 fun TO =>
 ae Tryz.prog 69 #[(iV n416), (iV n417)] c9 (fun v419 M420 =>
 bG (some v419) .i64 fun n421 =>
 eI M420 k3 0 TO ∧
 mB M420 k5 (iV TO) (iV n421) (iV 0) (iV 0) fun M425 =>
 eI M425 k3 0 TO ∧
 bP M425 k5 0 fun n426 n427 n428 n429 =>
 K (.agg #[(iV n426), (iV n427), (iV n428), (iV n429)]) M425) Kp))
 (aM (kP == 19)
 (rI c9 k1 2 fun n430 =>
 aM (n430 == 0)
 (sT c9 k5 0 (iV 0) fun M431 =>
 sT M431 k5 1 (iV 0) fun M432 =>
 sT M432 k5 2 (iV 0) fun M433 =>
 sT M433 k5 3 (iV 0) fun M434 =>
 bP M434 k5 0 fun n435 n436 n437 n438 =>
 K (.agg #[(iV n435), (iV n436), (iV n437), (iV n438)]) M434)
 (rI c9 k3 1 fun n439 =>
 rI c9 k1 2 fun n440 =>
 rI c9 k3 0 fun TP =>
 ae Tryz.prog 69 #[(iV n439), (iV n440)] c9 (fun v442 M443 =>
 bG (some v442) .i64 fun n444 =>
 eI M443 k3 0 TP ∧
 mB M443 k5 (iV TP) (iV n444) (iV 0) (iV 0) fun M448 =>
 eI M448 k3 0 TP ∧
 bP M448 k5 0 fun n449 n450 n451 n452 =>
 K (.agg #[(iV n449), (iV n450), (iV n451), (iV n452)]) M448) Kp))
 (aM (kP == 21)
 (rI c9 k3 2 fun n453 =>
 ae Tryz.prog 69 #[(iV n453), (iV 1000)] c9 (fun v454 M455 =>
 bG (some v454) .i64 fun n456 =>
 mB M455 k5 (iV 21) (iV kS) (iV (IntKind.wrap .i64 (1 + n456))) (iV 0) fun M460 =>
 bP M460 k5 0 fun n461 n462 n463 n464 =>
 K (.agg #[(iV n461), (iV n462), (iV n463), (iV n464)]) M460) Kp)
 (aM (kP == 22)
 (rI c9 k3 1 fun n465 =>
 ae Tryz.prog 69 #[(iV n465), (iV 1000)] c9 (fun v466 M467 =>
 bG (some v466) .i64 fun n468 =>
 mB M467 k5 (iV 22) (iV n468) (iV 0) (iV 0) fun M472 =>
 bP M472 k5 0 fun n473 n474 n475 n476 =>
 K (.agg #[(iV n473), (iV n474), (iV n475), (iV n476)]) M472) Kp)
 (rI c9 k3 0 fun n477 =>
 mB c9 k5 (iV n477) (iV 0) (iV 0) (iV 0) fun M481 =>
 bP M481 k5 0 fun n482 n483 Qg Qh =>
 K (.agg #[(iV n482), (iV n483), (iV Qg), (iV Qh)]) M481)))))))))))))))))))))) Kp) Kp) Kp) Kp) :
 ae Tryz.prog 70 #[.agg #[.slice iR iS iT, .slice iU iW iX, .int .i64 kT, .slice jS jT jU], .slice B1 m1 c1, .agg #[.int .i64 oB, .int .i64 rH, .int .i64 oD, .int .i64 rJ]] M K Kp := vw [(2, .bH [0, 1, 3, 0, 8, 31, 0, 64, 255, 511, 1023, 2047] (sy [0, 3, 6, 1] (.cS 4 (.cS 7 (sy [2, 5, 8, 9, 10, 11] .done))))), (3, .bH [0, 1, 3, 0, 8, 24, 0, 64, 192, 7, 575, 2047] (sy [0, 3, 6, 1, 2, 9, 4, 5, 10, 7, 8, 11] .done)), (20, .bH [0, 1, 0, 4, 0, 28, 0, 0, 255, 511] (sy [0, 2, 4, 6, 7, 3] (.cS 1 (sy [5, 8, 9] .done)))), (30, .bH [0, 1, 0, 4, 0, 28, 63, 0, 255] (sy [0, 2, 4, 3] (.cS 1 (.late 5 (sy [6, 7, 8] .done))))), (45, .bH [0, 1, 0, 4, 0, 16, 60, 127, 255] (sy [0, 2, 4, 3, 5] (.cS 1 (sy [6, 7, 8] .done))))] Tryz.func70 h
end Go.Proofs
namespace Go.Proofs
open Go.AF
set_option maxRecDepth 100000
variable {M : Mem} {K : Value → Mem → Prop} {Kp : List PanicEntry → Mem → Prop}
theorem uS {x0 : Int} (h :
aO M c7 fun k1 M2 =>
Bs M2 k1 (iV (if ((if (16 : Int) < x0 then 16 else x0) : Int) > 0 then (if (16 : Int) < x0 then 16 else x0) else 0)) (.slice none 0 0) (.slice none 0 0) (.slice none 0 0) (.bool false) fun M7 =>
cI M7 k1 0 fun n8 A9 eB eo m8 eu fB oW fx fT t18 =>
K (.agg #[(iV n8), (.slice A9 eB eo), (.slice m8 eu fB), (.slice oW fx fT), (.bool t18)]) M7) :
 ae Tryz.prog 75 #[.int .i64 x0] M K Kp := vw [] Tryz.func75 h
theorem r7 {oy : Int} {iU : Option Addr} {iW iX : Nat} {xz : Option Addr} {xA xB : Nat} {jS : Option Addr} {jT jU : Nat} {Cb : Bool} {x1 : Int} (h :
aO M (cl [(iV oy), (.slice iU iW iX), (.slice xz xA xB), (.slice jS jT jU), (.bool Cb)] 190) fun k1 M2 =>
aO M2 c7 fun k3 M4 =>
aO M4 iC fun k5 M6 =>
rB M6 k1 4 fun t7 =>
aM t7
 (rI M6 k1 0 fun n8 =>
 rS M6 k1 1 fun A9 eB eo =>
 rS M6 k1 2 fun m8 eu fB =>
 rS M6 k1 3 fun oW fx fT =>
 rB M6 k1 4 fun t18 =>
 Bs M6 k3 (iV n8) (.slice A9 eB eo) (.slice m8 eu fB) (.slice oW fx fT) (.bool t18) fun mD =>
 pA mD k5 (iV 0) (iV 0) (iV 0) fun xY =>
 cI xY k3 0 fun Ll z5 gk jg Io iy lz Et kD nK t37 =>
 eT xY k5 0 fun mE yC ni =>
 K (.tuple #[(.agg #[(iV Ll), (.slice z5 gk jg), (.slice Io iy lz), (.slice Et kD nK), (.bool t37)]), (.agg #[(iV mE), (iV yC), (iV ni)]), (.bool false), (iV 10)]) xY)
 (rS M6 k1 3 fun Ld jC jK =>
 aM (decide ((jC : Int) > 0))
 (rS M6 k1 3 fun AJ wI me =>
 ((0 : Int) ≤ 0) ∧
 ((0 : Int) < wI) ∧
 aE AJ fun kj xZ =>
 eT M6 kj (xZ + 0) fun PT Aa C3 =>
 aO M6 iC fun pI LA =>
 pA LA pI (iV PT) (iV Aa) (iV C3) fun Ks =>
 sT Ks pI 2 (iV x1) fun Hu =>
 rS Hu k1 3 fun A58 Er Lm =>
 ae Tryz.prog 218 #[(.slice A58 Er Lm)] Hu (fun Mm Rp =>
 aF (some Mm) fun ZX WC Oz =>
 sT Rp k1 3 (.slice ZX WC Oz) fun OC =>
 cI OC k1 0 fun IE WI ZW Eu A71 Ku Ov A74 S3 P1 t77 =>
 eT OC pI 0 fun n78 TQ Hw =>
 Bs OC k3 (iV IE) (.slice WI ZW Eu) (.slice A71 Ku Ov) (.slice A74 S3 P1) (.bool t77) fun ZR =>
 ((Mem.fX ZR ⟨pI, 0, none⟩ 0 3) = some [(iV n78), (iV TQ), (iV Hw)]) ∧
 pA ZR k5 (iV n78) (iV TQ) (iV Hw) fun M88 =>
 ((Mem.fX M88 ⟨pI, 0, none⟩ 0 3) = some [(iV n78), (iV TQ), (iV Hw)]) ∧
 cI M88 k3 0 fun HB A90 Ox PN Xs Oy OF A96 Rv ZP t99 =>
 eT M88 k5 0 fun yD vE BA =>
 K (.tuple #[(.agg #[(iV HB), (.slice A90 Ox PN), (.slice Xs Oy OF), (.slice A96 Rv ZP), (.bool t99)]), (.agg #[(iV yD), (iV vE), (iV BA)]), (.bool true), (iV 0)]) M88) Kp)
 (rS M6 k1 1 fun A103 SZ PO =>
 rI M6 k1 0 fun yN =>
 aM (decide ((SZ : Int) ≥ yN))
 (rI M6 k1 0 fun yO =>
 rS M6 k1 1 fun A108 FI Tj =>
 rS M6 k1 2 fun A111 k112 FU =>
 rS M6 k1 3 fun A114 k115 Iv =>
 rB M6 k1 4 fun t117 =>
 Bs M6 k3 (iV yO) (.slice A108 FI Tj) (.slice A111 k112 FU) (.slice A114 k115 Iv) (.bool t117) fun M122 =>
 pA M122 k5 (iV 0) (iV 0) (iV 0) fun S6 =>
 cI S6 k3 0 fun Mn A127 LI uN A130 DC FX A133 Cc Dx t136 =>
 eT S6 k5 0 fun xu Ai I7 =>
 K (.tuple #[(.agg #[(iV Mn), (.slice A127 LI uN), (.slice A130 DC FX), (.slice A133 Cc Dx), (.bool t136)]), (.agg #[(iV xu), (iV Ai), (iV I7)]), (.bool false), (iV 6)]) S6)
 (aO M6 (cl [] 2) fun yQ LY =>
 rS LY k1 1 fun XQ F0 DK =>
 aA 59 (some ⟨yQ, 0, none⟩) 0 0 XQ F0 DK LY (fun Gr M146 =>
 aF (some Gr) fun A147 F1 k149 =>
 aO M146 (cl [(iV x1)] 2) fun Mo BT =>
 aA 59 A147 F1 k149 (some ⟨Mo, 0, none⟩) 1 1 BT (fun TR M153 =>
 aF (some TR) fun TS yY Mp =>
 sT M153 k1 1 (.slice TS yY Mp) fun TT =>
 cI TT k1 0 fun TU A159 Aj DL A162 Tm k164 A165 IP I8 t168 =>
 Bs TT k3 (iV TU) (.slice A159 Aj DL) (.slice A162 Tm k164) (.slice A165 IP I8) (.bool t168) fun M173 =>
 pA M173 k5 (iV 0) (iV 0) (iV 0) fun Tn =>
 cI Tn k3 0 fun I9 A178 F5 Ja LL LM P4 A184 Mq LO t187 =>
 eT Tn k5 0 fun LP LQ BV =>
 K (.tuple #[(.agg #[(iV I9), (.slice A178 F5 Ja), (.slice LL LM P4), (.slice A184 Mq LO), (.bool t187)]), (.agg #[(iV LP), (iV LQ), (iV BV)]), (.bool false), (iV 0)]) Tn) Kp) Kp)))) :
 ae Tryz.prog 187 #[.agg #[.int .i64 oy, .slice iU iW iX, .slice xz xA xB, .slice jS jT jU, .bool Cb], .int .i64 x1] M K Kp := vw [(7, .bH [0, 0, 1, 7, 15, 31] (sy [0] (.cS 1 (sy [2, 3, 4, 5] .done))))] Tryz.func187 h
theorem r9 {oy : Int} {iU : Option Addr} {iW iX : Nat} {xz : Option Addr} {xA xB : Nat} {jS : Option Addr} {jT jU : Nat} {Cb : Bool} (h :
aO M (cl [(iV oy), (.slice iU iW iX), (.slice xz xA xB), (.slice jS jT jU), (.bool Cb)] 190) fun k1 M2 =>
aO M2 c7 fun k3 M4 =>
aO M4 iC fun k5 M6 =>
aO M6 iC fun k7 M8 =>
pA M8 k7 (iV 0) (iV 0) (iV 0) fun iQ =>
aO iQ (cl [] 2) fun gI lG =>
rS lG k1 1 fun ue jy fx =>
aA 59 (some ⟨gI, 0, none⟩) 0 0 ue jy fx lG (fun Ta lR =>
aF (some Ta) fun Hx fV lH =>
rS lR k1 2 fun Ly gN nW =>
aM (decide ((gN : Int) > 0))
 (rS lR k1 2 fun CY gM kK =>
 ((0 : Int) ≤ 0) ∧
 ((0 : Int) < gM) ∧
 aE CY fun gV gk =>
 eT lR gV (gk + 0) fun xl ry n32 =>
 pA lR k7 (iV xl) (iV ry) (iV n32) fun vj =>
 rI vj k7 2 fun tH =>
 aO vj (cl [(iV tH)] 2) fun qt lB =>
 aA 59 Hx fV lH (some ⟨qt, 0, none⟩) 1 1 lB (fun v39 FP =>
 aF (some v39) fun Ld jC jK =>
 rS FP k1 2 fun AJ wI me =>
 ae Tryz.prog 218 #[(.slice AJ wI me)] FP (fun v47 Ep =>
 aF (some v47) fun ZS vD Hy =>
 sT Ep k1 2 (.slice ZS vD Hy) fun ya =>
 aM (decide ((jC : Int) > 0))
 (((0 : Int) ≤ jK) ∧
 ((jK : Int) ≤ jK) ∧
 ((0 : Int) ≤ jC) ∧
 ((jC : Int) ≤ jK) ∧
 ((0 : Int) ≤ 1) ∧
 ((1 : Int) ≤ jC) ∧
 sT ya k1 1 (.slice (jt Ld 1 (Int.toNat (jK : Int)) 1) ((Int.toNat (jC : Int)) - 1) ((Int.toNat (jK : Int)) - 1)) fun LA =>
 ((0 : Int) ≤ 0) ∧
 ((0 : Int) < jC) ∧
 aE Ld fun xX Xq =>
 cI LA k1 0 fun Kz Rq Bz Er Wz ve BG ZX WC Oz t66 =>
 rI LA xX (Xq + 0) fun IE =>
 eT LA k7 0 fun xe Lo IL =>
 Bs LA k3 (iV Kz) (.slice Rq Bz Er) (.slice Wz ve BG) (.slice ZX WC Oz) (.bool t66) fun Td =>
 ((Mem.fX Td ⟨k7, 0, none⟩ 0 3) = some [(iV xe), (iV Lo), (iV IL)]) ∧
 ((Mem.ld Td ⟨xX, (Xq + 0), none⟩) = (some (iV IE))) ∧
 pA Td k5 (iV xe) (iV Lo) (iV IL) fun M78 =>
 ((Mem.fX M78 ⟨k7, 0, none⟩ 0 3) = some [(iV xe), (iV Lo), (iV IL)]) ∧
 ((Mem.ld M78 ⟨xX, (Xq + 0), none⟩) = (some (iV IE))) ∧
 cI M78 k3 0 fun TQ A80 Xk FG A83 Xu Ow A86 Lq Tb t89 =>
 eT M78 k5 0 fun zF Ix Di =>
 K (.tuple #[(.agg #[(iV TQ), (.slice A80 Xk FG), (.slice A83 Xu Ow), (.slice A86 Lq Tb), (.bool t89)]), (iV IE), (.bool true), (.agg #[(iV zF), (iV Ix), (iV Di)]), (.bool true), (iV 0)]) M78)
 (rB ya k1 4 fun t93 =>
 aM t93
 (rI ya k1 0 fun SR =>
 rS ya k1 1 fun A95 Tc Rv =>
 rS ya k1 2 fun A98 Rw qu =>
 rS ya k1 3 fun A101 FT BP =>
 rB ya k1 4 fun t104 =>
 eT ya k7 0 fun BQ yN yO =>
 Bs ya k3 (iV SR) (.slice A95 Tc Rv) (.slice A98 Rw qu) (.slice A101 FT BP) (.bool t104) fun nL =>
 ((Mem.fX nL ⟨k7, 0, none⟩ 0 3) = some [(iV BQ), (iV yN), (iV yO)]) ∧
 pA nL k5 (iV BQ) (iV yN) (iV yO) fun P0 =>
 ((Mem.fX P0 ⟨k7, 0, none⟩ 0 3) = some [(iV BQ), (iV yN), (iV yO)]) ∧
 cI P0 k3 0 fun uT LF z7 gS A120 BF yP A123 TV IK t126 =>
 eT P0 k5 0 fun Mr lD n129 =>
 K (.tuple #[(.agg #[(iV uT), (.slice LF z7 gS), (.slice A120 BF yP), (.slice A123 TV IK), (.bool t126)]), (iV 0), (.bool false), (.agg #[(iV Mr), (iV lD), (iV n129)]), (.bool true), (iV 0)]) P0)
 (rI ya k1 0 fun Qi =>
 rS ya k1 1 fun Tg FX xp =>
 rS ya k1 2 fun Th Dx xq =>
 rS ya k1 3 fun A137 oH Xv =>
 rB ya k1 4 fun t140 =>
 eT ya k7 0 fun Ms yU Tq =>
 Bs ya k3 (iV Qi) (.slice Tg FX xp) (.slice Th Dx xq) (.slice A137 oH Xv) (.bool t140) fun M148 =>
 ((Mem.fX M148 ⟨k7, 0, none⟩ 0 3) = some [(iV Ms), (iV yU), (iV Tq)]) ∧
 pA M148 k5 (iV Ms) (iV yU) (iV Tq) fun BT =>
 ((Mem.fX BT ⟨k7, 0, none⟩ 0 3) = some [(iV Ms), (iV yU), (iV Tq)]) ∧
 cI BT k3 0 fun yV Mt F3 yY A156 XC lT A159 Aj DL t162 =>
 eT BT k5 0 fun Ma Jb TW =>
 K (.tuple #[(.agg #[(iV yV), (.slice Mt F3 yY), (.slice A156 XC lT), (.slice A159 Aj DL), (.bool t162)]), (iV 0), (.bool false), (.agg #[(iV Ma), (iV Jb), (iV TW)]), (.bool true), (iV 5)]) BT))) Kp) Kp)
 (aM (decide ((fV : Int) > 0))
 (((0 : Int) ≤ lH) ∧
 ((lH : Int) ≤ lH) ∧
 ((0 : Int) ≤ fV) ∧
 ((fV : Int) ≤ lH) ∧
 ((0 : Int) ≤ 1) ∧
 ((1 : Int) ≤ fV) ∧
 sT lR k1 1 (.slice (jt Hx 1 (Int.toNat (lH : Int)) 1) ((Int.toNat (fV : Int)) - 1) ((Int.toNat (lH : Int)) - 1)) fun Qc =>
 ((0 : Int) ≤ 0) ∧
 ((0 : Int) < fV) ∧
 aE Hx fun I8 Af =>
 cI Qc k1 0 fun Tu A170 Jc P3 A173 Gs k175 TX mX LK t179 =>
 rI Qc I8 (Af + 0) fun Jd =>
 eT Qc k7 0 fun Je Ak uR =>
 Bs Qc k3 (iV Tu) (.slice A170 Jc P3) (.slice A173 Gs k175) (.slice TX mX LK) (.bool t179) fun TY =>
 ((Mem.fX TY ⟨k7, 0, none⟩ 0 3) = some [(iV Je), (iV Ak), (iV uR)]) ∧
 ((Mem.ld TY ⟨I8, (Af + 0), none⟩) = (some (iV Jd))) ∧
 pA TY k5 (iV Je) (iV Ak) (iV uR) fun TZ =>
 ((Mem.fX TZ ⟨k7, 0, none⟩ 0 3) = some [(iV Je), (iV Ak), (iV uR)]) ∧
 ((Mem.ld TZ ⟨I8, (Af + 0), none⟩) = (some (iV Jd))) ∧
 cI TZ k3 0 fun Mu T0 Mv T3 A196 k197 k198 A199 F6 k201 t202 =>
 eT TZ k5 0 fun T4 F7 Mw =>
 K (.tuple #[(.agg #[(iV Mu), (.slice T0 Mv T3), (.slice A196 k197 k198), (.slice A199 F6 k201), (.bool t202)]), (iV Jd), (.bool true), (.agg #[(iV T4), (iV F7), (iV Mw)]), (.bool false), (iV 0)]) TZ)
 (rB lR k1 4 fun t206 =>
 aM t206
 (rI lR k1 0 fun Md =>
 rS lR k1 1 fun A208 k209 k210 =>
 rS lR k1 2 fun A211 Jf T5 =>
 rS lR k1 3 fun A214 k215 XR =>
 rB lR k1 4 fun t217 =>
 eT lR k7 0 fun T6 n219 n220 =>
 Bs lR k3 (iV Md) (.slice A208 k209 k210) (.slice A211 Jf T5) (.slice A214 k215 XR) (.bool t217) fun lV =>
 ((Mem.fX lV ⟨k7, 0, none⟩ 0 3) = some [(iV T6), (iV n219), (iV n220)]) ∧
 pA lV k5 (iV T6) (iV n219) (iV n220) fun xC =>
 ((Mem.fX xC ⟨k7, 0, none⟩ 0 3) = some [(iV T6), (iV n219), (iV n220)]) ∧
 cI xC k3 0 fun n229 A230 k231 P9 F9 BX BY Ga Gb BZ t239 =>
 eT xC k5 0 fun n240 TD TE =>
 K (.tuple #[(.agg #[(iV n229), (.slice A230 k231 P9), (.slice F9 BX BY), (.slice Ga Gb BZ), (.bool t239)]), (iV 0), (.bool false), (.agg #[(iV n240), (iV TD), (iV TE)]), (.bool false), (iV 0)]) xC)
 (rI lR k1 0 fun Gn =>
 rS lR k1 1 fun A244 Gt k246 =>
 rS lR k1 2 fun B5 B6 DH =>
 rS lR k1 3 fun Gf B7 B8 =>
 rB lR k1 4 fun t253 =>
 eT lR k7 0 fun n254 n255 vX =>
 Bs lR k3 (iV Gn) (.slice A244 Gt k246) (.slice B5 B6 DH) (.slice Gf B7 B8) (.bool t253) fun T7 =>
 ((Mem.fX T7 ⟨k7, 0, none⟩ 0 3) = some [(iV n254), (iV n255), (iV vX)]) ∧
 pA T7 k5 (iV n254) (iV n255) (iV vX) fun XS =>
 ((Mem.fX XS ⟨k7, 0, none⟩ 0 3) = some [(iV n254), (iV n255), (iV vX)]) ∧
 cI XS k3 0 fun n265 A266 k267 k268 A269 k270 k271 A272 k273 T8 t275 =>
 eT XS k5 0 fun Qj n277 n278 =>
 K (.tuple #[(.agg #[(iV n265), (.slice A266 k267 k268), (.slice A269 k270 k271), (.slice A272 k273 T8), (.bool t275)]), (iV 0), (.bool false), (.agg #[(iV Qj), (iV n277), (iV n278)]), (.bool false), (iV 5)]) XS)))) Kp) :
 ae Tryz.prog 189 #[.agg #[.int .i64 oy, .slice iU iW iX, .slice xz xA xB, .slice jS jT jU, .bool Cb]] M K Kp := vw [(11, .bH [0, 0, 2, 6, 0, 0, 1, 79, 207, 479, 1023, 2047] (sy [1, 2, 5, 0] (.cS 3 (.cS 4 (sy [6, 7, 8, 9, 10, 11] .done))))), (13, .bH [0, 0, 0, 1, 9, 25, 59, 127, 255] (sy [2, 0] (.cS 1 (sy [3, 4, 5, 6, 7, 8] .done)))), (14, .bH [0, 0, 0, 1, 9, 25, 59, 127, 255] (sy [2, 0] (.cS 1 (sy [3, 4, 5, 6, 7, 8] .done))))] Tryz.func189 h
theorem sg {oy : Int} {iU : Option Addr} {iW iX : Nat} {xz : Option Addr} {xA xB : Nat} {jS : Option Addr} {jT jU : Nat} {Cb : Bool} {x1 : Int} (h :
aO M (cl [(iV oy), (.slice iU iW iX), (.slice xz xA xB), (.slice jS jT jU), (.bool Cb)] 190) fun k1 M2 =>
aO M2 c7 fun k3 M4 =>
aO M4 (cl [] 289) fun k5 M6 =>
aO M6 (cl [] 289) fun k7 M8 =>
rS M8 k1 2 fun A9 eB eo =>
∃ I12 : IT, (∃ eu, I12 eu [(.slice (some ⟨k5, 0, none⟩) 0 0), (iV 0)] M8) ∧
∀ (fB : Nat) (_ : Nat → Value) (Xl : Option Addr) (fT : Nat) (fq : Nat) (nX : Int) (vC : Mem), (I12 fB [(.slice Xl fT fq), (iV nX)] vC) → aM (decide (nX < eB))
 ((0 ≤ nX) ∧
 (nX < eB) ∧
 aE A9 fun lH gi =>
 eT vC lH (gi + ((Int.toNat nX) * 3)) fun nY qg yH =>
 aO vC iC fun gM ng =>
 pA ng gM (iV nY) (iV qg) (iV yH) fun wH =>
 rI wH gM 0 fun ry =>
 aM (ry != x1)
 (rI wH gM 0 fun n32 =>
 rI wH gM 1 fun kP =>
 rI wH gM 2 fun vg =>
 aO wH (cl [(iV n32), (iV kP), (iV vg)] 289) fun kD pH =>
 aA 188 Xl fT fq (some ⟨kD, 0, none⟩) 1 1 pH (fun v37 lB =>
 aF (some v37) fun ZL va nH =>
 ∃ jC : Nat, (jC < fB) ∧
 I12 jC [(.slice ZL va nH), (iV (IntKind.wrap .i64 (nX + 1)))] lB) Kp)
 (∃ jK : Nat, (jK < fB) ∧
 I12 jK [(.slice Xl fT fq), (iV (IntKind.wrap .i64 (nX + 1)))] wH))
 (rS vC k1 3 fun AJ wI me =>
 ∃ I47 : IT, (∃ xZ, I47 xZ [(.slice (some ⟨k7, 0, none⟩) 0 0), (iV 0)] vC) ∧
 ∀ (mg : Nat) (_ : Nat → Value) (CX : Option Addr) (pI : Nat) (j8 : Nat) (vG : Int) (FM : Mem), (I47 mg [(.slice CX pI j8), (iV vG)] FM) → aM (decide (vG < wI))
 ((0 ≤ vG) ∧
 (vG < wI) ∧
 aE AJ fun C0 vH =>
 eT FM C0 (vH + ((Int.toNat vG) * 3)) fun Dg Ip vA =>
 aO FM iC fun ve Rp =>
 pA Rp ve (iV Dg) (iV Ip) (iV vA) fun XT =>
 rI XT ve 0 fun PJ =>
 aM (PJ != x1)
 (rI XT ve 0 fun IE =>
 rI XT ve 1 fun xe =>
 rI XT ve 2 fun Lo =>
 aO XT (cl [(iV IE), (iV xe), (iV Lo)] 289) fun Eu Dy =>
 aA 188 CX pI j8 (some ⟨Eu, 0, none⟩) 1 1 Dy (fun XU IV =>
 aF (some XU) fun A74 S3 P1 =>
 ∃ z8 : Nat, (z8 < mg) ∧
 I47 z8 [(.slice A74 S3 P1), (iV (IntKind.wrap .i64 (vG + 1)))] IV) Kp)
 (∃ Dq : Nat, (Dq < mg) ∧
 I47 Dq [(.slice CX pI j8), (iV (IntKind.wrap .i64 (vG + 1)))] XT))
 (sT FM k1 2 (.slice Xl fT fq) fun XV =>
 sT XV k1 3 (.slice CX pI j8) fun WH =>
 cI WH k1 0 fun Rz A82 C2 Xu A85 ZY Lq A88 k89 Xh t91 =>
 Bs WH k3 (iV Rz) (.slice A82 C2 Xu) (.slice A85 ZY Lq) (.slice A88 k89 Xh) (.bool t91) fun M96 =>
 cI M96 k3 0 fun n97 A98 Rw qu A101 FT BP A104 PO z6 t107 =>
 K (.agg #[(iV n97), (.slice A98 Rw qu), (.slice A101 FT BP), (.slice A104 PO z6), (.bool t107)]) M96))) :
 ae Tryz.prog 224 #[.agg #[.int .i64 oy, .slice iU iW iX, .slice xz xA xB, .slice jS jT jU, .bool Cb], .int .i64 x1] M K Kp := vw [(2000000, .loop [(5, .c .sl), (16, .c (.int .i64))]), (2000002, .loop [(6, .c .sl), (32, .c (.int .i64))])] Tryz.func224 h
theorem qD {oy : Int} {iU : Option Addr} {iW iX : Nat} {xz : Option Addr} {xA xB : Nat} {jS : Option Addr} {jT jU : Nat} {Cb : Bool} (h :
aO M (cl [(iV oy), (.slice iU iW iX), (.slice xz xA xB), (.slice jS jT jU), (.bool Cb)] 190) fun k1 M2 =>
aO M2 c7 fun k3 M4 =>
rB M4 k1 4 fun t5 =>
aM t5
 (rI M4 k1 0 fun n6 =>
 rS M4 k1 1 fun A7 k8 k9 =>
 rS M4 k1 2 fun Le eo gI =>
 rS M4 k1 3 fun zA fB jy =>
 rB M4 k1 4 fun t16 =>
 Bs M4 k3 (iV n6) (.slice A7 k8 k9) (.slice Le eo gI) (.slice zA fB jy) (.bool t16) fun jI =>
 cI jI k3 0 fun w5 PG nW jJ Xx kK gV A29 jg iM t32 =>
 K (.tuple #[(.agg #[(iV w5), (.slice PG nW jJ), (.slice Xx kK gV), (.slice A29 jg iM), (.bool t32)]), (.slice none 0 0), (.slice none 0 0), (iV 10)]) jI)
 (rI M4 k1 0 fun kP =>
 rS M4 k1 1 fun Et kD nK =>
 rS M4 k1 3 fun yM fE lA =>
 rS M4 k1 2 fun A40 nH jC =>
 Bs M4 k3 (iV kP) (.slice Et kD nK) (.slice none 0 0) (.slice none 0 0) (.bool true) fun w9 =>
 eS w9 k1 2 A40 nH jC ∧
 eS w9 k1 3 yM fE lA ∧
 cI w9 k3 0 fun FQ ZS vD Hy Ir j8 xX Wx C0 vH t58 =>
 K (.tuple #[(.agg #[(iV FQ), (.slice ZS vD Hy), (.slice Ir j8 xX), (.slice Wx C0 vH), (.bool t58)]), (.slice yM fE lA), (.slice A40 nH jC), (iV 0)]) w9)) :
 ae Tryz.prog 191 #[.agg #[.int .i64 oy, .slice iU iW iX, .slice xz xA xB, .slice jS jT jU, .bool Cb]] M K Kp := vw [(3, .bH [0, 1, 0, 4, 15, 0, 32, 0, 128, 31, 639, 2047, 4095] (sy [0, 2, 5, 7, 1, 3, 4] (.cS 6 (.cS 8 (sy [9, 10, 11, 12] .done)))))] Tryz.func191 h
theorem si {B0 : Option Addr} {m0 c0 : Nat} (h :
aO M (cl [] 289) fun k1 M2 =>
((0 : Int) ≤ c0) ∧
((c0 : Int) ≤ c0) ∧
((0 : Int) ≤ m0) ∧
((m0 : Int) ≤ c0) ∧
((0 : Int) ≤ 1) ∧
((1 : Int) ≤ m0) ∧
bk Tryz.prog (Go.Builtin.append_ #[188, 188] 188 #[(.slice (some ⟨k1, 0, none⟩) 0 0), (.slice (jt B0 1 (Int.toNat (c0 : Int)) 3) ((Int.toNat (m0 : Int)) - 1) ((Int.toNat (c0 : Int)) - 1))]) M2 (fun v3 M4 =>
aF (some v3) fun A5 k6 k7 =>
K (.slice A5 k6 k7) M4) Kp) :
 ae Tryz.prog 218 #[.slice B0 m0 c0] M K Kp := vw [] Tryz.func218 h
theorem qE {B0 : Option Addr} {m0 c0 : Nat} {B1 : Option Addr} {m1 c1 : Nat} (h :
aM ((m0 : Int) != (m1 : Int))
 (K (iV (-1)) M)
 (∃ I1 : IT, (∃ k2, I1 k2 [(iV 0)] M) ∧
 ∀ (k3 : Nat) (_ : Nat → Value) (n5 : Int) (M6 : Mem), (I1 k3 [(iV n5)] M6) → aM (decide (n5 < m1))
 ((0 ≤ n5) ∧
 (n5 < m0) ∧
 aE B0 fun k7 k8 =>
 (0 ≤ n5) ∧
 (n5 < m1) ∧
 aE B1 fun k9 eB =>
 eT M6 k7 (k8 + ((Int.toNat n5) * 3)) fun lp hG m9 =>
 eT M6 k9 (eB + ((Int.toNat n5) * 3)) fun jD lj nI =>
 aM (!((lp == jD) && ((hG == lj) && ((m9 == nI) && true))))
 (K (iV (-1)) M6)
 (∃ fT : Nat, (fT < k3) ∧
 I1 fT [(iV (IntKind.wrap .i64 (n5 + 1)))] M6))
 (K (iV 0) M6))) :
 ae Tryz.prog 116 #[.slice B0 m0 c0, .slice B1 m1 c1] M K Kp := vw [(2000000, .loop [(13, .c (.int .i64))]), (6, .bH [0, 0, 3, 7, 0, 0, 48, 112, 255] (sy [0, 1, 2, 4, 5, 6, 3, 7, 8] .done))] Tryz.func116 h
theorem sj {iR : Option Addr} {iS iT : Nat} {iU : Option Addr} {iW iX : Nat} {xz : Option Addr} {xA xB : Nat} {q0_3 : Bool} {dS : Int} {B1_1 : Option Addr} {m1_1 c1_1 : Nat} {B1_2 : Option Addr} {m1_2 c1_2 : Nat} {B1_3 : Option Addr} {m1_3 c1_3 : Nat} {q1_4 : Bool} (h :
aO M (cl [(.slice iR iS iT), (.slice iU iW iX), (.slice xz xA xB), (.bool q0_3)] 201) fun k1 M2 =>
aO M2 (cl [(iV dS), (.slice B1_1 m1_1 c1_1), (.slice B1_2 m1_2 c1_2), (.slice B1_3 m1_3 c1_3), (.bool q1_4)] 190) fun k3 M4 =>
rS M4 k1 0 fun A5 k6 k7 =>
rS M4 k3 1 fun A8 k9 eB =>
aM ((k6 : Int) != (k9 : Int))
 (K (iV (-1)) M4)
 (rB M4 k1 3 fun t11 =>
 rB M4 k3 4 fun t12 =>
 aM (!(t11 == t12))
 (K (iV (-1)) M4)
 (rS M4 k1 1 fun zA fB jy =>
 rS M4 k3 2 fun Xl fT fq =>
 ae Tryz.prog 116 #[(.slice zA fB jy), (.slice Xl fT fq)] M4 (fun PW vC =>
 bG (some PW) .i64 fun vb =>
 aM (vb != 0)
 (K (iV (-1)) vC)
 (rS vC k1 2 fun Ly gN nW =>
 rS vC k3 3 fun CY gM kK =>
 ae Tryz.prog 116 #[(.slice Ly gN nW), (.slice CY gM kK)] vC (fun PM pG =>
 bG (some PM) .i64 fun xl =>
 aM (xl != 0)
 (K (iV (-1)) pG)
 (rS pG k3 1 fun Io iy lz =>
 ∃ I34 : IT, (∃ kD, I34 kD [(iV 0)] pG) ∧
 ∀ (nK : Nat) (_ : Nat → Value) (mE : Int) (FE : Mem), (I34 nK [(iV mE)] FE) → aM (decide (mE < iy))
 ((0 ≤ mE) ∧
 (mE < iy) ∧
 aE Io fun va nH =>
 rI FE va (nH + (Int.toNat mE)) fun BL =>
 rS FE k1 0 fun A43 zB wI =>
 (0 ≤ mE) ∧
 (mE < zB) ∧
 aE A43 fun me kj =>
 rI FE me (kj + (Int.toNat mE)) fun FQ =>
 aM (FQ != BL)
 (K (iV (-1)) FE)
 (∃ mg : Nat, (mg < nK) ∧
 I34 mg [(iV (IntKind.wrap .i64 (mE + 1)))] FE))
 (K (iV 0) FE))) Kp)) Kp))) :
 ae Tryz.prog 85 #[.agg #[.slice iR iS iT, .slice iU iW iX, .slice xz xA xB, .bool q0_3], .agg #[.int .i64 dS, .slice B1_1 m1_1 c1_1, .slice B1_2 m1_2 c1_2, .slice B1_3 m1_3 c1_3, .bool q1_4]] M K Kp := vw [(2000000, .loop [(40, .c (.int .i64))])] Tryz.func85 h
end Go.Proofs
