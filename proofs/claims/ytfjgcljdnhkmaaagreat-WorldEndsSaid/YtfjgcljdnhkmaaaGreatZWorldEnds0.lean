/- A part of proofs about one program. -/
import Derived.Test.YtfjgcljdnhkmaaaGreatProg
import Derived.Test.YtfjgcljdnhkmaaaGreatZWorldEndsStC
import Derived.Test.YtfjgcljdnhkmaaaGreatZWorldEndsMod
set_option linter.unusedVariables false
namespace Go.Proofs
open Go.AF
noncomputable def Cx : Ctx := ⟨Tryz.prog, 228⟩
theorem good : Cx.Good := by
 refine ⟨?_, by kernel_rfl⟩
 have h : (List.range 226).all (fun g => wA Tryz.prog (g + 2)) = true := by kernel_rfl
 intro g hg
 have h1 : g < 228 := hg.2
 have := List.all_eq_true.1 h (g - 2) (List.mem_range.2 (by omega))
 have e : g - 2 + 2 = g := by omega
 simp only [e] at this
 exact this
def sy : List Nat → Ex → Ex
 | [], e => e
 | i :: l, e => .step i (sy l e)
abbrev aA (t : Nat) (A : Option Addr) (n c : Nat) (B : Option Addr) (m d : Nat) (M : Mem) (K : Value → Mem → Prop) (Kp : List PanicEntry → Mem → Prop) : Prop := bj Tryz.prog (Go.Builtin.append_ #[t, t] t #[.slice A n c, .slice B m d]) M K Kp
theorem vw {f : FuncId} {fn : Func} {args : List Value} {M : Mem} {K : Value → Mem → Prop} {Kp : List PanicEntry → Mem → Prop} (H : List (Nat × Hint)) (hf : Cx.P.funcs[f]? = some fn) {vc : Prop} (h : vc) (h1 : Av fn args.length = true := by kernel_rfl)
  (h2 : vc = fe Cx H Kp (ja fn) 0 (OV Cx.P fn K) (jL args) M := by kernel_rfl) : ae Cx.P f args.toArray M K Kp := eZ (C := Cx) good H hf h1 h2 h
end Go.Proofs
namespace Go.Proofs
open Go.AF
set_option maxRecDepth 100000
variable {M : Mem} {K : Value → Mem → Prop} {Kp : List PanicEntry → Mem → Prop}
theorem Fb {x0 : Int} (h :
aO M (cl [(iV (if (16 : Int) < (if (0 : Int) > x0 then 0 else x0) then 16 else (if (0 : Int) > x0 then 0 else x0))), (.slice none 0 0), (.slice none 0 0), (.slice none 0 0), (.bool false)] 236) fun k1 M2 =>
K (.pointer (some ⟨k1, 0, none⟩)) M2) :
 ae Tryz.prog 72 #[.int .i64 x0] M K Kp := vw [] Tryz.func72 h
theorem tX {b0 o0 : Nat} (h :
aO M Bm fun k1 M2 =>
rS M2 b0 (o0 + 1) fun A3 k4 k5 =>
rS M2 b0 (o0 + 2) fun A6 k7 k8 =>
rS M2 b0 (o0 + 3) fun A9 eD eu =>
rB M2 b0 (o0 + 4) fun t12 =>
aO M2 (cl [] 2) fun eA qh =>
(True) ∧
(True) ∧
aA 59 (some ⟨eA, 0, none⟩) 0 0 A3 k4 k5 qh (fun Bu gh =>
aF (some Bu) fun Ay fm jC =>
((Mem.ld gh ⟨b0, (o0 + 4), none⟩) = (some (.bool t12))) ∧
((Mem.ld gh ⟨b0, (o0 + 3), none⟩) = (some (.slice A9 eD eu))) ∧
((Mem.ld gh ⟨b0, (o0 + 2), none⟩) = (some (.slice A6 k7 k8))) ∧
aO gh (cl [] 298) fun fQ jD =>
(True) ∧
aA 199 (some ⟨fQ, 0, none⟩) 0 0 A6 k7 k8 jD (fun KG mm =>
aF (some KG) fun CK jE gH =>
((Mem.ld mm ⟨b0, (o0 + 4), none⟩) = (some (.bool t12))) ∧
((Mem.ld mm ⟨b0, (o0 + 3), none⟩) = (some (.slice A9 eD eu))) ∧
((Mem.ld mm ⟨b0, (o0 + 2), none⟩) = (some (.slice A6 k7 k8))) ∧
aO mm (cl [] 298) fun kF CV =>
aA 199 (some ⟨kF, 0, none⟩) 0 0 A9 eD eu CV (fun v29 wj =>
aF (some v29) fun HT ie lg =>
((Mem.ld wj ⟨b0, (o0 + 4), none⟩) = (some (.bool t12))) ∧
((Mem.ld wj ⟨b0, (o0 + 3), none⟩) = (some (.slice A9 eD eu))) ∧
((Mem.ld wj ⟨b0, (o0 + 2), none⟩) = (some (.slice A6 k7 k8))) ∧
mh wj k1 (.slice Ay fm jC) (.slice CK jE gH) (.slice HT ie lg) (.bool t12) fun QG =>
((Mem.ld QG ⟨b0, (o0 + 4), none⟩) = (some (.bool t12))) ∧
((Mem.ld QG ⟨b0, (o0 + 3), none⟩) = (some (.slice A9 eD eu))) ∧
((Mem.ld QG ⟨b0, (o0 + 2), none⟩) = (some (.slice A6 k7 k8))) ∧
NM QG k1 0 fun NP lH tY O2 jO jF GW zq mV t47 =>
K (.agg #[(.slice NP lH tY), (.slice O2 jO jF), (.slice GW zq mV), (.bool t47)]) QG) Kp) Kp) Kp) :
 ae Tryz.prog 117 #[.pointer (some ⟨b0, o0, none⟩)] M K Kp := vw [(1, .bH [0, 0, 2, 6, 14, 31, 0, 0, 128, 384, 896, 2047, 0, 0, 8192, 24576, 57344, 131071, 0, 262144, 786432, 1835008, 4194303, 8388607] (sy [1, 2, 3, 7, 8, 9, 13, 14, 15, 18, 19, 20, 4] (.cQ 10 (.cQ 16 (.cQ 21 (sy [0] (.late 5 (sy [6] (.late 11 (sy [12, 17, 22, 23] .done))))))))))] Tryz.func117 h
theorem po {b0 o0 : Nat} {dS : Int} {eE : Int} {eF : Int} (h :
aO M (cl [(iV dS), (iV eE), (iV eF)] 298) fun k1 M2 =>
rS M2 b0 (o0 + 3) fun A3 k4 k5 =>
eR M2 k1 0 fun n6 n7 n8 =>
aO M2 (cl [(iV n6), (iV n7), (iV n8)] 298) fun k9 mO =>
aA 199 A3 k4 k5 (some ⟨k9, 0, none⟩) 1 1 mO (fun v11 wm =>
aF (some v11) fun zu fz ju =>
sT wm b0 (o0 + 3) (.slice zu fz ju) fun gh =>
K (.tuple #[]) gh) Kp) :
 ae Tryz.prog 205 #[.pointer (some ⟨b0, o0, none⟩), .agg #[.int .i64 dS, .int .i64 eE, .int .i64 eF]] M K Kp := vw [(1, .bH [0, 0, 2, 6, 14, 0, 32, 126, 255, 511, 1023] (sy [0, 1, 2, 3, 4, 5, 6, 7, 8, 9, 10] .done))] Tryz.func205 h
theorem pq {b0 o0 : Nat} {dS : Int} {eE : Int} {eF : Int} (h :
aO M (cl [(iV dS), (iV eE), (iV eF)] 298) fun k1 M2 =>
rS M2 b0 (o0 + 2) fun A3 k4 k5 =>
eR M2 k1 0 fun n6 n7 n8 =>
aO M2 (cl [(iV n6), (iV n7), (iV n8)] 298) fun k9 mO =>
aA 199 A3 k4 k5 (some ⟨k9, 0, none⟩) 1 1 mO (fun v11 wm =>
aF (some v11) fun zu fz ju =>
sT wm b0 (o0 + 2) (.slice zu fz ju) fun gh =>
K (.tuple #[]) gh) Kp) :
 ae Tryz.prog 206 #[.pointer (some ⟨b0, o0, none⟩), .agg #[.int .i64 dS, .int .i64 eE, .int .i64 eF]] M K Kp := vw [(1, .bH [0, 0, 2, 6, 14, 0, 32, 126, 255, 511, 1023] (sy [0, 1, 2, 3, 4, 5, 6, 7, 8, 9, 10] .done))] Tryz.func206 h
theorem vo {b0 o0 : Nat} {x1 : Int} (h :
aO M lS fun k1 M2 =>
rB M2 b0 (o0 + 4) fun t3 =>
aM t3
 (sT M2 k1 0 (iV 0) fun M4 =>
 sT M4 k1 1 (iV 0) fun M5 =>
 sT M5 k1 2 (iV 0) fun M6 =>
 eR M6 k1 0 fun n7 n8 n9 =>
 K (.tuple #[(.agg #[(iV n7), (iV n8), (iV n9)]), (.bool false), (iV 10)]) M6)
 (rS M2 b0 (o0 + 3) fun KH eu gF =>
 aM (decide ((eu : Int) > 0))
 (aO M2 lS fun eA qh =>
 rS qh b0 (o0 + 3) fun oQ fq fO =>
 ae Tryz.prog 222 #[(.slice oQ fq fO)] qh (fun Fc mW =>
 ∃ gC u0 wP : Int, ∃ O3 : Option Addr, ∃ nM jE : Nat, (Fc = (.tuple #[(.agg #[(iV gC), (iV u0), (iV wP)]), (.slice O3 nM jE)])) ∧
 pb mW eA (iV gC) (iV u0) (iV wP) fun CV =>
 sT CV b0 (o0 + 3) (.slice O3 nM jE) fun pz =>
 sT pz eA 2 (iV x1) fun wj =>
 eR wj eA 0 fun q9 n32 kK =>
 pb wj k1 (iV q9) (iV n32) (iV kK) fun pA =>
 eR pA k1 0 fun xK mo yl =>
 K (.tuple #[(.agg #[(iV xK), (iV mo), (iV yl)]), (.bool true), (iV 0)]) pA) Kp)
 (rS M2 b0 (o0 + 1) fun A40 mP jO =>
 rI M2 b0 o0 fun xL =>
 aM (decide ((mP : Int) < xL))
 (rS M2 b0 (o0 + 1) fun GW zq mV =>
 aO M2 (cl [(iV x1)] 2) fun j9 D1 =>
 aA 59 GW zq mV (some ⟨j9, 0, none⟩) 1 1 D1 (fun Ws GX =>
 aF (some Ws) fun JU tv kL =>
 sT GX b0 (o0 + 1) (.slice JU tv kL) fun O4 =>
 pb O4 k1 (iV 0) (iV 0) (iV 0) fun GY =>
 eR GY k1 0 fun CW HU vp =>
 K (.tuple #[(.agg #[(iV CW), (iV HU), (iV vp)]), (.bool false), (iV 0)]) GY) Kp)
 (sT M2 k1 0 (iV 0) fun zV =>
 sT zV k1 1 (iV 0) fun NQ =>
 sT NQ k1 2 (iV 0) fun Fe =>
 eR Fe k1 0 fun n64 GZ O5 =>
 K (.tuple #[(.agg #[(iV n64), (iV GZ), (iV O5)]), (.bool false), (iV 6)]) Fe)))) :
 ae Tryz.prog 207 #[.pointer (some ⟨b0, o0, none⟩), .int .i64 x1] M K Kp := vw [(8, .bH [0, 1, 3, 7, 15, 0, 32, 96, 224, 511, 1023] (sy [0, 1, 2, 5, 6, 7, 3, 4, 8, 9, 10] .done))] Tryz.func207 h
theorem vq {b0 o0 : Nat} (h :
aO M pe fun k1 M2 =>
aO M2 pe fun k3 M4 =>
rS M4 b0 (o0 + 2) fun A5 k6 k7 =>
∃ J8 : List Value → Mem → Prop, (aM (decide ((k6 : Int) > 0))
 (rS M4 b0 (o0 + 2) fun A9 eD eu =>
 ae Tryz.prog 222 #[(.slice A9 eD eu)] M4 (fun GV lu =>
 ∃ jA kX nZ : Int, ∃ Ay : Option Addr, ∃ fm jC : Nat, (GV = (.tuple #[(.agg #[(iV jA), (iV kX), (iV nZ)]), (.slice Ay fm jC)])) ∧
 sT lu k3 2 (iV jA) fun vr =>
 sT vr k3 (2 + 1) (iV kX) fun jD =>
 sT jD k3 (2 + 2) (iV nZ) fun c9 =>
 sT c9 b0 (o0 + 2) (.slice Ay fm jC) fun mm =>
 sT mm k3 5 (.bool true) fun ny =>
 rS ny b0 (o0 + 1) fun CL gH kF =>
 rI ny k3 (2 + 2) fun JV =>
 aO ny (cl [(iV JV)] 2) fun gi wj =>
 aA 59 CL gH kF (some ⟨gi, 0, none⟩) 1 1 wj (fun RW mJ =>
 aF (some RW) fun JW mK ku =>
 sT mJ b0 (o0 + 1) (.slice JW mK ku) fun pA =>
 J8 [] pA) Kp) Kp)
 (J8 [] M4)) ∧
∀ junk37 : Nat → Value, ∀ lj : Mem, (J8 [] lj) → rS lj b0 (o0 + 1) fun VM tY mP =>
aM (decide ((tY : Int) > 0))
 (rS lj b0 (o0 + 1) fun Ff jF ym =>
 ((0 : Int) ≤ 0) ∧
 ((0 : Int) < jF) ∧
 aE Ff fun zq mV =>
 rI lj zq (mV + 0) fun CX =>
 RN lj k3 (iV CX) (.bool true) fun wQ =>
 aO wQ (cl [] 2) fun vt AA =>
 rS AA b0 (o0 + 1) fun HV kL wq =>
 ((0 : Int) ≤ wq) ∧
 ((wq : Int) ≤ wq) ∧
 ((0 : Int) ≤ kL) ∧
 ((kL : Int) ≤ wq) ∧
 ((0 : Int) ≤ 1) ∧
 ((1 : Int) ≤ kL) ∧
 bj Tryz.prog (Go.Builtin.append_ #[59, 59] 59 #[(.slice (some ⟨vt, 0, none⟩) 0 0), (.slice (iZ HV 1 (Int.toNat (wq : Int)) 1) ((Int.toNat (kL : Int)) - 1) ((Int.toNat (wq : Int)) - 1))]) AA (fun KI JX =>
 aF (some KI) fun QH D2 AB =>
 sT JX b0 (o0 + 1) (.slice QH D2 AB) fun QI =>
 Ax QI k3 0 fun n61 t62 n63 n64 GZ t66 =>
 RO QI k1 (iV n61) (.bool t62) (iV n63) (iV n64) (iV GZ) (.bool t66) fun M72 =>
 Ax M72 k1 0 fun O6 t74 RX Wu RY t78 =>
 K (.tuple #[(.agg #[(iV O6), (.bool t74), (iV RX), (iV Wu), (iV RY), (.bool t78)]), (iV 0)]) M72) Kp)
 (rB lj b0 (o0 + 4) fun t79 =>
 aM t79
 (rI lj k3 0 fun G0 =>
 rB lj k3 1 fun t81 =>
 rI lj k3 2 fun VN =>
 rI lj k3 3 fun VO =>
 rI lj k3 4 fun QJ =>
 rB lj k3 5 fun t85 =>
 RO lj k1 (iV G0) (.bool t81) (iV VN) (iV VO) (iV QJ) (.bool t85) fun oa =>
 Ax oa k1 0 fun CY t93 RZ R0 Sa t97 =>
 K (.tuple #[(.agg #[(iV CY), (.bool t93), (iV RZ), (iV R0), (iV Sa), (.bool t97)]), (iV 0)]) oa)
 (rI lj k3 0 fun n98 =>
 rB lj k3 1 fun t99 =>
 rI lj k3 2 fun Bv =>
 rI lj k3 3 fun vu =>
 rI lj k3 4 fun Bw =>
 rB lj k3 5 fun t103 =>
 RO lj k1 (iV n98) (.bool t99) (iV Bv) (iV vu) (iV Bw) (.bool t103) fun O7 =>
 Ax O7 k1 0 fun Fg t111 KJ Sb Fh t115 =>
 K (.tuple #[(.agg #[(iV Fg), (.bool t111), (iV KJ), (iV Sb), (iV Fh), (.bool t115)]), (iV 5)]) O7))) :
 ae Tryz.prog 209 #[.pointer (some ⟨b0, o0, none⟩)] M K Kp := vw [(3000010, .cut []), (5, .bH [0, 0, 2, 6, 14, 0, 32, 96, 224, 510, 1023, 2047, 4095] (sy [0, 1, 2, 3, 5, 6, 4, 7, 8, 9, 10, 11, 12] .done))] Tryz.func209 h
theorem tZ {b0 o0 : Nat} (h :
rB M b0 (o0 + 4) fun t1 =>
aM t1
 (K (.tuple #[(.slice none 0 0), (.slice none 0 0), (iV 10)]) M)
 (rS M b0 (o0 + 3) fun A2 k3 k4 =>
 rS M b0 (o0 + 2) fun A5 k6 k7 =>
 sT M b0 (o0 + 4) (.bool true) fun M8 =>
 sT M8 b0 (o0 + 3) (.slice none 0 0) fun M9 =>
 sT M9 b0 (o0 + 2) (.slice none 0 0) fun mO =>
 K (.tuple #[(.slice A2 k3 k4), (.slice A5 k6 k7), (iV 0)]) mO)) :
 ae Tryz.prog 213 #[.pointer (some ⟨b0, o0, none⟩)] M K Kp := vw [(3, .bH [0, 1, 3, 7, 0, 16, 48, 112, 15, 511] (sy [0, 1, 2, 4, 5, 6, 3, 8, 7, 9] .done))] Tryz.func213 h
theorem qi {b0 o0 : Nat} (h :
rB M b0 (o0 + 4) fun t1 =>
aM t1
 (K (.bool true) M)
 (rS M b0 (o0 + 2) fun A2 k3 k4 =>
 aM (decide ((k3 : Int) > 0))
 (K (.bool true) M)
 (rS M b0 (o0 + 1) fun A5 k6 k7 =>
 K (.bool (decide ((k6 : Int) > 0))) M))) :
 ae Tryz.prog 220 #[.pointer (some ⟨b0, o0, none⟩)] M K Kp := vw [] Tryz.func220 h
theorem qj {b0 o0 : Nat} (h :
rB M b0 (o0 + 4) fun t1 =>
aM t1
 (K (.bool true) M)
 (rS M b0 (o0 + 3) fun A2 k3 k4 =>
 aM (decide ((k3 : Int) > 0))
 (K (.bool true) M)
 (rS M b0 (o0 + 1) fun A5 k6 k7 =>
 rI M b0 o0 fun n8 =>
 K (.bool (decide ((k6 : Int) < n8))) M))) :
 ae Tryz.prog 221 #[.pointer (some ⟨b0, o0, none⟩)] M K Kp := vw [(1, .bH [0, 1, 3, 7, 15, 31, 63, 127, 255, 511, 1023, 2047, 4095, 8191, 16383, 32767, 65535, 131071, 8191, 270335, 794623, 1843199, 4194303, 8388607, 16777215] (sy [0, 1, 2, 3, 4, 5, 6, 7, 8, 9, 10, 11, 12, 13, 14, 15, 18, 19, 20, 16, 17, 21, 22, 23, 24] .done))] Tryz.func221 h
theorem Bx {B0 : Option Addr} {m0 c0 : Nat} (h :
aO M lS fun k1 M2 =>
((0 : Int) ≤ 0) ∧
((0 : Int) < m0) ∧
aE B0 fun k3 k4 =>
((0 : Int) ≤ c0) ∧
((c0 : Int) ≤ c0) ∧
((0 : Int) ≤ m0) ∧
((m0 : Int) ≤ c0) ∧
((0 : Int) ≤ 1) ∧
((1 : Int) ≤ m0) ∧
eR M2 k3 (k4 + 0) fun n5 n6 n7 =>
aO M2 (cl [] 298) fun k8 M9 =>
bj Tryz.prog (Go.Builtin.append_ #[199, 199] 199 #[(.slice (some ⟨k8, 0, none⟩) 0 0), (.slice (iZ B0 1 (Int.toNat (c0 : Int)) 3) ((Int.toNat (m0 : Int)) - 1) ((Int.toNat (c0 : Int)) - 1))]) M9 (fun v10 iL =>
aF (some v10) fun mX eA fz =>
((Mem.fT iL ⟨k3, (k4 + 0), none⟩ 0 3) = some [(iV n5), (iV n6), (iV n7)]) ∧
pb iL k1 (iV n5) (iV n6) (iV n7) fun nA =>
((Mem.fT nA ⟨k3, (k4 + 0), none⟩ 0 3) = some [(iV n5), (iV n6), (iV n7)]) ∧
eR nA k1 0 fun kM nN gC =>
K (.tuple #[(.agg #[(iV kM), (iV nN), (iV gC)]), (.slice mX eA fz)]) nA) Kp) :
 ae Tryz.prog 222 #[.slice B0 m0 c0] M K Kp := vw [(1, .bH [0, 1, 3, 0, 0, 16, 56, 127, 255] (sy [0, 1, 4, 5] (.cQ 2 (sy [3, 6, 7, 8] .done))))] Tryz.func222 h
theorem vv {b0 o0 : Nat} {x1 : Int} (h :
rS M b0 (o0 + 2) fun A1 k2 k3 =>
(ae Tryz.prog 227 #[(.slice A1 k2 k3), (iV x1)] M (fun v4 M5 =>
 aF (some v4) fun A6 k7 k8 =>
 rS M5 b0 (o0 + 3) fun A9 eD eu =>
 ae Tryz.prog 227 #[(.slice A9 eD eu), (iV x1)] M5 (fun GV lu =>
 aF (some GV) fun ua ju fq =>
 sT lu b0 (o0 + 2) (.slice A6 k7 k8) fun nA =>
 sT nA b0 (o0 + 3) (.slice ua ju fq) fun mq =>
 K (.tuple #[]) mq) Kp) Kp) ∧
(rS M b0 (o0 + 3) fun G1 fQ lz =>
 ae Tryz.prog 227 #[(.slice A1 k2 k3), (iV x1)] M (fun KG mm =>
 aF (some KG) fun CK jE gH =>
 ae Tryz.prog 227 #[(.slice G1 fQ lz), (iV x1)] mm (fun v27 CV =>
 aF (some v27) fun A29 jc iH =>
 sT CV b0 (o0 + 2) (.slice CK jE gH) fun mJ =>
 sT mJ b0 (o0 + 3) (.slice A29 jc iH) fun pX =>
 K (.tuple #[]) pX) Kp) Kp) ∧
True) :
 ae Tryz.prog 226 #[.pointer (some ⟨b0, o0, none⟩), .int .i64 x1] M K Kp := vw [(0, .bH [0, 0, 0, 4, 12, 28, 0, 124, 0, 256, 768, 1792, 0, 8188, 16381, 32765, 65533, 131071, 262143, 524287] (sy [0, 1, 2, 3, 4, 6, 8, 9, 10, 12, 5] (.fork 7 (sy [11, 13, 14, 15, 16, 17, 18, 19] .done) (.fork 11 (sy [7, 13, 14, 15, 16, 17, 18, 19] .done) .dead))))] Tryz.func226 h
theorem yn {B0 : Option Addr} {m0 c0 : Nat} {x1 : Int} (h :
∃ I1 : IT, (∃ k2, I1 k2 [(.slice none 0 0), (iV 0)] M) ∧
∀ (k3 : Nat) (_ : Nat → Value) (A5 : Option Addr) (k6 : Nat) (k7 : Nat) (n8 : Int) (M9 : Mem), (I1 k3 [(.slice A5 k6 k7), (iV n8)] M9) → aM (decide (n8 < m0))
 ((0 ≤ n8) ∧
 (n8 < m0) ∧
 aE B0 fun eD eu =>
 eR M9 eD (eu + ((Int.toNat n8) * 3)) fun gZ mY jA =>
 aO M9 lS fun ju gh =>
 pb gh ju (iV gZ) (iV mY) (iV jA) fun mW =>
 rI mW ju 0 fun gC =>
 aM (gC != x1)
 (rI mW ju 0 fun u0 =>
 rI mW ju 1 fun wP =>
 rI mW ju 2 fun nO =>
 aO mW (cl [(iV u0), (iV wP), (iV nO)] 298) fun nM qk =>
 aA 199 A5 k6 k7 (some ⟨nM, 0, none⟩) 1 1 qk (fun v26 mZ =>
 aF (some v26) fun zW gi jc =>
 ∃ iH : Nat, (iH < k3) ∧
 I1 iH [(.slice zW gi jc), (iV (IntKind.wrap .i64 (n8 + 1)))] mZ) Kp)
 (∃ ie : Nat, (ie < k3) ∧
 I1 ie [(.slice A5 k6 k7), (iV (IntKind.wrap .i64 (n8 + 1)))] mW))
 (K (.slice A5 k6 k7) M9)) :
 ae Tryz.prog 227 #[.slice B0 m0 c0, .int .i64 x1] M K Kp := vw [(2000000, .loop [(5, .c .sl), (10, .c (.int .i64))])] Tryz.func227 h
end Go.Proofs
namespace Go.Proofs
open Go.AF
set_option maxRecDepth 100000
set_option maxHeartbeats 1000000
attribute [local irreducible] bF dG fa dP aF eY aE b7 aO bj bJ aM
theorem lp : bE Tryz.prog 59 2 1 8 [.int .i64 0] := bE.mk' (zv := .int .i64 0) (by kernel_rfl) (by kernel_rfl) rfl (by omega)
theorem tw : bE Tryz.prog 199 298 3 24 [.int .i64 0, .int .i64 0, .int .i64 0] := bE.mk' (zv := .agg #[.int .i64 0, .int .i64 0, .int .i64 0]) (by kernel_rfl) (by kernel_rfl) rfl (by omega)
abbrev rf (A : Option Addr) (c : Nat) (l : List Int) : HP := cu bR 2 A c l
abbrev ql (A : Option Addr) (c : Nat) (l : List Wt) : HP := cu cC 298 A c l
abbrev jv (c : aQ) (Ab : Option Addr) (cb : Nat) (As : Option Addr) (cs : Nat) (Ar : Option Addr) (cr : Nat) : List Value :=
 [.int .i64 (c.room : Int), .slice Ab c.buf.length cb, .slice As c.snd.length cs, .slice Ar c.cH.length cr, .bool c.closed]
def bL : xJ aQ := ⟨fun b c => exs fun Ab : Option Addr => exs fun cb : Nat => exs fun As : Option Addr => exs fun cs : Nat => exs fun Ar : Option Addr => exs fun cr : Nat =>
 sep [pt b (jv c Ab cb As cs Ar cr) 236, rf Ab cb c.buf, ql As cs c.snd, ql Ar cr c.cH]⟩
section
variable {R : Mem} {L L' : List HP} {M : Mem} {K : Value → Mem → Prop} {Kp : List PanicEntry → Mem → Prop} {b : Nat} {c : aQ}
theorem iq (h : Hp R L M) [o : gk bL b L c L'] : ∃ Ab cb As cs Ar cr, Hp R (pt b (jv c Ab cb As cs Ar cr) 236 :: rf Ab cb c.buf :: ql As cs c.snd :: ql Ar cr c.cH :: L') M := by
 have := h.obj bL b
 simpa only [bL, Hp.oY, Hp.cW, List.cons_append, List.nil_append] using this
theorem NR {Ab As Ar : Option Addr} {cb cs cr : Nat} (h : Hp R (pt b (jv c Ab cb As cs Ar cr) 236 :: rf Ab cb c.buf :: ql As cs c.snd :: ql Ar cr c.cH :: L) M) : Hp R (bl bL b c :: L) M := by
 refine Hp.RL ?_
 simp only [bL, Hp.oY, Hp.cW, List.cons_append, List.nil_append]
 exact ⟨_, _, _, _, _, _, h⟩
theorem dK {Ab As Ar : Option Addr} {nb cb ns cs nr cr room : Nat} {closed : Bool} {buf : List Int} {snd cH : List Wt} {L1 L2 L3 L4 : List HP} (h : Hp R L M) (b : Nat)
  [p : nv b L [.int .i64 (room : Int), .slice Ab nb cb, .slice As ns cs, .slice Ar nr cr, .bool closed] 236 L1] [p1 : dF Ab L1 Int bR 2 cb buf L2] [p2 : dF As L2 Wt cC 298 cs snd L3] [p3 : dF Ar L3 Wt cC 298 cr cH L4]
  (e1 : nb = buf.length := by first | rfl | simp) (e2 : ns = snd.length := by first | rfl | simp) (e3 : nr = cH.length := by first | rfl | simp) : Hp R (bl bL b ⟨room, buf, snd, cH, closed⟩ :: L4) M := by
 subst e1; subst e2; subst e3
 exact NR (h.sub (.cons p.pick (.cons p1.pick (.cons p2.pick (.cons p3.pick .refl)))))
theorem D5 {room : Int} (h : Hp R L M) (k : ∀ b M', Hp R (bl bL b (.new room) :: L) M' → K (.pointer (some ⟨b, 0, none⟩)) M') :
  ae Tryz.prog 72 #[.int .i64 room] M K Kp := by
 refine Fb ?_
 rw [RP]
 refine ai h fun b M' h => k b M' (NR ((((h.dz cC _).dz cC _).dz bR _).sub bx))
theorem zw {B : Option Addr} {m c : Nat} {w : Wt} {r : List Wt} (h : Hp R L M) (hB : Src R L B (cC.cells (w :: r))) (hm : m = r.length + 1) (hc : m ≤ c) (hn : m ≤ 1000000000)
  (k : ∀ A' c' M', Hp R (ql A' c' r :: L) M' → K (.tuple #[.agg #[.int .i64 w.g, .int .i64 w.cs, .int .i64 w.v], .slice A' r.length c']) M') :
  ae Tryz.prog 222 #[.slice B m c] M K Kp := by
 refine Bx ?_
 obtain ⟨b, o, rfl⟩ := hB.iK h (by simp) (by decide)
 repeat (first|(refine ai h ?_;clear h;intro kb M h)|(refine ak h ?_;clear h;intro M h)|refine St.to h ?_|(apply Exists.intro;(repeat apply Exists.intro);refine And.intro rfl ?_)|refine ay ?_|refine aq ?_|refine au ?_)
 refine aj (hB.cons.at h (i := 0) (j := 0) rfl rfl (by omega)) ?_
 refine aj (hB.cons.at h (i := 0) (j := 1) rfl rfl (by omega)) ?_
 refine aj (hB.cons.at h (i := 0) (j := 2) rfl rfl (by omega)) ?_
 repeat (first|(refine ai h ?_;clear h;intro kb M h)|(refine ak h ?_;clear h;intro M h)|refine St.to h ?_|(apply Exists.intro;(repeat apply Exists.intro);refine And.intro rfl ?_)|refine ay ?_|refine aq ?_|refine au ?_)
 have s2 := hB.drop (m := 1) (c := c) (by simp; omega)
 simp only [Int.toNat_natCast]
 refine h.b6 cC tw r s2.cons.cons (by omega) (by omega) ?_
 clear h
 intro A' c' M h
 repeat (first|(refine ai h ?_;clear h;intro kb M h)|(refine ak h ?_;clear h;intro M h)|refine St.to h ?_|(apply Exists.intro;(repeat apply Exists.intro);refine And.intro rfl ?_)|refine ay ?_|refine aq ?_|refine au ?_)
 refine ⟨hB.cons.cons.fT h (i := 0) rfl (by omega), ?_⟩
 repeat (first|(refine ai h ?_;clear h;intro kb M h)|(refine ak h ?_;clear h;intro M h)|refine St.to h ?_|(apply Exists.intro;(repeat apply Exists.intro);refine And.intro rfl ?_)|refine ay ?_|refine aq ?_|refine au ?_)
 refine ⟨hB.cons.cons.fT h (i := 0) rfl (by omega), ?_⟩
 repeat (first|(refine ai h ?_;clear h;intro kb M h)|(refine ak h ?_;clear h;intro M h)|refine St.to h ?_|(apply Exists.intro;(repeat apply Exists.intro);refine And.intro rfl ?_)|refine ay ?_|refine aq ?_|refine au ?_)
 exact k _ _ _ h.jb
theorem CZ (h : Hp R L M) [o : gk bL b L c L'] (k : K (.bool c.tp) M) : ae Tryz.prog 221 #[.pointer (some ⟨b, 0, none⟩)] M K Kp := by
 refine qj ?_
 have h' := iq h (b := b)
 clear h
 obtain ⟨Ab, cb, As, cs, Ar, cr, h⟩ := h'
 repeat (first|(refine ai h ?_;clear h;intro kb M h)|(refine ak h ?_;clear h;intro M h)|refine St.to h ?_|(apply Exists.intro;(repeat apply Exists.intro);refine And.intro rfl ?_)|refine ay ?_|refine aq ?_|refine au ?_)
 refine fH.2 ⟨fun hc => ?_, fun hc => ?_⟩
 ·rwa [aQ.tp, hc] at k
 ·repeat (first|(refine ai h ?_;clear h;intro kb M h)|(refine ak h ?_;clear h;intro M h)|refine St.to h ?_|(apply Exists.intro;(repeat apply Exists.intro);refine And.intro rfl ?_)|refine ay ?_|refine aq ?_|refine au ?_)
  refine aH.2 ⟨fun hr => ?_, fun hr => ?_⟩
  ·have : c.cH.isEmpty = false := by cases hc : c.cH <;> simp_all
   rwa [aQ.tp, hc, this] at k
  ·repeat (first|(refine ai h ?_;clear h;intro kb M h)|(refine ak h ?_;clear h;intro M h)|refine St.to h ?_|(apply Exists.intro;(repeat apply Exists.intro);refine And.intro rfl ?_)|refine ay ?_|refine aq ?_|refine au ?_)
   have : c.cH.isEmpty = true := by cases hc : c.cH <;> simp_all
   rw [aQ.tp, hc, this] at k
   simpa using k
theorem C0 (h : Hp R L M) [o : gk bL b L c L'] (k : K (.bool c.tq) M) : ae Tryz.prog 220 #[.pointer (some ⟨b, 0, none⟩)] M K Kp := by
 refine qi ?_
 have h' := iq h (b := b)
 clear h
 obtain ⟨Ab, cb, As, cs, Ar, cr, h⟩ := h'
 repeat (first|(refine ai h ?_;clear h;intro kb M h)|(refine ak h ?_;clear h;intro M h)|refine St.to h ?_|(apply Exists.intro;(repeat apply Exists.intro);refine And.intro rfl ?_)|refine ay ?_|refine aq ?_|refine au ?_)
 refine fH.2 ⟨fun hc => ?_, fun hc => ?_⟩
 ·rwa [aQ.tq, hc] at k
 ·repeat (first|(refine ai h ?_;clear h;intro kb M h)|(refine ak h ?_;clear h;intro M h)|refine St.to h ?_|(apply Exists.intro;(repeat apply Exists.intro);refine And.intro rfl ?_)|refine ay ?_|refine aq ?_|refine au ?_)
  refine aH.2 ⟨fun hr => ?_, fun hr => ?_⟩
  ·have : c.snd.isEmpty = false := by cases hc : c.snd <;> simp_all
   rwa [aQ.tq, hc, this] at k
  ·repeat (first|(refine ai h ?_;clear h;intro kb M h)|(refine ak h ?_;clear h;intro M h)|refine St.to h ?_|(apply Exists.intro;(repeat apply Exists.intro);refine And.intro rfl ?_)|refine ay ?_|refine aq ?_|refine au ?_)
   have : c.snd.isEmpty = true := by cases hc : c.snd <;> simp_all
   rw [aQ.tq, hc, this] at k
   have e : (!c.buf.isEmpty) = decide ((c.buf.length : Int) > 0) := by cases c.buf <;> simp
   rw [← e]; simpa using k
theorem rh {w : Wt} (h : Hp R L M) [o : gk bL b L c L'] (hs : c.Small 1000000000) (k : ∀ M', Hp R (bl bL b { c with snd := c.snd ++ [w] } :: L') M' → K (.tuple #[]) M') :
  ae Tryz.prog 206 #[.pointer (some ⟨b, 0, none⟩), .agg #[.int .i64 w.g, .int .i64 w.cs, .int .i64 w.v]] M K Kp := by
 refine pq ?_
 have h' := iq h (b := b)
 clear h
 obtain ⟨Ab, cb, As, cs, Ar, cr, h⟩ := h'
 obtain ⟨h1, h2, h3⟩ := hs
 repeat (first|(refine ai h ?_;clear h;intro kb M h)|(refine ak h ?_;clear h;intro M h)|refine St.to h ?_|(apply Exists.intro;(repeat apply Exists.intro);refine And.intro rfl ?_)|refine ay ?_|refine aq ?_|refine au ?_)
 refine h.aZ tw [w] rfl rfl (by simp; omega) ?_
 clear h
 intro A' c' M h
 repeat (first|(refine ai h ?_;clear h;intro kb M h)|(refine ak h ?_;clear h;intro M h)|refine St.to h ?_|(apply Exists.intro;(repeat apply Exists.intro);refine And.intro rfl ?_)|refine ay ?_|refine aq ?_|refine au ?_)
 exact k _ (dK h b).cG
theorem ri {w : Wt} (h : Hp R L M) [o : gk bL b L c L'] (hs : c.Small 1000000000) (k : ∀ M', Hp R (bl bL b { c with cH := c.cH ++ [w] } :: L') M' → K (.tuple #[]) M') :
  ae Tryz.prog 205 #[.pointer (some ⟨b, 0, none⟩), .agg #[.int .i64 w.g, .int .i64 w.cs, .int .i64 w.v]] M K Kp := by
 refine po ?_
 have h' := iq h (b := b)
 clear h
 obtain ⟨Ab, cb, As, cs, Ar, cr, h⟩ := h'
 obtain ⟨h1, h2, h3⟩ := hs
 repeat (first|(refine ai h ?_;clear h;intro kb M h)|(refine ak h ?_;clear h;intro M h)|refine St.to h ?_|(apply Exists.intro;(repeat apply Exists.intro);refine And.intro rfl ?_)|refine ay ?_|refine aq ?_|refine au ?_)
 refine h.aZ tw [w] rfl rfl (by simp; omega) ?_
 clear h
 intro A' c' M h
 repeat (first|(refine ai h ?_;clear h;intro kb M h)|(refine ak h ?_;clear h;intro M h)|refine St.to h ?_|(apply Exists.intro;(repeat apply Exists.intro);refine And.intro rfl ?_)|refine ay ?_|refine aq ?_|refine au ?_)
 exact k _ (dK h b).cG
def Y8 (x : Wt × Bool × Int) : Value := .tuple #[.agg #[.int .i64 x.1.g, .int .i64 x.1.cs, .int .i64 x.1.v], .bool x.2.1, .int .i64 x.2.2]
theorem KK {v : Int} (h : Hp R L M) [o : gk bL b L c L'] (hs : c.Small 1000000000) (k : ∀ M', Hp R (bl bL b (c.send v).1 :: L') M' → K (Y8 (c.send v).2) M') :
  ae Tryz.prog 207 #[.pointer (some ⟨b, 0, none⟩), .int .i64 v] M K Kp := by
 refine vo ?_
 obtain ⟨room, buf, snd, cH, closed⟩ := c
 obtain ⟨h1, h2, h3⟩ := hs
 have h' := iq h (b := b)
 clear h
 obtain ⟨Ab, cb, As, cs, Ar, cr, h⟩ := h'
 dsimp only [jv] at h1 h2 h3 h
 repeat (first|(refine ai h ?_;clear h;intro kb M h)|(refine ak h ?_;clear h;intro M h)|refine St.to h ?_|(apply Exists.intro;(repeat apply Exists.intro);refine And.intro rfl ?_)|refine ay ?_|refine aq ?_|refine au ?_)
 refine fH.2 ⟨fun hc => ?_, fun hc => ?_⟩
 ·subst hc
  repeat (first|(refine ai h ?_;clear h;intro kb M h)|(refine ak h ?_;clear h;intro M h)|refine St.to h ?_|(apply Exists.intro;(repeat apply Exists.intro);refine And.intro rfl ?_)|refine ay ?_|refine aq ?_|refine au ?_)
  exact k _ (dK h b).cG
 subst hc
 repeat (first|(refine ai h ?_;clear h;intro kb M h)|(refine ak h ?_;clear h;intro M h)|refine St.to h ?_|(apply Exists.intro;(repeat apply Exists.intro);refine And.intro rfl ?_)|refine ay ?_|refine aq ?_|refine au ?_)
 refine aH.2 ⟨fun hr => ?_, fun hr => ?_⟩
 ·cases cH with
  | nil => simp at hr
  | cons w r =>
   repeat (first|(refine ai h ?_;clear h;intro kb M h)|(refine ak h ?_;clear h;intro M h)|refine St.to h ?_|(apply Exists.intro;(repeat apply Exists.intro);refine And.intro rfl ?_)|refine ay ?_|refine aq ?_|refine au ?_)
   refine zw h (h.src (A := Ar)) rfl (h.nw Ar) (by simpa using h3) ?_
   clear h
   intro A' c' M h
   repeat (first|(refine ai h ?_;clear h;intro kb M h)|(refine ak h ?_;clear h;intro M h)|refine St.to h ?_|(apply Exists.intro;(repeat apply Exists.intro);refine And.intro rfl ?_)|refine ay ?_|refine aq ?_|refine au ?_)
   exact k _ (dK h b).cG
 cases cH with
 | cons w r => simp at hr
 | nil =>
 simp only [aQ.send, Bool.false_eq_true, if_false] at k
 repeat (first|(refine ai h ?_;clear h;intro kb M h)|(refine ak h ?_;clear h;intro M h)|refine St.to h ?_|(apply Exists.intro;(repeat apply Exists.intro);refine And.intro rfl ?_)|refine ay ?_|refine aq ?_|refine au ?_)
 refine aH.2 ⟨fun hl => ?_, fun hl => ?_⟩
 ·rw [if_pos (by omega)] at k
  repeat (first|(refine ai h ?_;clear h;intro kb M h)|(refine ak h ?_;clear h;intro M h)|refine St.to h ?_|(apply Exists.intro;(repeat apply Exists.intro);refine And.intro rfl ?_)|refine ay ?_|refine aq ?_|refine au ?_)
  refine h.aZ lp [v] rfl rfl (by simp; omega) ?_
  clear h
  intro A' c' M h
  repeat (first|(refine ai h ?_;clear h;intro kb M h)|(refine ak h ?_;clear h;intro M h)|refine St.to h ?_|(apply Exists.intro;(repeat apply Exists.intro);refine And.intro rfl ?_)|refine ay ?_|refine aq ?_|refine au ?_)
  exact k _ (dK h b).cG
 ·rw [if_neg (by omega)] at k
  repeat (first|(refine ai h ?_;clear h;intro kb M h)|(refine ak h ?_;clear h;intro M h)|refine St.to h ?_|(apply Exists.intro;(repeat apply Exists.intro);refine And.intro rfl ?_)|refine ay ?_|refine aq ?_|refine au ?_)
  exact k _ (dK h b).cG
def Y9 (x : Int × Bool × Wt × Bool × Int) : Value := .tuple #[.agg #[.int .i64 x.1, .bool x.2.1, .int .i64 x.2.2.1.g, .int .i64 x.2.2.1.cs, .int .i64 x.2.2.1.v, .bool x.2.2.2.1], .int .i64 x.2.2.2.2]
theorem KL (h : Hp R L M) [o : gk bL b L c L'] (hs : c.Small 1000000000) (k : ∀ M', Hp R (bl bL b c.recv.1 :: L') M' → K (Y9 c.recv.2) M') :
  ae Tryz.prog 209 #[.pointer (some ⟨b, 0, none⟩)] M K Kp := by
 refine vq ?_
 obtain ⟨room, buf, snd, cH, closed⟩ := c
 obtain ⟨h1, h2, h3⟩ := hs
 have h' := iq h (b := b)
 clear h
 obtain ⟨Ab, cb, As, cs, Ar, cr, h⟩ := h'
 dsimp only [jv] at h1 h2 h3 h
 refine ai h ?_
 clear h
 intro kr M h
 refine ai h ?_
 clear h
 intro kg M h
 repeat (first|(refine ai h ?_;clear h;intro kb M h)|(refine ak h ?_;clear h;intro M h)|refine St.to h ?_|(apply Exists.intro;(repeat apply Exists.intro);refine And.intro rfl ?_)|refine ay ?_|refine aq ?_|refine au ?_)
 refine ⟨fun vs M => vs = [] ∧ ∃ Ab cb As cs, Hp R (pt kr [.int .i64 0, .bool false, .int .i64 0, .int .i64 0, .int .i64 0, .bool false] 335 ::
  pt kg [.int .i64 0, .bool false, .int .i64 (snd.headD .zero).g, .int .i64 (snd.headD .zero).cs, .int .i64 (snd.headD .zero).v, .bool (!snd.isEmpty)] 335 ::
  pt b (jv ⟨room, aQ.all ⟨room, buf, snd, cH, closed⟩, snd.tail, cH, closed⟩ Ab cb As cs Ar cr) 236 :: rf Ab cb (aQ.all ⟨room, buf, snd, cH, closed⟩) :: ql As cs snd.tail :: ql Ar cr cH :: L') M, ?_, ?_⟩
 ·refine aH.2 ⟨fun hr => ?_, fun hr => ?_⟩
  ·cases snd with
   | nil => simp at hr
   | cons w r =>
    repeat (first|(refine ai h ?_;clear h;intro kb M h)|(refine ak h ?_;clear h;intro M h)|refine St.to h ?_|(apply Exists.intro;(repeat apply Exists.intro);refine And.intro rfl ?_)|refine ay ?_|refine aq ?_|refine au ?_)
    refine zw h (h.src (A := As)) rfl (h.nw As) (by simpa using h2) ?_
    clear h
    intro A' c' M h
    repeat (first|(refine ai h ?_;clear h;intro kb M h)|(refine ak h ?_;clear h;intro M h)|refine St.to h ?_|(apply Exists.intro;(repeat apply Exists.intro);refine And.intro rfl ?_)|refine ay ?_|refine aq ?_|refine au ?_)
    refine h.aZ lp [w.v] rfl rfl (by simp; omega) ?_
    clear h
    intro A2 c2 M h
    repeat (first|(refine ai h ?_;clear h;intro kb M h)|(refine ak h ?_;clear h;intro M h)|refine St.to h ?_|(apply Exists.intro;(repeat apply Exists.intro);refine And.intro rfl ?_)|refine ay ?_|refine aq ?_|refine au ?_)
    exact ⟨A2, c2, A', c', h.sub bx⟩
  ·cases snd with
   | cons w r => simp at hr
   | nil => exact ⟨rfl, Ab, cb, As, cs, h.sub bx⟩
 clear h
 rintro _ M ⟨_, Ab, cb, As, cs, h⟩
 unfold aQ.recv at k
 dsimp only at k
 have ig : (aQ.all ⟨room, buf, snd, cH, closed⟩).length ≤ 1000000001 := by unfold aQ.all; split <;> simp <;> omega
 have Wg : aQ.all ⟨room, buf, snd, cH, closed⟩ = [] → snd = [] ∧ buf = [] := by unfold aQ.all; dsimp only; cases snd <;> simp
 generalize aQ.all ⟨room, buf, snd, cH, closed⟩ = all at h k ig Wg
 dsimp only [jv] at h
 repeat (first|(refine ai h ?_;clear h;intro kb M h)|(refine ak h ?_;clear h;intro M h)|refine St.to h ?_|(apply Exists.intro;(repeat apply Exists.intro);refine And.intro rfl ?_)|refine ay ?_|refine aq ?_|refine au ?_)
 refine aH.2 ⟨fun hr => ?_, fun hr => ?_⟩
 ·cases all with
  | nil => simp at hr
  | cons v l =>
   dsimp only at k
   repeat (first|(refine ai h ?_;clear h;intro kb M h)|(refine ak h ?_;clear h;intro M h)|refine St.to h ?_|(apply Exists.intro;(repeat apply Exists.intro);refine And.intro rfl ?_)|refine ay ?_|refine aq ?_|refine au ?_)
   obtain ⟨x, rfl⟩ := h.bU (A := Ab) (by simp) (by decide)
   repeat (first|(refine ai h ?_;clear h;intro kb M h)|(refine ak h ?_;clear h;intro M h)|refine St.to h ?_|(apply Exists.intro;(repeat apply Exists.intro);refine And.intro rfl ?_)|refine ay ?_|refine aq ?_|refine au ?_)
   refine aj ((h.src (A := some ⟨x, 0, none⟩)).at h (i := 0) (j := 0) rfl rfl (by omega)) ?_
   have hcap := h.nw (some ⟨x, 0, none⟩)
   have hlen : l.length + 1 ≤ 1000000001 := by simpa using ig
   repeat (first|(refine ai h ?_;clear h;intro kb M h)|(refine ak h ?_;clear h;intro M h)|refine St.to h ?_|(apply Exists.intro;(repeat apply Exists.intro);refine And.intro rfl ?_)|refine ay ?_|refine aq ?_|refine au ?_)
   simp only [Int.toNat_natCast]
   refine h.b6 bR lp l ((h.src (A := some ⟨x, 0, none⟩)).drop (m := 1) hcap) (by simp) (by omega) ?_
   clear h
   intro A' c' M h
   repeat (first|(refine ai h ?_;clear h;intro kb M h)|(refine ak h ?_;clear h;intro M h)|refine St.to h ?_|(apply Exists.intro;(repeat apply Exists.intro);refine And.intro rfl ?_)|refine ay ?_|refine aq ?_|refine au ?_)
   exact k _ (dK h b).cG
 ·cases all with
  | cons v l => simp at hr
  | nil =>
  obtain ⟨rfl, rfl⟩ := Wg rfl
  repeat (first|(refine ai h ?_;clear h;intro kb M h)|(refine ak h ?_;clear h;intro M h)|refine St.to h ?_|(apply Exists.intro;(repeat apply Exists.intro);refine And.intro rfl ?_)|refine ay ?_|refine aq ?_|refine au ?_)
  refine fH.2 ⟨fun hc => ?_, fun hc => ?_⟩
  ·subst hc
   repeat (first|(refine ai h ?_;clear h;intro kb M h)|(refine ak h ?_;clear h;intro M h)|refine St.to h ?_|(apply Exists.intro;(repeat apply Exists.intro);refine And.intro rfl ?_)|refine ay ?_|refine aq ?_|refine au ?_)
   exact k _ (dK h b).cG
  ·subst hc
   repeat (first|(refine ai h ?_;clear h;intro kb M h)|(refine ak h ?_;clear h;intro M h)|refine St.to h ?_|(apply Exists.intro;(repeat apply Exists.intro);refine And.intro rfl ?_)|refine ay ?_|refine aq ?_|refine au ?_)
   exact k _ (dK h b).cG
theorem HW (h : Hp R L M) [o : gk bL b L c L'] (hs : c.Small 1000000000)
  (k : ∀ A ca B cb D cd M', Hp R (bl bL b c :: ql D cd c.cH :: ql B cb c.snd :: rf A ca c.buf :: L') M' → K (.agg #[.slice A c.buf.length ca, .slice B c.snd.length cb, .slice D c.cH.length cd, .bool c.closed]) M') :
  ae Tryz.prog 117 #[.pointer (some ⟨b, 0, none⟩)] M K Kp := by
 refine tX ?_
 have h' := iq h (b := b)
 clear h
 obtain ⟨Ab, cb, As, cs, Ar, cr, h⟩ := h'
 obtain ⟨h1, h2, h3⟩ := hs
 repeat (first|(refine ai h ?_;clear h;intro kb M h)|(refine ak h ?_;clear h;intro M h)|refine St.to h ?_|(apply Exists.intro;(repeat apply Exists.intro);refine And.intro rfl ?_)|refine ay ?_|refine aq ?_|refine au ?_)
 refine h.b6 bR lp c.buf (h.src (A := Ab)) rfl (by omega) ?_
 clear h
 intro A ca M h
 repeat (first|(refine ai h ?_;clear h;intro kb M h)|(refine ak h ?_;clear h;intro M h)|refine St.to h ?_|(apply Exists.intro;(repeat apply Exists.intro);refine And.intro rfl ?_)|refine ay ?_|refine aq ?_|refine au ?_)
 refine h.b6 cC tw c.snd (h.src (A := As)) rfl (by omega) ?_
 clear h
 intro B cb' M h
 repeat (first|(refine ai h ?_;clear h;intro kb M h)|(refine ak h ?_;clear h;intro M h)|refine St.to h ?_|(apply Exists.intro;(repeat apply Exists.intro);refine And.intro rfl ?_)|refine ay ?_|refine aq ?_|refine au ?_)
 refine h.b6 cC tw c.cH (h.src (A := Ar)) rfl (by omega) ?_
 clear h
 intro D cd M h
 repeat (first|(refine ai h ?_;clear h;intro kb M h)|(refine ak h ?_;clear h;intro M h)|refine St.to h ?_|(apply Exists.intro;(repeat apply Exists.intro);refine And.intro rfl ?_)|refine ay ?_|refine aq ?_|refine au ?_)
 exact k _ _ _ _ _ _ _ (dK h b).cG
theorem HX (h : Hp R L M) [o : gk bL b L c L']
  (k : ∀ A ca B cb M', Hp R (bl bL b c.close.1 :: ql B cb c.close.2.2.1 :: ql A ca c.close.2.1 :: L') M' → K (.tuple #[.slice A c.close.2.1.length ca, .slice B c.close.2.2.1.length cb, .int .i64 c.close.2.2.2]) M') :
  ae Tryz.prog 213 #[.pointer (some ⟨b, 0, none⟩)] M K Kp := by
 refine tZ ?_
 obtain ⟨room, buf, snd, cH, closed⟩ := c
 have h' := iq h (b := b)
 clear h
 obtain ⟨Ab, cb, As, cs, Ar, cr, h⟩ := h'
 dsimp only [jv] at h
 repeat (first|(refine ai h ?_;clear h;intro kb M h)|(refine ak h ?_;clear h;intro M h)|refine St.to h ?_|(apply Exists.intro;(repeat apply Exists.intro);refine And.intro rfl ?_)|refine ay ?_|refine aq ?_|refine au ?_)
 refine fH.2 ⟨fun hc => ?_, fun hc => ?_⟩
 ·subst hc
  have h := dK ((h.dz cC 298).dz cC 298) b
  exact k none 0 none 0 _ h
 ·subst hc
  repeat (first|(refine ai h ?_;clear h;intro kb M h)|(refine ak h ?_;clear h;intro M h)|refine St.to h ?_|(apply Exists.intro;(repeat apply Exists.intro);refine And.intro rfl ?_)|refine ay ?_|refine aq ?_|refine au ?_)
  have h := (h.dz cC 298).dz cC 298
  exact k _ _ _ _ _ ((dK h b).sub bx)
theorem kG {B : Option Addr} {n cc : Nat} {g : Int} {l : List Wt} (h : Hp R L M) (hB : Src R L B (cC.cells l)) (hn : n = l.length) (hs : l.length ≤ 1000000000)
  (k : ∀ A' c' M', Hp R (ql A' c' (wo g l) :: L) M' → K (.slice A' (wo g l).length c') M') :
  ae Tryz.prog 227 #[.slice B n cc, .int .i64 g] M K Kp := by
 subst hn
 refine yn ⟨fun d vs M => ∃ i A c, vs = [.slice A (wo g (l.take i)).length c, .int .i64 (i : Int)] ∧ d = l.length - i ∧ i ≤ l.length ∧ Hp R (ql A c (wo g (l.take i)) :: L) M,
  ⟨_, 0, none, 0, rfl, rfl, by omega, h.dz _ _⟩, ?_⟩
 clear h
 rintro d _ A n c' ii M ⟨i, _, _, he, hd, hi, h⟩
 simp only [List.cons.injEq, Value.slice.injEq, Value.int.injEq, and_true, true_and] at he
 obtain ⟨⟨rfl, rfl, rfl⟩, rfl⟩ := he
 refine aH.2 ⟨fun hlt => ?_, fun hge => ?_⟩
 ·obtain ⟨w, hw⟩ := aL (l := l) (i := i) (by omega)
  obtain ⟨b, o, rfl⟩ := hB.cons.iK h (by omega) (by decide)
  have e1 : IntKind.wrap .i64 ((i : Int) + 1) = ((i + 1 : Nat) : Int) := aS (by omega)
  have hl := Bq g (l.take i)
  have dU := List.length_take_le i l
  rw [e1]
  repeat (first|(refine ai h ?_;clear h;intro kb M h)|(refine ak h ?_;clear h;intro M h)|refine St.to h ?_|(apply Exists.intro;(repeat apply Exists.intro);refine And.intro rfl ?_)|refine ay ?_|refine aq ?_|refine au ?_)
  refine aj (hB.cons.at h (j := 0) hw rfl (by simp [cC])) ?_
  refine aj (hB.cons.at h (j := 1) hw rfl (by simp [cC]; omega)) ?_
  refine aj (hB.cons.at h (j := 2) hw rfl (by simp [cC]; omega)) ?_
  repeat (first|(refine ai h ?_;clear h;intro kb M h)|(refine ak h ?_;clear h;intro M h)|refine St.to h ?_|(apply Exists.intro;(repeat apply Exists.intro);refine And.intro rfl ?_)|refine ay ?_|refine aq ?_|refine au ?_)
  refine dJ.2 ⟨fun hne => ?_, fun heq => ?_⟩
  ·have e2 : wo g (l.take (i + 1)) = wo g (l.take i) ++ [w] := by rw [dw hw, yj]; simp [wo, hne]
   repeat (first|(refine ai h ?_;clear h;intro kb M h)|(refine ak h ?_;clear h;intro M h)|refine St.to h ?_|(apply Exists.intro;(repeat apply Exists.intro);refine And.intro rfl ?_)|refine ay ?_|refine aq ?_|refine au ?_)
   refine h.aZ tw [w] rfl rfl (by simp; omega) ?_
   clear h
   intro A' c' M h
   repeat (first|(refine ai h ?_;clear h;intro kb M h)|(refine ak h ?_;clear h;intro M h)|refine St.to h ?_|(apply Exists.intro;(repeat apply Exists.intro);refine And.intro rfl ?_)|refine ay ?_|refine aq ?_|refine au ?_)
   exact ⟨l.length - (i + 1), by omega, i + 1, A', c', by rw [e2], rfl, by omega, by rw [e2]; exact h.cG⟩
  ·have e2 : wo g (l.take (i + 1)) = wo g (l.take i) := by rw [dw hw, yj]; simp [wo, heq]
   exact ⟨l.length - (i + 1), by omega, i + 1, A, c', by rw [e2], rfl, by omega, by rw [e2]; exact h.jb⟩
 ·have : i = l.length := by omega
  subst this
  rw [List.take_length] at h ⊢
  exact k _ _ _ h
theorem KM {g : Int} (h : Hp R L M) [o : gk bL b L c L'] (hs : c.Small 1000000000) (k : ∀ M', Hp R (bl bL b (c.drop g) :: L') M' → K (.tuple #[]) M') :
  ae Tryz.prog 226 #[.pointer (some ⟨b, 0, none⟩), .int .i64 g] M K Kp := by
 refine vv ?_
 have h' := iq h (b := b)
 clear h
 obtain ⟨Ab, cb, As, cs, Ar, cr, h⟩ := h'
 obtain ⟨h1, h2, h3⟩ := hs
 repeat (first|(refine ai h ?_;clear h;intro kb M h)|(refine ak h ?_;clear h;intro M h)|refine St.to h ?_|(apply Exists.intro;(repeat apply Exists.intro);refine And.intro rfl ?_)|refine ay ?_|refine aq ?_|refine au ?_)
 refine ⟨?_, ?_, trivial⟩
 ·refine kG h (h.src (A := As)) rfl h2 ?_
  clear h
  intro A' c' M h
  repeat (first|(refine ai h ?_;clear h;intro kb M h)|(refine ak h ?_;clear h;intro M h)|refine St.to h ?_|(apply Exists.intro;(repeat apply Exists.intro);refine And.intro rfl ?_)|refine ay ?_|refine aq ?_|refine au ?_)
  refine kG h (h.src (A := Ar)) rfl h3 ?_
  clear h
  intro B' d' M h
  repeat (first|(refine ai h ?_;clear h;intro kb M h)|(refine ak h ?_;clear h;intro M h)|refine St.to h ?_|(apply Exists.intro;(repeat apply Exists.intro);refine And.intro rfl ?_)|refine ay ?_|refine aq ?_|refine au ?_)
  exact k _ (dK h b).cG
 ·repeat (first|(refine ai h ?_;clear h;intro kb M h)|(refine ak h ?_;clear h;intro M h)|refine St.to h ?_|(apply Exists.intro;(repeat apply Exists.intro);refine And.intro rfl ?_)|refine ay ?_|refine aq ?_|refine au ?_)
  refine kG h (h.src (A := As)) rfl h2 ?_
  clear h
  intro A' c' M h
  repeat (first|(refine ai h ?_;clear h;intro kb M h)|(refine ak h ?_;clear h;intro M h)|refine St.to h ?_|(apply Exists.intro;(repeat apply Exists.intro);refine And.intro rfl ?_)|refine ay ?_|refine aq ?_|refine au ?_)
  refine kG h (h.src (A := Ar)) rfl h3 ?_
  clear h
  intro B' d' M h
  repeat (first|(refine ai h ?_;clear h;intro kb M h)|(refine ak h ?_;clear h;intro M h)|refine St.to h ?_|(apply Exists.intro;(repeat apply Exists.intro);refine And.intro rfl ?_)|refine ay ?_|refine aq ?_|refine au ?_)
  exact k _ (dK h b).cG
end
end Go.Proofs
namespace Go.AF
theorem NS {α β γ : Type} {f : α → β → γ} : ∀ {l : List α} {m : List β} {i : Nat} {a : α} {b : β}, l[i]? = some a → (List.zipWith f l m).set i (f a b) = List.zipWith f l (m.set i b)
 | [], _, _, _, _, h => by simp at h
 | x :: l, [], i, a, b, h => by simp
 | x :: l, y :: m, 0, a, b, h => by simp at h; subst h; rfl
 | x :: l, y :: m, i + 1, a, b, h => by
  have := NS (f := f) (m := m) (b := b) (show l[i]? = some a from by simpa using h)
  simp [this]
theorem Sd {α β γ : Type} {f : α → β → γ} : ∀ {l : List α} {m : List β} {i : Nat} {a : α} {b : β}, l[i]? = some a → m[i]? = some b → (List.zipWith f l m)[i]? = some (f a b)
 | [], _, _, _, _, h, _ => by simp at h
 | x :: l, [], i, a, b, h, g => by simp at g
 | x :: l, y :: m, 0, a, b, h, g => by simp at h g; subst h; subst g; rfl
 | x :: l, y :: m, i + 1, a, b, h, g => by simpa using Sd (f := f) (show l[i]? = some a from by simpa using h) (show m[i]? = some b from by simpa using g)
theorem eB.past {P : HP} {L : List HP} : ∀ (l : List HP), eB (l ++ P :: L) P (l ++ L)
 | [] => .here
 | Q :: l => .there (eB.past l)
section
variable {α : Type} {r : xJ α} {R : Mem} {L L' HR : List HP} {M : Mem} {bs : List Nat} {cs : List α} {b i : Nat} {c : α}
def cN (r : xJ α) (bs : List Nat) (cs : List α) : HP := sep (List.zipWith (bl r) bs cs)
def zx (r : xJ α) (bs : List Nat) (cs : List α) (i : Nat) : HP := sep ((List.zipWith (bl r) bs cs).eraseIdx i)
class iE (r : xJ α) (L : List HP) (bs : outParam (List Nat)) (cs : outParam (List α)) (L' : outParam (List HP)) : Prop where
 pick : eB L (cN r bs cs) L'
instance iE.here : iE r (cN r bs cs :: L) bs cs L := ⟨.here⟩
instance (priority := low) iE.there {P : HP} [h : iE r L bs cs L'] : iE r (P :: L) bs cs (P :: L') := ⟨.there h.pick⟩
class zy (r : xJ α) (L : List HP) (bs : outParam (List Nat)) (cs : outParam (List α)) (i : outParam Nat) (L' : outParam (List HP)) : Prop where
 pick : eB L (zx r bs cs i) L'
instance zy.here : zy r (zx r bs cs i :: L) bs cs i L := ⟨.here⟩
instance (priority := low) zy.there {P : HP} [h : zy r L bs cs i L'] : zy r (P :: L) bs cs i (P :: L') := ⟨.there h.pick⟩
theorem Hp.pB (h : Hp R L M) (r : xJ α) {bs : List Nat} {cs : List α} [o : iE r L bs cs L'] : Hp R (cN r bs cs :: L') M := h.pick o.pick
theorem Hp.By (h : Hp R L M) (r : xJ α) : Hp R (cN r [] [] :: L) M := Hp.cW.2 h
theorem Hp.eG (h : Hp R L M) (r : xJ α) {bs : List Nat} {cs : List α} [o : iE r L bs cs L'] (hb : bs[i]? = some b) (hc : cs[i]? = some c) : Hp R (bl r b c :: zx r bs cs i :: L') M :=
 (h.pick o.pick).focus (Sd hb hc)
theorem Hp.gM (h : Hp R L M) (r : xJ α) (b : Nat) {bs : List Nat} {cs : List α} {i : Nat} {c : α} [o : gk r b L c L'] [x : zy r L' bs cs i HR] (hb : bs[i]? = some b) (hc : i < cs.length) : Hp R (cN r bs (cs.set i c) :: HR) M := by
 have h1 : Hp R (bl r b c :: zx r bs cs i :: HR) M := (h.pick o.pick).map fun _ hs => hs.tail (fun _ => de.pick x.pick)
 have h2 := Hp.Wp (ls := List.zipWith (bl r) bs cs) h1 (by rw [List.length_zipWith]; have := (List.getElem?_eq_some_iff.1 hb).1; omega)
 rw [NS hb] at h2
 exact h2
theorem Hp.od (h : Hp R L M) (r : xJ α) (b : Nat) {bs : List Nat} {cs : List α} {i : Nat} {c : α} [o : gk r b L c L'] [x : zy r L' bs cs i HR] (hb : bs[i]? = some b) (hc : cs[i]? = some c) : Hp R (cN r bs cs :: HR) M := by
 have := h.gM r b hb (List.getElem?_eq_some_iff.1 hc).1
 obtain ⟨hi, rfl⟩ := List.getElem?_eq_some_iff.1 hc
 rwa [List.set_getElem_self] at this
theorem Hp.tx (h : Hp R L M) (r : xJ α) (b : Nat) {bs : List Nat} {cs : List α} {c : α} [o : gk r b L c L'] [x : iE r L' bs cs HR] (hl : bs.length = cs.length) : Hp R (cN r (bs ++ [b]) (cs ++ [c]) :: HR) M := by
 have h1 : Hp R (bl r b c :: cN r bs cs :: HR) M := (h.pick o.pick).map fun _ hs => hs.tail (fun _ => de.pick x.pick)
 refine Hp.cW.2 ?_
 rw [List.zipWith_append hl, List.append_assoc]
 refine Hp.yd (P := bl r b c) ?_ (eB.past _)
 exact h1.map fun _ hs => hs.tail fun _ hb => de.cW.1 hb
end
end Go.AF
namespace Go.Proofs
open Go.AF
set_option maxRecDepth 100000
variable {M : Mem} {K : Value → Mem → Prop} {Kp : List PanicEntry → Mem → Prop}
theorem yo {B0 : Option Addr} {m0 c0 : Nat} {B1 : Option Addr} {m1 c1 : Nat} (h :
∃ I1 : IT, (∃ k2, I1 k2 [(.slice none 0 0), (iV 0)] M) ∧
∀ (k3 : Nat) (_ : Nat → Value) (A5 : Option Addr) (k6 : Nat) (k7 : Nat) (n8 : Int) (M9 : Mem), (I1 k3 [(.slice A5 k6 k7), (iV n8)] M9) → aM (decide (n8 < m0))
 ((0 ≤ n8) ∧
 (n8 < m0) ∧
 aE B0 fun eD eu =>
 eR M9 eD (eu + ((Int.toNat n8) * 3)) fun gZ mY jA =>
 aO M9 th fun ju gh =>
 pb gh ju (iV gZ) (iV mY) (iV jA) fun mW =>
 eR mW ju 0 fun gC u0 wP =>
 ae Tryz.prog 204 #[(.agg #[(iV gC), (iV u0), (iV wP)]), (.slice B1 m1 c1)] mW (fun v23 ny =>
 dG (some v23) fun t25 =>
 aM t25
 (aO ny (cl [(iV n8)] 3) fun gH mZ =>
 aA 38 A5 k6 k7 (some ⟨gH, 0, none⟩) 1 1 mZ (fun O8 pz =>
 aF (some O8) fun yp iH ie =>
 ∃ lg : Nat, (lg < k3) ∧
 I1 lg [(.slice yp iH ie), (iV (IntKind.wrap .i64 (n8 + 1)))] pz) Kp)
 (∃ mK : Nat, (mK < k3) ∧
 I1 mK [(.slice A5 k6 k7), (iV (IntKind.wrap .i64 (n8 + 1)))] ny)) Kp)
 (K (.slice A5 k6 k7) M9)) :
 ae Tryz.prog 155 #[.slice B0 m0 c0, .slice B1 m1 c1] M K Kp := vw [(2000000, .loop [(5, .c .sl), (10, .c (.int .i64))])] Tryz.func155 h
theorem C2 {B0 : Option Addr} {m0 c0 : Nat} (h :
∃ I1 : IT, (∃ k2, I1 k2 [(iV 0)] M) ∧
∀ (k3 : Nat) (_ : Nat → Value) (n5 : Int) (M6 : Mem), (I1 k3 [(iV n5)] M6) → aM (decide (n5 < m0))
 ((0 ≤ n5) ∧
 (n5 < m0) ∧
 aE B0 fun k7 k8 =>
 eR M6 k7 (k8 + ((Int.toNat n5) * 3)) fun n9 dI kY =>
 aO M6 th fun gF lu =>
 pb lu gF (iV n9) (iV dI) (iV kY) fun gh =>
 rI gh gF 0 fun kN =>
 aM (kN == 2)
 (K (.tuple #[(iV n5), (.bool true)]) gh)
 (∃ fm : Nat, (fm < k3) ∧
 I1 fm [(iV (IntKind.wrap .i64 (n5 + 1)))] gh))
 (K (.tuple #[(iV 0), (.bool false)]) M6)) :
 ae Tryz.prog 156 #[.slice B0 m0 c0] M K Kp := vw [(2000000, .loop [(8, .c (.int .i64))])] Tryz.func156 h
theorem C3 {x0 : Int} {B1 : Option Addr} {m1 c1 : Nat} {B2 : Option Addr} {m2 c2 : Nat} {B3 : Option Addr} {m3 c3 : Nat} (h :
∃ I1 : IT, (∃ k2, I1 k2 [(iV 0)] M) ∧
∀ (k3 : Nat) (_ : Nat → Value) (n5 : Int) (M6 : Mem), (I1 k3 [(iV n5)] M6) → aM (decide (n5 < m1))
 ((0 ≤ n5) ∧
 (n5 < m1) ∧
 aE B1 fun k7 k8 =>
 eR M6 k7 (k8 + ((Int.toNat n5) * 3)) fun n9 dI kY =>
 aO M6 th fun gF lu =>
 pb lu gF (iV n9) (iV dI) (iV kY) fun gh =>
 rI gh gF 0 fun kN =>
 aM (kN == 0)
 (rI gh gF 1 fun kM =>
 (0 ≤ kM) ∧
 (kM < m3) ∧
 aE B3 fun jC fQ =>
 rP gh jC (fQ + (Int.toNat kM)) fun CM =>
 ae Tryz.prog 205 #[(.pointer CM), (.agg #[(iV x0), (iV n5), (iV 0)])] gh (fun KG mm =>
 (KG = (.tuple #[])) ∧
 ∃ nM : Nat, (nM < k3) ∧
 I1 nM [(iV (IntKind.wrap .i64 (n5 + 1)))] mm) Kp)
 (aM (kN == 1)
 (rI gh gF 1 fun yq =>
 (0 ≤ yq) ∧
 (yq < m3) ∧
 aE B3 fun gH kF =>
 rP gh gH (kF + (Int.toNat yq)) fun zW =>
 rI gh gF 2 fun yu =>
 (0 ≤ yu) ∧
 (yu < m2) ∧
 aE B2 fun jc iH =>
 rI gh jc (iH + (Int.toNat yu)) fun n32 =>
 ae Tryz.prog 206 #[(.pointer zW), (.agg #[(iV x0), (iV n5), (iV n32)])] gh (fun v33 qI =>
 (v33 = (.tuple #[])) ∧
 ∃ ku : Nat, (ku < k3) ∧
 I1 ku [(iV (IntKind.wrap .i64 (n5 + 1)))] qI) Kp)
 (∃ nP : Nat, (nP < k3) ∧
 I1 nP [(iV (IntKind.wrap .i64 (n5 + 1)))] gh)))
 (K (.tuple #[]) M6)) :
 ae Tryz.prog 157 #[.int .i64 x0, .slice B1 m1 c1, .slice B2 m2 c2, .slice B3 m3 c3] M K Kp := vw [(2000000, .loop [(12, .c (.int .i64))]), (7, .bH [0, 0, 2, 7, 15, 0, 0, 0, 0, 256, 896, 1920, 4064, 8191] (sy [0, 1, 5, 6, 7, 8, 2, 3, 4, 9, 10, 11, 12, 13] .done))] Tryz.func157 h
theorem wR {oe : Int} {wS : Int} {kO : Int} {B1 : Option Addr} {m1 c1 : Nat} (h :
aO M (cl [(iV oe), (iV wS), (iV kO)] 172) fun k1 M2 =>
rI M2 k1 0 fun n3 =>
aM (n3 == 0)
 (rI M2 k1 1 fun n4 =>
 (0 ≤ n4) ∧
 (n4 < m1) ∧
 aE B1 fun k5 k6 =>
 rP M2 k5 (k6 + (Int.toNat n4)) fun A7 =>
 ae Tryz.prog 220 #[(.pointer A7)] M2 (fun v8 M9 =>
 dG (some v8) fun t10 =>
 K (.bool t10) M9) Kp)
 (aM (n3 == 1)
 (rI M2 k1 1 fun kY =>
 (0 ≤ kY) ∧
 (kY < m1) ∧
 aE B1 fun gF eA =>
 rP M2 gF (eA + (Int.toNat kY)) fun ua =>
 ae Tryz.prog 221 #[(.pointer ua)] M2 (fun Bu gh =>
 dG (some Bu) fun t17 =>
 K (.bool t17) gh) Kp)
 (K (.bool false) M2))) :
 ae Tryz.prog 204 #[.agg #[.int .i64 oe, .int .i64 wS, .int .i64 kO], .slice B1 m1 c1] M K Kp := vw [] Tryz.func204 h
theorem Bz {x0 : Int} {B1 : Option Addr} {m1 c1 : Nat} (h :
∃ I1 : IT, (∃ k2, I1 k2 [(iV 0)] M) ∧
∀ (k3 : Nat) (_ : Nat → Value) (n5 : Int) (M6 : Mem), (I1 k3 [(iV n5)] M6) → aM (decide (n5 < m1))
 ((0 ≤ n5) ∧
 (n5 < m1) ∧
 aE B1 fun k7 k8 =>
 rP M6 k7 (k8 + (Int.toNat n5)) fun A9 =>
 ae Tryz.prog 226 #[(.pointer A9), (iV x0)] M6 (fun v10 iL =>
 (v10 = (.tuple #[])) ∧
 ∃ gF : Nat, (gF < k3) ∧
 I1 gF [(iV (IntKind.wrap .i64 (n5 + 1)))] iL) Kp)
 (K (.tuple #[]) M6)) :
 ae Tryz.prog 225 #[.int .i64 x0, .slice B1 m1 c1] M K Kp := vw [(2000000, .loop [(8, .c (.int .i64))])] Tryz.func225 h
theorem rj {B0 : Option Addr} {m0 c0 : Nat} (h :
∃ I1 : IT, (∃ k2, I1 k2 [(iV 0)] M) ∧
∀ (k3 : Nat) (_ : Nat → Value) (n5 : Int) (M6 : Mem), (I1 k3 [(iV n5)] M6) → aM (decide (n5 < m0))
 ((0 ≤ n5) ∧
 (n5 < m0) ∧
 aE B0 fun k7 k8 =>
 eR M6 k7 (k8 + ((Int.toNat n5) * 3)) fun n9 dI kY =>
 aO M6 lT fun gF lu =>
 pb lu gF (iV n9) (iV dI) (iV kY) fun gh =>
 rI gh gF 0 fun kN =>
 aM (kN == 2)
 (K (iV n5) gh)
 (∃ fm : Nat, (fm < k3) ∧
 I1 fm [(iV (IntKind.wrap .i64 (n5 + 1)))] gh))
 (K (iV (-1)) M6)) :
 ae Tryz.prog 193 #[.slice B0 m0 c0] M K Kp := vw [(2000000, .loop [(7, .c (.int .i64))])] Tryz.func193 h
theorem og {B0 : Option Addr} {m0 c0 : Nat} {B1 : Option Addr} {m1 c1 : Nat} (h :
aO M (cl [] 3) fun k1 M2 =>
∃ I3 : IT, (∃ k4, I3 k4 [(.slice (some ⟨k1, 0, none⟩) 0 0), (iV 0)] M2) ∧
∀ (k5 : Nat) (_ : Nat → Value) (A7 : Option Addr) (k8 : Nat) (k9 : Nat) (dI : Int) (iL : Mem), (I3 k5 [(.slice A7 k8 k9), (iV dI)] iL) → aM (decide (dI < m0))
 ((0 ≤ dI) ∧
 (dI < m0) ∧
 aE B0 fun gF eA =>
 eR iL gF (eA + ((Int.toNat dI) * 3)) fun jA kX nZ =>
 aO iL lT fun fO mq =>
 pb mq fO (iV jA) (iV kX) (iV nZ) fun jD =>
 rI jD fO 0 fun wP =>
 aM (wP == 2)
 (∃ gI : Nat, (gI < k5) ∧
 I3 gI [(.slice A7 k8 k9), (iV (IntKind.wrap .i64 (dI + 1)))] jD)
 (rI jD fO 1 fun pY =>
 (0 ≤ pY) ∧
 (pY < m1) ∧
 aE B1 fun jE gH =>
 cI jD jE (gH + ((Int.toNat pY) * 5)) fun KN zW gi jc HT ie lg D6 ku nP t37 =>
 aO jD cZ fun fB Fi =>
 Bn Fi fB (iV KN) (.slice zW gi jc) (.slice HT ie lg) (.slice D6 ku nP) (.bool t37) fun qm =>
 rB qm fB 4 fun t45 =>
 aM t45
 (aO qm (cl [(iV dI)] 3) fun mV wT =>
 aA 38 A7 k8 k9 (some ⟨mV, 0, none⟩) 1 1 wT (fun v48 wQ =>
 aF (some v48) fun A50 D7 tv =>
 ∃ kL : Nat, (kL < k5) ∧
 I3 kL [(.slice A50 D7 tv), (iV (IntKind.wrap .i64 (dI + 1)))] wQ) Kp)
 (rI qm fO 0 fun vz =>
 aM (vz == 0)
 (rS qm fB 2 fun Se xM wU =>
 rS qm fB 1 fun VP AB KO =>
 aM (decide (((IntKind.wrap .i64 ((xM : Int) + (AB : Int))) : Int) > 0))
 (aO qm (cl [(iV dI)] 3) fun tB NQ =>
 aA 38 A7 k8 k9 (some ⟨tB, 0, none⟩) 1 1 NQ (fun BA qJ =>
 aF (some BA) fun QK HY G2 =>
 ∃ NT : Nat, (NT < k5) ∧
 I3 NT [(.slice QK HY G2), (iV (IntKind.wrap .i64 (dI + 1)))] qJ) Kp)
 (rI qm fO 0 fun KP =>
 aM (KP == 1)
 (rS qm fB 3 fun A70 Fj G3 =>
 aM (decide ((Fj : Int) > 0))
 (aO qm (cl [(iV dI)] 3) fun JY G4 =>
 aA 38 A7 k8 k9 (some ⟨JY, 0, none⟩) 1 1 G4 (fun Wv Ww =>
 aF (some Wv) fun A77 C4 NU =>
 ∃ Fk : Nat, (Fk < k5) ∧
 I3 Fk [(.slice A77 C4 NU), (iV (IntKind.wrap .i64 (dI + 1)))] Ww) Kp)
 (rS qm fB 1 fun Sf zX xN =>
 rI qm fB 0 fun QJ =>
 aM (decide ((zX : Int) < QJ))
 (aO qm (cl [(iV dI)] 3) fun QL M86 =>
 aA 38 A7 k8 k9 (some ⟨QL, 0, none⟩) 1 1 M86 (fun Sg M88 =>
 aF (some Sg) fun A89 O9 Sh =>
 ∃ Pa : Nat, (Pa < k5) ∧
 I3 Pa [(.slice A89 O9 Sh), (iV (IntKind.wrap .i64 (dI + 1)))] M88) Kp)
 (∃ Wx : Nat, (Wx < k5) ∧
 I3 Wx [(.slice A7 k8 k9), (iV (IntKind.wrap .i64 (dI + 1)))] qm)))
 (∃ HZ : Nat, (HZ < k5) ∧
 I3 HZ [(.slice A7 k8 k9), (iV (IntKind.wrap .i64 (dI + 1)))] qm)))
 (rI qm fO 0 fun R0 =>
 aM (R0 == 1)
 (rS qm fB 3 fun A96 KQ Si =>
 aM (decide ((KQ : Int) > 0))
 (aO qm (cl [(iV dI)] 3) fun QM M100 =>
 aA 38 A7 k8 k9 (some ⟨QM, 0, none⟩) 1 1 M100 (fun KR H6 =>
 aF (some KR) fun A103 Sj Pb =>
 ∃ Fl : Nat, (Fl < k5) ∧
 I3 Fl [(.slice A103 Sj Pb), (iV (IntKind.wrap .i64 (dI + 1)))] H6) Kp)
 (rS qm fB 1 fun A107 Pc Fm =>
 rI qm fB 0 fun Fg =>
 aM (decide ((Pc : Int) < Fg))
 (aO qm (cl [(iV dI)] 3) fun k111 nB =>
 aA 38 A7 k8 k9 (some ⟨k111, 0, none⟩) 1 1 nB (fun yw Pd =>
 aF (some yw) fun A115 H7 KS =>
 ∃ zY : Nat, (zY < k5) ∧
 I3 zY [(.slice A115 H7 KS), (iV (IntKind.wrap .i64 (dI + 1)))] Pd) Kp)
 (∃ ir : Nat, (ir < k5) ∧
 I3 ir [(.slice A7 k8 k9), (iV (IntKind.wrap .i64 (dI + 1)))] qm)))
 (∃ H8 : Nat, (H8 < k5) ∧
 I3 H8 [(.slice A7 k8 k9), (iV (IntKind.wrap .i64 (dI + 1)))] qm)))))
 (K (.slice A7 k8 k9) iL)) :
 ae Tryz.prog 192 #[.slice B0 m0 c0, .slice B1 m1 c1] M K Kp := vw [(2000000, .loop [(5, .c .sl), (12, .c (.int .i64))])] Tryz.func192 h
theorem rm {x0 : Int} {B1 : Option Addr} {m1 c1 : Nat} {oh : Int} {rq : Int} {om : Int} {ru : Int} {Sk : Int} {Sn : Int} {x2_6 : Int} {x2_7 : Int} {B3 : Option Addr} {m3 c3 : Nat} (h :
aO M (cl [(iV oh), (iV rq), (iV om), (iV ru), (iV Sk), (iV Sn), (iV x2_6), (iV x2_7)] 112) fun k1 M2 =>
aO M2 (cl [] 190) fun k3 M4 =>
aA 75 (some ⟨k3, 0, none⟩) 0 0 B3 m3 c3 M4 (fun v5 M6 =>
aF (some v5) fun A7 k8 k9 =>
∃ I10 : IT, (∃ eu, I10 eu [(iV 0)] M6) ∧
∀ (gF : Nat) (_ : Nat → Value) (jA : Int) (Fo : Mem), (I10 gF [(iV jA)] Fo) → aM (decide (jA < m1))
 ((0 ≤ jA) ∧
 (jA < m1) ∧
 aE B1 fun fq fO =>
 eR Fo fq (fO + ((Int.toNat jA) * 3)) fun kM nN gC =>
 aO Fo lT fun lz c9 =>
 pb c9 lz (iV kM) (iV nN) (iV gC) fun qk =>
 rI qk lz 0 fun H9 =>
 aM (H9 == 2)
 (∃ kF : Nat, (kF < gF) ∧
 I10 kF [(iV (IntKind.wrap .i64 (jA + 1)))] qk)
 (rI qk lz 1 fun JV =>
 (0 ≤ JV) ∧
 (JV < k8) ∧
 aE A7 fun gi jc =>
 cI qk gi (jc + ((Int.toNat JV) * 5)) fun q9 A32 lg mK QN nP pC NP lH tY t41 =>
 aO qk cZ fun jO wV =>
 Bn wV jO (iV q9) (.slice A32 lg mK) (.slice QN nP pC) (.slice NP lH tY) (.bool t41) fun D1 =>
 rI D1 lz 0 fun Pe =>
 aM (Pe == 0)
 (aO D1 (cl [] 289) fun vt AA =>
 rS AA jO 3 fun HV kL wq =>
 aA 188 (some ⟨vt, 0, none⟩) 0 0 HV kL wq AA (fun KI JX =>
 aF (some KI) fun QH D2 AB =>
 aO JX (cl [(iV x0), (iV jA), (iV 0)] 289) fun KO zV =>
 aA 188 QH D2 AB (some ⟨KO, 0, none⟩) 1 1 zV (fun Fp Fe =>
 aF (some Fp) fun A64 So HY =>
 sT Fe jO 3 (.slice A64 So HY) fun Za =>
 rI Za lz 1 fun wW =>
 cI Za jO 0 fun KP A70 Fj G3 A73 G5 Pf A76 zZ C4 t79 =>
 (0 ≤ wW) ∧
 (wW < k8) ∧
 aE A7 fun Fk Wy =>
 sT Za Fk (Wy + ((Int.toNat wW) * 5)) (iV KP) fun M82 =>
 sT M82 Fk ((Wy + ((Int.toNat wW) * 5)) + 1) (.slice A70 Fj G3) fun M83 =>
 sT M83 Fk ((Wy + ((Int.toNat wW) * 5)) + 2) (.slice A73 G5 Pf) fun Zb =>
 sT Zb Fk ((Wy + ((Int.toNat wW) * 5)) + 3) (.slice A76 zZ C4) fun Zc =>
 sT Zc Fk ((Wy + ((Int.toNat wW) * 5)) + 4) (.bool t79) fun M86 =>
 ∃ KT : Nat, (KT < gF) ∧
 I10 KT [(iV (IntKind.wrap .i64 (jA + 1)))] M86) Kp) Kp)
 (rS D1 jO 2 fun Wz Sp O9 =>
 rI D1 lz 2 fun Ia =>
 (0 ≤ Ia) ∧
 (Ia < 8) ∧
 rI D1 k1 (0 + (Int.toNat Ia)) fun CY =>
 aO D1 (cl [] 289) fun Wx M94 =>
 (True) ∧
 aA 188 (some ⟨Wx, 0, none⟩) 0 0 Wz Sp O9 M94 (fun v95 M96 =>
 aF (some v95) fun A97 Si QM =>
 ((Mem.ld M96 ⟨k1, (0 + (Int.toNat Ia)), none⟩) = (some (iV CY))) ∧
 eI M96 lz 2 Ia ∧
 aO M96 (cl [(iV x0), (iV jA), (iV CY)] 289) fun qo uc =>
 aA 188 A97 Si QM (some ⟨qo, 0, none⟩) 1 1 uc (fun KU KV =>
 aF (some KU) fun A104 Pb Fl =>
 ((Mem.ld KV ⟨k1, (0 + (Int.toNat Ia)), none⟩) = (some (iV CY))) ∧
 eI KV lz 2 Ia ∧
 sT KV jO 2 (.slice A104 Pb Fl) fun qp =>
 ((Mem.ld qp ⟨k1, (0 + (Int.toNat Ia)), none⟩) = (some (iV CY))) ∧
 eI qp lz 2 Ia ∧
 rI qp lz 1 fun qs =>
 cI qp jO 0 fun Sq A110 k111 k112 A113 KW k115 A116 KS zY t119 =>
 (0 ≤ qs) ∧
 (qs < k8) ∧
 aE A7 fun H8 BB =>
 sT qp H8 (BB + ((Int.toNat qs) * 5)) (iV Sq) fun M122 =>
 sT M122 H8 ((BB + ((Int.toNat qs) * 5)) + 1) (.slice A110 k111 k112) fun M123 =>
 sT M123 H8 ((BB + ((Int.toNat qs) * 5)) + 2) (.slice A113 KW k115) fun z3 =>
 sT z3 H8 ((BB + ((Int.toNat qs) * 5)) + 3) (.slice A116 KS zY) fun Sr =>
 sT Sr H8 ((BB + ((Int.toNat qs) * 5)) + 4) (.bool t119) fun M126 =>
 ∃ Ib : Nat, (Ib < gF) ∧
 I10 Ib [(iV (IntKind.wrap .i64 (jA + 1)))] M126) Kp) Kp)))
 (K (.slice A7 k8 k9) Fo)) Kp) :
 ae Tryz.prog 194 #[.int .i64 x0, .slice B1 m1 c1, .agg #[.int .i64 oh, .int .i64 rq, .int .i64 om, .int .i64 ru, .int .i64 Sk, .int .i64 Sn, .int .i64 x2_6, .int .i64 x2_7], .slice B3 m3 c3] M K Kp := vw [(2000000, .loop [(18, .c (.int .i64))]), (9, .bH [0, 0, 2, 7, 0, 0, 0, 64, 192, 448, 1008, 2032, 4095, 8191, 16383] (sy [1, 4, 5, 6, 2] (.cQ 7 (sy [8] (.cQ 9 (sy [10, 0] (.late 3 (sy [11, 12, 13, 14] .done))))))))] Tryz.func194 h
theorem qt {x0 : Int} {B1 : Option Addr} {m1 c1 : Nat} (h :
aO M (cl [] 190) fun k1 M2 =>
∃ I3 : IT, (∃ k4, I3 k4 [(.slice (some ⟨k1, 0, none⟩) 0 0), (iV 0)] M2) ∧
∀ (k5 : Nat) (_ : Nat → Value) (A7 : Option Addr) (k8 : Nat) (k9 : Nat) (dI : Int) (iL : Mem), (I3 k5 [(.slice A7 k8 k9), (iV dI)] iL) → aM (decide (dI < m1))
 ((0 ≤ dI) ∧
 (dI < m1) ∧
 aE B1 fun gF eA =>
 cI iL gF (eA + ((Int.toNat dI) * 5)) fun jA oQ fq fO KX jC fQ CM gf gI t24 =>
 aO iL cZ fun jE xO =>
 Bn xO jE (iV jA) (.slice oQ fq fO) (.slice KX jC fQ) (.slice CM gf gI) (.bool t24) fun ud =>
 cI ud jE 0 fun n32 JW mK ku A36 pC fB VM tY mP t42 =>
 ae Tryz.prog 224 #[(.agg #[(iV n32), (.slice JW mK ku), (.slice A36 pC fB), (.slice VM tY mP), (.bool t42)]), (iV x0)] ud (fun v43 qm =>
 ∃ ue : Int, ∃ A46 : Option Addr, ∃ j9 yx : Nat, ∃ Zd : Option Addr, ∃ vt D7 : Nat, ∃ HV : Option Addr, ∃ kL wq : Nat, ∃ t55 : Bool, (v43 = (.agg #[(iV ue), (.slice A46 j9 yx), (.slice Zd vt D7), (.slice HV kL wq), (.bool t55)])) ∧
 aO qm (cl [(iV ue), (.slice A46 j9 yx), (.slice Zd vt D7), (.slice HV kL wq), (.bool t55)] 190) fun xM GY =>
 aA 75 A7 k8 k9 (some ⟨xM, 0, none⟩) 1 1 GY (fun Fq eM =>
 aF (some Fq) fun VQ tB BC =>
 ∃ JZ : Nat, (JZ < k5) ∧
 I3 JZ [(.slice VQ tB BC), (iV (IntKind.wrap .i64 (dI + 1)))] eM) Kp) Kp)
 (K (.slice A7 k8 k9) iL)) :
 ae Tryz.prog 219 #[.int .i64 x0, .slice B1 m1 c1] M K Kp := vw [(2000000, .loop [(5, .c .sl), (11, .c (.int .i64))])] Tryz.func219 h
end Go.Proofs
namespace Go.Proofs
open Go.AF
set_option maxRecDepth 100000
set_option maxHeartbeats 1000000
attribute [local irreducible] bF dG fa dP aF eY aE b7 aO bj bJ aM
structure m5 where
 way : Int
 ch : Int
 bH : Int
 deriving DecidableEq
def gP : jM m5 := ⟨3, fun w => [.int .i64 w.way, .int .i64 w.ch, .int .i64 w.bH], fun _ => rfl, fun w v hv => by
 simp only [List.mem_cons, List.not_mem_nil, or_false] at hv; obtain rfl | rfl | rfl := hv <;> rfl⟩
def m5.Ok (n : Nat) (c : m5) : Prop := 0 ≤ c.way ∧ c.way ≤ 2 ∧ (c.way ≠ 2 → 0 ≤ c.ch ∧ c.ch < n ∧ 0 ≤ c.bH ∧ c.bH < 8)
instance (n : Nat) (c : m5) : Decidable (c.Ok n) := by unfold m5.Ok; infer_instance
def aX (cs : List aQ) (k : Int) : aQ := cs.getD k.toNat ⟨0, [], [], [], false⟩
def can (cs : List aQ) (c : m5) : Bool := if c.way = 0 then (aX cs c.ch).tq else if c.way = 1 then (aX cs c.ch).tp else false
def NV (cases : List m5) (cs : List aQ) (j : Nat) : Bool := match cases[j]? with
 | some c => can cs c
 | none => false
def z4 (cases : List m5) (cs : List aQ) (i : Nat) : List Int := ((List.range i).filter (NV cases cs)).map Int.ofNat
def enabled (cases : List m5) (cs : List aQ) : List Int := z4 cases cs cases.length
theorem BD (cases : List m5) (cs : List aQ) (i : Nat) : (z4 cases cs i).length ≤ i := by
 unfold z4; rw [List.length_map]; exact Nat.le_trans (List.length_filter_le ..) (by simp)
theorem yy {cases : List m5} {cs : List aQ} {i : Nat} {c : m5} (h : cases[i]? = some c) : z4 cases cs (i + 1) = z4 cases cs i ++ (if can cs c then [(i : Int)] else []) := by
 unfold z4
 rw [List.range_succ, List.filter_append, List.map_append]
 simp only [List.filter_cons, NV, h, List.filter_nil]
 split <;> simp_all
def els (cases : List m5) : Option Nat := cases.findIdx? (fun c => c.way == 2)
def iW (g : Int) (ej : List Int) (i : Nat) (c : m5) (cs : List aQ) : List aQ :=
 if c.way = 0 then cs.set c.ch.toNat { aX cs c.ch with cH := (aX cs c.ch).cH ++ [⟨g, i, 0⟩] }
 else if c.way = 1 then cs.set c.ch.toNat { aX cs c.ch with snd := (aX cs c.ch).snd ++ [⟨g, i, ej.getD c.bH.toNat 0⟩] } else cs
def dm (g : Int) (ej : List Int) (cases : List m5) (cs : List aQ) : Nat → List aQ
 | 0 => cs
 | i + 1 => match cases[i]? with
  | some c => iW g ej i c (dm g ej cases cs i)
  | none => dm g ej cases cs i
theorem Ic (g : Int) (ej : List Int) (i : Nat) (c : m5) (cs : List aQ) : (iW g ej i c cs).length = cs.length := by
 unfold iW; split
 ·simp
 ·split <;> simp
theorem jd (g : Int) (ej : List Int) (cases : List m5) (cs : List aQ) : ∀ i, (dm g ej cases cs i).length = cs.length
 | 0 => rfl
 | i + 1 => by
  unfold dm; split
  ·rw [Ic, jd _ _ _ _ i]
  ·exact jd _ _ _ _ i
theorem mem_set {α : Type} {l : List α} {i : Nat} {x y : α} (h : y ∈ l.set i x) : y ∈ l ∨ y = x := by
 rcases List.mem_or_eq_of_mem_set h with h | h
 ·exact .inl h
 ·exact .inr h
theorem wX {cs : List aQ} {k : Int} (h0 : 0 ≤ k) (h : k < cs.length) : aX cs k ∈ cs := by
 unfold aX; rw [List.getD_eq_getElem?_getD, List.getElem?_eq_getElem (by omega)]; exact List.getElem_mem _
theorem C5 {g : Int} {ej : List Int} {i : Nat} {c : m5} {cs : List aQ} {N : Nat} (hs : ∀ x ∈ cs, x.Small N) (hc : c.Ok cs.length) : ∀ x ∈ iW g ej i c cs, x.Small (N + 1) := by
 obtain ⟨_, _, kk⟩ := hc
 intro x hm
 unfold iW at hm
 split at hm
 ·rename_i hw
  have hx := hs _ (wX (kk (by omega)).1 (kk (by omega)).2.1)
  rcases mem_set hm with h | rfl
  ·exact (hs x h).mono (by omega)
  ·exact hx.wr _
 split at hm
 ·rename_i hw
  have hx := hs _ (wX (kk (by omega)).1 (kk (by omega)).2.1)
  rcases mem_set hm with h | rfl
  ·exact (hs x h).mono (by omega)
  ·exact hx.ws _
 ·exact (hs x hm).mono (by omega)
theorem lI {g : Int} {ej : List Int} {cases : List m5} {cs : List aQ} {N : Nat} (hs : ∀ x ∈ cs, x.Small N) (hok : ∀ c ∈ cases, c.Ok cs.length) : ∀ i, ∀ x ∈ dm g ej cases cs i, x.Small (N + i)
 | 0 => hs
 | i + 1 => by
  unfold dm; split
  ·rename_i c hc
   exact C5 (lI hs hok i) (by rw [jd]; exact hok c (List.mem_of_getElem? hc))
  ·exact fun x hx => (lI hs hok i x hx).mono (by omega)
section
variable {R : Mem} {L L' : List HP} {M : Mem} {K : Value → Mem → Prop} {Kp : List PanicEntry → Mem → Prop} {bs : List Nat} {cs : List aQ}
theorem jP : bE Tryz.prog 38 3 1 8 [.int .i64 0] := bE.mk' (zv := .int .i64 0) (by kernel_rfl) (by kernel_rfl) rfl (by omega)
theorem Ie {cases : List m5} {i : Nat} {c : m5} (hc : cases[i]? = some c) (hw : c.way = 2) (hp : ∀ j c, j < i → cases[j]? = some c → c.way ≠ 2) : els cases = some i := by
 obtain ⟨hi, e⟩ := List.getElem?_eq_some_iff.1 hc
 refine List.findIdx?_eq_some_iff_getElem.2 ⟨hi, by rw [e]; simpa using hw, fun j hj => ?_⟩
 have := hp j _ hj (List.getElem?_eq_getElem (by omega))
 simpa using this
theorem Ig {cases : List m5} (hp : ∀ j c, j < cases.length → cases[j]? = some c → c.way ≠ 2) : els cases = none := by
 refine List.findIdx?_eq_none_iff.2 fun c hc => ?_
 obtain ⟨j, hj, e⟩ := List.getElem_of_mem hc
 have := hp j c hj (by rw [← e]; exact List.getElem?_eq_getElem hj)
 simpa using this
theorem KY {B : Option Addr} {m cc : Nat} {cases : List m5} (h : Hp R L M) (hB : Src R L B (gP.cells cases)) (hm : m = cases.length) (hb : cases.length ≤ 1000000000)
  (k : ∀ M', Hp R L M' → K (.tuple #[.int .i64 (match els cases with | some i => (i : Int) | none => 0), .bool (els cases).isSome]) M') :
  ae Tryz.prog 156 #[.slice B m cc] M K Kp := by
 subst hm
 refine C2 ⟨fun d ws M => ∃ i : Nat, ws = [.int .i64 (i : Int)] ∧ d = cases.length - i ∧ i ≤ cases.length ∧ (∀ j c, j < i → cases[j]? = some c → c.way ≠ 2) ∧ Hp R L M, ⟨_, 0, rfl, rfl, by omega, fun j c hj => by omega, h⟩, ?_⟩
 clear h
 rintro d _ ii M ⟨i, he, hd, hi, hp, h⟩
 simp only [List.cons.injEq, Value.int.injEq, and_true, true_and] at he
 subst he
 refine aH.2 ⟨fun hlt => ?_, fun hge => ?_⟩
 ·obtain ⟨c, hc⟩ := aL (l := cases) (i := i) (by omega)
  obtain ⟨b, o, rfl⟩ := hB.iK h (by omega) (by decide)
  repeat (first|(refine ai h ?_;clear h;intro kb M h)|(refine ak h ?_;clear h;intro M h)|refine St.to h ?_|(apply Exists.intro;(repeat apply Exists.intro);refine And.intro rfl ?_)|refine ay ?_|refine aq ?_|refine au ?_)
  simp only [Int.toNat_natCast]
  refine aj (hB.at h (i := i) (j := 0) hc rfl rfl) ?_
  refine aj (hB.at h (i := i) (j := 1) hc rfl rfl) ?_
  refine aj (hB.at h (i := i) (j := 2) hc rfl rfl) ?_
  repeat (first|(refine ai h ?_;clear h;intro kb M h)|(refine ak h ?_;clear h;intro M h)|refine St.to h ?_|(apply Exists.intro;(repeat apply Exists.intro);refine And.intro rfl ?_)|refine ay ?_|refine aq ?_|refine au ?_)
  refine bh.2 ⟨fun e => ?_, fun e => ?_⟩
  ·have := Ie hc e hp
   rw [this] at k
   exact k _ h.jb
  ·rw [aS (by omega)]
   refine ⟨cases.length - (i + 1), by omega, i + 1, rfl, rfl, by omega, fun j c' hj wY => ?_, h.jb⟩
   rcases Nat.lt_or_ge j i with kq | kq
   ·exact hp j c' kq wY
   ·obtain rfl : j = i := by omega
    rw [hc] at wY; cases wY; exact e
 ·obtain rfl : i = cases.length := by omega
  rw [Ig hp] at k
  exact k _ h
theorem Pg {c : m5} {B : Option Addr} {m cc : Nat} (h : Hp R L M) [o : iE bL L bs cs L'] (hB : Src R L' B (nx.cells bs)) (hm : m = bs.length) (hl : bs.length = cs.length) (hc : c.way ≠ 2 → 0 ≤ c.ch ∧ c.ch < cs.length) (cv : 0 ≤ c.way ∧ c.way ≤ 2)
  (k : ∀ M', Hp R (cN bL bs cs :: L') M' → K (.bool (can cs c)) M') : ae Tryz.prog 204 #[.agg #[.int .i64 c.way, .int .i64 c.ch, .int .i64 c.bH], .slice B m cc] M K Kp := by
 subst hm
 replace h := h.pB bL
 obtain ⟨way, ch, bH⟩ := c
 dsimp only at *
 by_cases hwe : way = 2
 ·subst hwe
  refine wR ?_
  repeat (first|(refine ai h ?_;clear h;intro kb M h)|(refine ak h ?_;clear h;intro M h)|refine St.to h ?_|(apply Exists.intro;(repeat apply Exists.intro);refine And.intro rfl ?_)|refine ay ?_|refine aq ?_|refine au ?_)
  exact k _ h.jb
 replace hc := hc hwe
 obtain ⟨q, rfl⟩ := Int.eq_ofNat_of_zero_le hc.1
 obtain ⟨x, hx⟩ := aL (l := cs) (i := q) (by omega)
 obtain ⟨b, hb⟩ := aL (l := bs) (i := q) (by omega)
 have hxx : aX cs (q : Int) = x := by simp [aX, hx]
 obtain ⟨b0, o0, rfl⟩ := hB.cons.iK h (by omega) (by decide)
 simp only [can, hxx] at k
 refine wR ?_
 repeat (first|(refine ai h ?_;clear h;intro kb M h)|(refine ak h ?_;clear h;intro M h)|refine St.to h ?_|(apply Exists.intro;(repeat apply Exists.intro);refine And.intro rfl ?_)|refine ay ?_|refine aq ?_|refine au ?_)
 refine bh.2 ⟨fun e => ?_, fun e => ?_⟩
 ·rw [if_pos e] at k
  repeat (first|(refine ai h ?_;clear h;intro kb M h)|(refine ak h ?_;clear h;intro M h)|refine St.to h ?_|(apply Exists.intro;(repeat apply Exists.intro);refine And.intro rfl ?_)|refine ay ?_|refine aq ?_|refine au ?_)
  refine HQ (hB.cons.cons.at h (i := q) (j := 0) hb rfl (by simp [nx])) ?_
  replace h := h.eG bL hb hx
  refine C0 h ?_
  repeat (first|(refine ai h ?_;clear h;intro kb M h)|(refine ak h ?_;clear h;intro M h)|refine St.to h ?_|(apply Exists.intro;(repeat apply Exists.intro);refine And.intro rfl ?_)|refine ay ?_|refine aq ?_|refine au ?_)
  exact k _ (h.od bL b hb hx).cG
 rw [if_neg e] at k
 refine bh.2 ⟨fun e => ?_, fun e => ?_⟩
 ·rw [if_pos e] at k
  repeat (first|(refine ai h ?_;clear h;intro kb M h)|(refine ak h ?_;clear h;intro M h)|refine St.to h ?_|(apply Exists.intro;(repeat apply Exists.intro);refine And.intro rfl ?_)|refine ay ?_|refine aq ?_|refine au ?_)
  refine HQ (hB.cons.cons.at h (i := q) (j := 0) hb rfl (by simp [nx])) ?_
  replace h := h.eG bL hb hx
  refine CZ h ?_
  repeat (first|(refine ai h ?_;clear h;intro kb M h)|(refine ak h ?_;clear h;intro M h)|refine St.to h ?_|(apply Exists.intro;(repeat apply Exists.intro);refine And.intro rfl ?_)|refine ay ?_|refine aq ?_|refine au ?_)
  exact k _ (h.od bL b hb hx).cG
 ·rw [if_neg e] at k
  exact k _ h.jb
theorem C6 {B A : Option Addr} {m cc n ca : Nat} {cases : List m5} (h : Hp R L M) [o : iE bL L bs cs L'] (hB : Src R L' B (gP.cells cases)) (hA : Src R L' A (nx.cells bs)) (hm : m = cases.length) (hn : n = bs.length)
  (hb : cases.length ≤ 1000000000) (hl : bs.length = cs.length) (hok : ∀ c ∈ cases, c.Ok cs.length)
  (k : ∀ A' c' M', Hp R (cu bR 3 A' c' (enabled cases cs) :: cN bL bs cs :: L') M' → K (.slice A' (enabled cases cs).length c') M') :
  ae Tryz.prog 155 #[.slice B m cc, .slice A n ca] M K Kp := by
 subst hm
 replace h := h.pB bL
 refine yo ⟨fun d ws M => ∃ (i : Nat) (X : Option Addr) (cx : Nat), ws = [.slice X (z4 cases cs i).length cx, .int .i64 (i : Int)] ∧ d = cases.length - i ∧ i ≤ cases.length ∧ Hp R (cu bR 3 X cx (z4 cases cs i) :: cN bL bs cs :: L') M, ⟨_, 0, none, 0, rfl, rfl, by omega, h.dz bR _⟩, ?_⟩
 clear h
 rintro d _ X n1 cx ii M ⟨i, _, _, he, hd, hi, h⟩
 simp only [List.cons.injEq, Value.int.injEq, Value.slice.injEq, and_true, true_and] at he
 obtain ⟨⟨rfl, rfl, rfl⟩, rfl⟩ := he
 refine aH.2 ⟨fun hlt => ?_, fun hge => ?_⟩
 ·obtain ⟨c, hc⟩ := aL (l := cases) (i := i) (by omega)
  obtain ⟨b, o, rfl⟩ := hB.cons.cons.iK h (by omega) (by decide)
  repeat (first|(refine ai h ?_;clear h;intro kb M h)|(refine ak h ?_;clear h;intro M h)|refine St.to h ?_|(apply Exists.intro;(repeat apply Exists.intro);refine And.intro rfl ?_)|refine ay ?_|refine aq ?_|refine au ?_)
  simp only [Int.toNat_natCast]
  refine aj (hB.cons.cons.at h (i := i) (j := 0) hc rfl rfl) ?_
  refine aj (hB.cons.cons.at h (i := i) (j := 1) hc rfl rfl) ?_
  refine aj (hB.cons.cons.at h (i := i) (j := 2) hc rfl rfl) ?_
  repeat (first|(refine ai h ?_;clear h;intro kb M h)|(refine ak h ?_;clear h;intro M h)|refine St.to h ?_|(apply Exists.intro;(repeat apply Exists.intro);refine And.intro rfl ?_)|refine ay ?_|refine aq ?_|refine au ?_)
  have hco := hok c (List.mem_of_getElem? hc)
  obtain ⟨w1, w2, k1⟩ := hco
  refine Pg (c := c) h hA.cons.cons hn hl (fun e => ⟨(k1 e).1, (k1 e).2.1⟩) ⟨w1, w2⟩ ?_
  clear h
  intro M h
  repeat (first|(refine ai h ?_;clear h;intro kb M h)|(refine ak h ?_;clear h;intro M h)|refine St.to h ?_|(apply Exists.intro;(repeat apply Exists.intro);refine And.intro rfl ?_)|refine ay ?_|refine aq ?_|refine au ?_)
  have hlen := BD cases cs i
  refine fH.2 ⟨fun hb => ?_, fun hb => ?_⟩
  ·have e := yy (cs := cs) hc
   rw [if_pos hb] at e
   repeat (first|(refine ai h ?_;clear h;intro kb M h)|(refine ak h ?_;clear h;intro M h)|refine St.to h ?_|(apply Exists.intro;(repeat apply Exists.intro);refine And.intro rfl ?_)|refine ay ?_|refine aq ?_|refine au ?_)
   refine h.aZ jP [(i : Int)] rfl rfl (by simp; omega) ?_
   clear h
   intro A' c' M h
   repeat (first|(refine ai h ?_;clear h;intro kb M h)|(refine ak h ?_;clear h;intro M h)|refine St.to h ?_|(apply Exists.intro;(repeat apply Exists.intro);refine And.intro rfl ?_)|refine ay ?_|refine aq ?_|refine au ?_)
   rw [aS (by omega)]
   rw [← e] at h
   refine ⟨cases.length - (i + 1), by omega, i + 1, A', c', ?_, rfl, by omega, h.cG⟩
   rw [e]
  ·have e := yy (cs := cs) hc
   rw [if_neg (by simp [hb]), List.append_nil] at e
   rw [aS (by omega)]
   refine ⟨cases.length - (i + 1), by omega, i + 1, X, cx, by rw [e], rfl, by omega, ?_⟩
   rw [e]; exact h.sub bx
 ·obtain rfl : i = cases.length := by omega
  exact k _ _ _ h
theorem Ih {g : Int} {A : Option Addr} {n ca : Nat} (h : Hp R L M) [o : iE bL L bs cs L'] (hA : Src R L' A (nx.cells bs)) (hn : n = bs.length) (hb : bs.length ≤ 1000000000) (hl : bs.length = cs.length) (hs : ∀ c ∈ cs, c.Small 1000000000)
  (k : ∀ M', Hp R (cN bL bs (cs.map (·.drop g)) :: L') M' → K (.tuple #[]) M') :
  ae Tryz.prog 225 #[.int .i64 g, .slice A n ca] M K Kp := by
 subst hn
 replace h := h.pB bL
 refine Bz ⟨fun d ws M => ∃ (i : Nat), ws = [.int .i64 (i : Int)] ∧ d = bs.length - i ∧ i ≤ bs.length ∧ Hp R (cN bL bs ((cs.take i).map (·.drop g) ++ cs.drop i) :: L') M, ⟨_, 0, rfl, rfl, by omega, h⟩, ?_⟩
 clear h
 rintro d _ ii M ⟨i, he, hd, hi, h⟩
 simp only [List.cons.injEq, Value.int.injEq, and_true, true_and] at he
 subst he
 refine aH.2 ⟨fun hlt => ?_, fun hge => ?_⟩
 ·obtain ⟨c, hc⟩ := aL (l := cs) (i := i) (by omega)
  obtain ⟨b, kW⟩ := aL (l := bs) (i := i) (by omega)
  obtain ⟨b0, o0, rfl⟩ := hA.cons.iK h (by omega) (by decide)
  have hc2 : ((cs.take i).map (·.drop g) ++ cs.drop i)[i]? = some c := by
   rw [List.getElem?_append_right (by simp; omega)]; simp [List.length_take, Nat.min_eq_left (show i ≤ cs.length by omega), hc]
  repeat (first|(refine ai h ?_;clear h;intro kb M h)|(refine ak h ?_;clear h;intro M h)|refine St.to h ?_|(apply Exists.intro;(repeat apply Exists.intro);refine And.intro rfl ?_)|refine ay ?_|refine aq ?_|refine au ?_)
  refine HQ (hA.cons.at h (i := i) (j := 0) kW rfl (by simp [nx])) ?_
  replace h := h.eG bL kW hc2
  refine KM h (hs c (List.mem_of_getElem? hc)) ?_
  clear h
  intro M h
  repeat (first|(refine ai h ?_;clear h;intro kb M h)|(refine ak h ?_;clear h;intro M h)|refine St.to h ?_|(apply Exists.intro;(repeat apply Exists.intro);refine And.intro rfl ?_)|refine ay ?_|refine aq ?_|refine au ?_)
  rw [aS (by omega)]
  refine ⟨bs.length - (i + 1), by omega, i + 1, rfl, rfl, by omega, ?_⟩
  have := (h.gM bL b kW (by simp; omega)).cG (T := L')
  rw [List.set_append_right _ _ (by simp; omega)] at this
  rw [dw hc, List.map_append, List.append_assoc]
  have e : (cs.drop i).set (i - ((cs.take i).map (·.drop g)).length) (c.drop g) = [c.drop g] ++ cs.drop (i + 1) := by
   rw [show i - ((cs.take i).map (·.drop g)).length = 0 from by simp; omega]
   obtain ⟨hi', e'⟩ := List.getElem?_eq_some_iff.1 hc
   rw [List.drop_eq_getElem_cons hi']; rfl
  rw [e] at this
  exact this
 ·obtain rfl : i = bs.length := by omega
  rw [hl, List.take_length, List.drop_length, List.append_nil] at h
  exact k _ h
theorem KZ {g : Int} {B A D : Option Addr} {m cc n ca r cr : Nat} {cases : List m5} {ej : List Int} (h : Hp R L M) [o : iE bL L bs cs L'] (hB : Src R L' B (gP.cells cases)) (hA : Src R L' A (nx.cells bs)) (hD : Src R L' D (bR.cells ej))
  (hm : m = cases.length) (hn : n = bs.length) (hr : r = 8) (hr8 : ej.length = 8) (hb : cases.length ≤ 1000000) (hl : bs.length = cs.length) (hok : ∀ c ∈ cases, c.Ok cs.length) (hs : ∀ c ∈ cs, c.Small 1000000)
  (k : ∀ M', Hp R (cN bL bs (dm g ej cases cs cases.length) :: L') M' → K (.tuple #[]) M') :
  ae Tryz.prog 157 #[.int .i64 g, .slice B m cc, .slice D r cr, .slice A n ca] M K Kp := by
 subst hm
 subst hn
 subst hr
 replace h := h.pB bL
 refine C3 ⟨fun d ws M => ∃ (i : Nat), ws = [.int .i64 (i : Int)] ∧ d = cases.length - i ∧ i ≤ cases.length ∧ Hp R (cN bL bs (dm g ej cases cs i) :: L') M, ⟨_, 0, rfl, rfl, by omega, h⟩, ?_⟩
 clear h
 rintro d _ ii M ⟨i, he, hd, hi, h⟩
 simp only [List.cons.injEq, Value.int.injEq, and_true, true_and] at he
 subst he
 refine aH.2 ⟨fun hlt => ?_, fun hge => ?_⟩
 ·obtain ⟨c, hc⟩ := aL (l := cases) (i := i) (by omega)
  obtain ⟨w1, w2, kk⟩ := hok c (List.mem_of_getElem? hc)
  obtain ⟨b, o, rfl⟩ := hB.cons.iK h (by omega) (by decide)
  by_cases hwe : c.way = 2
  ·have e : dm g ej cases cs (i + 1) = dm g ej cases cs i := by
    rw [dm, hc]; dsimp only; unfold iW; rw [if_neg (by omega), if_neg (by omega)]
   repeat (first|(refine ai h ?_;clear h;intro kb M h)|(refine ak h ?_;clear h;intro M h)|refine St.to h ?_|(apply Exists.intro;(repeat apply Exists.intro);refine And.intro rfl ?_)|refine ay ?_|refine aq ?_|refine au ?_)
   simp only [Int.toNat_natCast]
   refine aj (hB.cons.at h (i := i) (j := 0) hc rfl rfl) ?_
   refine aj (hB.cons.at h (i := i) (j := 1) hc rfl rfl) ?_
   refine aj (hB.cons.at h (i := i) (j := 2) hc rfl rfl) ?_
   repeat (first|(refine ai h ?_;clear h;intro kb M h)|(refine ak h ?_;clear h;intro M h)|refine St.to h ?_|(apply Exists.intro;(repeat apply Exists.intro);refine And.intro rfl ?_)|refine ay ?_|refine aq ?_|refine au ?_)
   refine bh.2 ⟨fun e => by omega, fun _ => ?_⟩
   refine bh.2 ⟨fun e => by omega, fun _ => ?_⟩
   rw [aS (by omega)]
   refine ⟨cases.length - (i + 1), by omega, i + 1, rfl, rfl, by omega, ?_⟩
   rw [e]
   exact h.jb
  obtain ⟨k1, k2, k3, k4⟩ := kk hwe
  obtain ⟨b2, o2, rfl⟩ := hA.cons.iK h (by omega) (by decide)
  obtain ⟨b3, o3, rfl⟩ := hD.cons.iK h (by omega) (by decide)
  have hlen := jd g ej cases cs i
  have ry := lI (g := g) (ej := ej) hs hok i
  have e : dm g ej cases cs (i + 1) = iW g ej i c (dm g ej cases cs i) := by rw [dm, hc]
  generalize hw : dm g ej cases cs i = ws at h hlen ry e
  obtain ⟨way, ch, bH⟩ := c
  dsimp only at k1 k2 k3 k4
  obtain ⟨q, rfl⟩ := Int.eq_ofNat_of_zero_le k1
  obtain ⟨q2, rfl⟩ := Int.eq_ofNat_of_zero_le k3
  obtain ⟨b1, kW⟩ := aL (l := bs) (i := q) (by omega)
  obtain ⟨x, hx⟩ := aL (l := ws) (i := q) (by omega)
  obtain ⟨v, hv⟩ := aL (l := ej) (i := q2) (by omega)
  have hxx : aX ws (q : Int) = x := by simp [aX, hx]
  have hvv : ej.getD q2 0 = v := by simp [hv]
  have hxs := ry x (List.mem_of_getElem? hx)
  simp only [iW, hxx, Int.toNat_natCast, hvv] at e
  repeat (first|(refine ai h ?_;clear h;intro kb M h)|(refine ak h ?_;clear h;intro M h)|refine St.to h ?_|(apply Exists.intro;(repeat apply Exists.intro);refine And.intro rfl ?_)|refine ay ?_|refine aq ?_|refine au ?_)
  simp only [Int.toNat_natCast]
  refine aj (hB.cons.at h (i := i) (j := 0) hc rfl rfl) ?_
  refine aj (hB.cons.at h (i := i) (j := 1) hc rfl rfl) ?_
  refine aj (hB.cons.at h (i := i) (j := 2) hc rfl rfl) ?_
  dsimp only
  repeat (first|(refine ai h ?_;clear h;intro kb M h)|(refine ak h ?_;clear h;intro M h)|refine St.to h ?_|(apply Exists.intro;(repeat apply Exists.intro);refine And.intro rfl ?_)|refine ay ?_|refine aq ?_|refine au ?_)
  refine bh.2 ⟨fun hw => ?_, fun hw => ?_⟩
  ·rw [if_pos hw] at e
   repeat (first|(refine ai h ?_;clear h;intro kb M h)|(refine ak h ?_;clear h;intro M h)|refine St.to h ?_|(apply Exists.intro;(repeat apply Exists.intro);refine And.intro rfl ?_)|refine ay ?_|refine aq ?_|refine au ?_)
   refine HQ (hA.cons.cons.at h (i := q) (j := 0) kW rfl (by simp [nx])) ?_
   have Rn := kW
   replace h := h.pick (.there .here)
   replace h := h.eG bL kW hx
   refine ri (w := ⟨g, i, 0⟩) h (hxs.mono (by omega)) ?_
   clear h
   intro M h
   repeat (first|(refine ai h ?_;clear h;intro kb M h)|(refine ak h ?_;clear h;intro M h)|refine St.to h ?_|(apply Exists.intro;(repeat apply Exists.intro);refine And.intro rfl ?_)|refine ay ?_|refine aq ?_|refine au ?_)
   rw [aS (by omega)]
   refine ⟨cases.length - (i + 1), by omega, i + 1, rfl, rfl, by omega, ?_⟩
   rw [e]
   exact (h.gM bL b1 kW (by omega)).cG
  rw [if_neg hw] at e
  refine bh.2 ⟨fun hw => ?_, fun hw => ?_⟩
  ·rw [if_pos hw] at e
   repeat (first|(refine ai h ?_;clear h;intro kb M h)|(refine ak h ?_;clear h;intro M h)|refine St.to h ?_|(apply Exists.intro;(repeat apply Exists.intro);refine And.intro rfl ?_)|refine ay ?_|refine aq ?_|refine au ?_)
   refine HQ (hA.cons.cons.at h (i := q) (j := 0) kW rfl (by simp [nx])) ?_
   repeat (first|(refine ai h ?_;clear h;intro kb M h)|(refine ak h ?_;clear h;intro M h)|refine St.to h ?_|(apply Exists.intro;(repeat apply Exists.intro);refine And.intro rfl ?_)|refine ay ?_|refine aq ?_|refine au ?_)
   refine aj (hD.cons.cons.at h (i := q2) (j := 0) hv rfl (by simp [bR])) ?_
   replace h := h.pick (.there .here)
   replace h := h.eG bL kW hx
   refine rh (w := ⟨g, i, v⟩) h (hxs.mono (by omega)) ?_
   clear h
   intro M h
   repeat (first|(refine ai h ?_;clear h;intro kb M h)|(refine ak h ?_;clear h;intro M h)|refine St.to h ?_|(apply Exists.intro;(repeat apply Exists.intro);refine And.intro rfl ?_)|refine ay ?_|refine aq ?_|refine au ?_)
   rw [aS (by omega)]
   refine ⟨cases.length - (i + 1), by omega, i + 1, rfl, rfl, by omega, ?_⟩
   rw [e]
   exact (h.gM bL b1 kW (by omega)).cG
  ·rw [if_neg hw] at e
   rw [aS (by omega)]
   refine ⟨cases.length - (i + 1), by omega, i + 1, rfl, rfl, by omega, ?_⟩
   rw [e]
   exact h.jb
 ·obtain rfl : i = cases.length := by omega
  exact k _ h
end
end Go.Proofs
namespace Go.Proofs
open Go.AF
structure bY where
 op : Int
 a : Int
 b : Int
 c : Int
 deriving DecidableEq
def bY.zero : bY := ⟨0, 0, 0, 0⟩
def jf : jM bY := ⟨4, fun x => [.int .i64 x.op, .int .i64 x.a, .int .i64 x.b, .int .i64 x.c], fun _ => rfl, fun w v hv => by
 simp only [List.mem_cons, List.not_mem_nil, or_false] at hv; obtain rfl | rfl | rfl | rfl := hv <;> rfl⟩
structure eJ where
 fn : Int
 pc : Int
 r : List Int
 mu : Int
 deriving DecidableEq
def eJ.bH (f : eJ) (q : Int) : Int := f.r.getD q.toNat 0
def eJ.set (f : eJ) (q v : Int) : eJ := { f with r := (List.range 8).map fun i => if i = q.toNat then v else f.r.getD i 0 }
def eJ.next (f : eJ) : eJ := { f with pc := f.pc + 1 }
def eJ.begin (fn v : Int) : eJ := ⟨fn, 0, [v, 0, 0, 0, 0, 0, 0, 0], 0⟩
def gQ (f : eJ) : List Value := [.int .i64 f.fn, .int .i64 f.pc, .int .i64 (f.r.getD 0 0), .int .i64 (f.r.getD 1 0), .int .i64 (f.r.getD 2 0), .int .i64 (f.r.getD 3 0), .int .i64 (f.r.getD 4 0), .int .i64 (f.r.getD 5 0), .int .i64 (f.r.getD 6 0), .int .i64 (f.r.getD 7 0), .int .i64 f.mu]
def fV : jM eJ := ⟨11, gQ, fun _ => rfl, fun w v hv => by
 simp only [gQ, List.mem_cons, List.not_mem_nil, or_false] at hv
 obtain rfl | rfl | rfl | rfl | rfl | rfl | rfl | rfl | rfl | rfl | rfl := hv <;> rfl⟩
theorem reg8 {q : Int} (h0 : 0 ≤ q) (h8 : q < 8) : q = 0 ∨ q = 1 ∨ q = 2 ∨ q = 3 ∨ q = 4 ∨ q = 5 ∨ q = 6 ∨ q = 7 := by omega
theorem dL {f : eJ} {q : Int} (h0 : 0 ≤ q) (h8 : q < 8) : (fV.f f)[2 + q.toNat]? = some (.int .i64 (f.bH q)) := by
 obtain rfl | rfl | rfl | rfl | rfl | rfl | rfl | rfl := reg8 h0 h8 <;> rfl
theorem kH {f : eJ} {q v : Int} (h0 : 0 ≤ q) (h8 : q < 8) : (fV.f f).set (2 + q.toNat) (.int .i64 v) = fV.f (f.set q v) := by
 obtain rfl | rfl | rfl | rfl | rfl | rfl | rfl | rfl := reg8 h0 h8 <;> rfl
theorem Su {f : eJ} {v : Int} : (fV.f f).set 1 (.int .i64 v) = fV.f { f with pc := v } := rfl
def eJ.pure (f : eJ) (x : bY) : eJ :=
 if x.op = 0 then f
 else if x.op = 1 then f.set x.a x.b
 else if x.op = 2 then f.set x.a (f.bH x.b)
 else if x.op = 3 then f.set x.a (IntKind.wrap .i64 (f.bH x.b + f.bH x.c))
 else if x.op = 4 then f.set x.a (IntKind.wrap .i64 (f.bH x.b - f.bH x.c))
 else if x.op = 5 then f.set x.a (IntKind.wrap .i64 (f.bH x.b * f.bH x.c))
 else if x.op = 6 then f.set x.a (if f.bH x.b < f.bH x.c then 1 else 0)
 else if x.op = 7 then { f with pc := x.a }
 else if f.bH x.a ≠ 0 then { f with pc := x.b } else f
def aR (q : Int) : Prop := 0 ≤ q ∧ q < 8
instance (q : Int) : Decidable (aR q) := by unfold aR; infer_instance
def bY.cM (x : bY) : Prop :=
 (x.op ∈ [1, 8] → aR x.a) ∧ (x.op = 2 → aR x.a ∧ aR x.b) ∧ (x.op ∈ [3, 4, 5, 6] → aR x.a ∧ aR x.b ∧ aR x.c)
instance (x : bY) : Decidable x.cM := by unfold bY.cM; infer_instance
structure gG where
 st : Int
 fs : List eJ
 wt : bY
 deriving DecidableEq
structure Lk where
 owner : Int
 waits : List Int
 deriving DecidableEq
structure aN where
 t : Int
 seq : Int
 id : Int
 deriving DecidableEq
def g6 : jM aN := ⟨3, fun x => [.int .u64 x.t, .int .u64 x.seq, .int .i64 x.id], fun _ => rfl, fun w v hv => by
 simp only [List.mem_cons, List.not_mem_nil, or_false] at hv; obtain rfl | rfl | rfl := hv <;> rfl⟩
structure cy where
 funcs : List (List bY)
 dB : List Int
 aC : Int
 cases : List m5
structure Wd where
 gs : List gG
 clock : Int
 av : List aQ
 aC : List Lk
 hl : List aN
 di : Int
 out : List Int
 end_ : Int
 code : Int
 ready : List Int
 deriving DecidableEq
def aa (x : Wd) (g : Int) : gG := x.gs.getD g.toNat ⟨0, [], .zero⟩
def Wd.bp (x : Wd) (g : Int) (y : gG) : Wd := { x with gs := x.gs.set g.toNat y }
def gG.top (y : gG) : eJ := y.fs.getD (y.fs.length - 1) ⟨0, 0, [], 0⟩
def gG.bW (y : gG) (f : eJ) : gG := { y with fs := y.fs.set (y.fs.length - 1) f }
def Wd.aV (x : Wd) (g q v : Int) : Wd := x.bp g ((aa x g).bW ((aa x g).top.set q v))
def Wd.eU (x : Wd) (g : Int) : Wd := { x.bp g { aa x g with st := 1 } with ready := x.ready ++ [g] }
def Wd.block (x : Wd) (g : Int) (i : bY) : Wd := x.bp g { aa x g with st := 2, wt := i }
def Wd.leave (x : Wd) (g : Int) : Wd := { x with av := x.av.map fun c => c.drop g }
def Wd.cU (x : Wd) (g k : Int) : Wd := (x.aV g (aa x g).wt.c k).leave g
def mw (p : cy) (k : Int) : m5 := p.cases.getD k.toNat ⟨0, 0, 0⟩
def Wd.received (p : cy) (x : Wd) (v : Wt) (some : Int) : Wd :=
 let i := (aa x v.g).wt
 (if i.op = 16 then ((x.aV v.g (mw p (i.a + v.cs)).bH v.v).cU v.g v.cs)
  else (x.aV v.g i.b v.v).aV v.g i.c some).eU v.g
def Wd.sent (x : Wd) (v : Wt) : Wd := (if (aa x v.g).wt.op = 16 then x.cU v.g v.cs else x).eU v.g
inductive Out (α : Type) where
 | on (a : α)
 | dg (code : Int) (x : Wd)
 | fR (l : List PanicEntry) (x : Wd)
def Wd.bg (x : Wd) (k : Int) (c : aQ) : Wd := { x with av := x.av.set k.toNat c }
def Wd.put (p : cy) (x : Wd) (k v : Int) : Out (Wd × Bool) :=
 let s := (aX x.av k).send v
 if s.2.2.2 = 10 then .dg (-1) (x.bg k s.1)
 else .on ((if s.2.2.1 then (x.bg k s.1).received p s.2.1 1 else x.bg k s.1), s.2.2.2 == 0)
def Wd.get (x : Wd) (k : Int) : Wd × Int × Int × Bool :=
 let s := (aX x.av k).recv
 let y := if s.2.2.2.2.1 then (x.bg k s.1).sent s.2.2.2.1 else x.bg k s.1
 if s.2.2.1 then (y, s.2.1, 1, true) else (y, 0, 0, s.2.2.2.2.2 == 0)
def aW (x : Wd) (g : Int) : Prop := 0 ≤ g ∧ g < x.gs.length ∧ 0 < (aa x g).fs.length ∧ (aa x g).fs.length ≤ 1000
instance (x : Wd) (g : Int) : Decidable (aW x g) := by unfold aW; infer_instance
def lA (p : cy) (x : Wd) (v : Wt) : Prop := aW x v.g ∧
 if (aa x v.g).wt.op = 16 then 0 ≤ (aa x v.g).wt.a + v.cs ∧ (aa x v.g).wt.a + v.cs < p.cases.length ∧ p.cases.length ≤ 1000 ∧ aR (mw p ((aa x v.g).wt.a + v.cs)).bH ∧ aR (aa x v.g).wt.c
 else aR (aa x v.g).wt.b ∧ aR (aa x v.g).wt.c
instance (p : cy) (x : Wd) (v : Wt) : Decidable (lA p x v) := by unfold lA; infer_instance
def u5 (x : Wd) (v : Wt) : Prop := aW x v.g ∧ ((aa x v.g).wt.op = 16 → aR (aa x v.g).wt.c)
instance (x : Wd) (v : Wt) : Decidable (u5 x v) := by unfold u5; infer_instance
def Wd.Sm (x : Wd) : Prop := (∀ c ∈ x.av, c.Small 1000000) ∧ x.av.length ≤ 1000 ∧ x.gs.length ≤ 1000 ∧ x.ready.length ≤ 1000000 ∧ x.out.length ≤ 1000000 ∧ (∀ l ∈ x.aC, l.waits.length ≤ 1000000) ∧ x.aC.length ≤ 1000 ∧ x.hl.length ≤ 1000000
instance (x : Wd) : Decidable x.Sm := by unfold Wd.Sm; infer_instance
theorem iu {x : Wd} {g : Int} {y : gG} (h0 : 0 ≤ g) (hg : g < x.gs.length) : aa (x.bp g y) g = y := by
 have : g.toNat < x.gs.length := by omega
 simp [aa, Wd.bp, this]
end Go.Proofs
namespace Go.Proofs
open Go.AF
set_option maxRecDepth 100000
variable {M : Mem} {K : Value → Mem → Prop} {Kp : List PanicEntry → Mem → Prop}
theorem rz {b0 o0 : Nat} {x1 : Int} (h :
aM (decide ((x1 : Int) < 0))
 (K (.slice none 0 0) M)
 (rS M b0 (o0 + 4) fun A1 k2 k3 =>
 aM (decide ((x1 : Int) ≥ k2))
 (K (.slice none 0 0) M)
 (rS M b0 (o0 + 4) fun A4 k5 k6 =>
 ((0 : Int) ≤ x1) ∧
 ((x1 : Int) < k5) ∧
 aE A4 fun k7 k8 =>
 rP M k7 (k8 + (Int.toNat x1)) fun A9 =>
 aE A9 fun eD eu =>
 rS M eD (eu + 1) fun mX eA fz =>
 ae Tryz.prog 115 #[(.slice mX eA fz)] M (fun Bu gh =>
 aF (some Bu) fun Ay fm jC =>
 K (.slice Ay fm jC) gh) Kp))) :
 ae Tryz.prog 84 #[.pointer (some ⟨b0, o0, none⟩), .int .i64 x1] M K Kp := vw [] Tryz.func84 h
theorem vA {B0 : Option Addr} {m0 c0 : Nat} (h :
aM ((m0 : Int) == 0)
 (K (.pointer none) M)
 (((0 : Int) ≤ (IntKind.wrap .i64 ((m0 : Int) - 1))) ∧
 (((IntKind.wrap .i64 ((m0 : Int) - 1)) : Int) < (m0 : Int)) ∧
 aE B0 fun k1 k2 =>
 K (.pointer (some ⟨k1, (k2 + ((Int.toNat (IntKind.wrap .i64 ((m0 : Int) - 1))) * 11)), none⟩)) M)) :
 ae Tryz.prog 120 #[.slice B0 m0 c0] M K Kp := vw [] Tryz.func120 h
theorem uf {b0 o0 : Nat} {x1 : Int} (h :
aO M Bm fun k1 M2 =>
aM (decide ((x1 : Int) < 0))
 (sT M2 k1 0 (.slice none 0 0) fun M3 =>
 sT M3 k1 1 (.slice none 0 0) fun M4 =>
 sT M4 k1 2 (.slice none 0 0) fun M5 =>
 sT M5 k1 3 (.bool false) fun M6 =>
 NM M6 k1 0 fun A7 k8 k9 KH eu gF zu fz ju t16 =>
 K (.agg #[(.slice A7 k8 k9), (.slice KH eu gF), (.slice zu fz ju), (.bool t16)]) M6)
 (rS M2 b0 (o0 + 6) fun Ay fm jC =>
 aM (decide ((x1 : Int) ≥ fm))
 (sT M2 k1 0 (.slice none 0 0) fun vr =>
 sT vr k1 1 (.slice none 0 0) fun jD =>
 sT jD k1 2 (.slice none 0 0) fun c9 =>
 sT c9 k1 3 (.bool false) fun mm =>
 NM mm k1 0 fun CK jE gH BE gS gi yp iH ie t33 =>
 K (.agg #[(.slice CK jE gH), (.slice BE gS gi), (.slice yp iH ie), (.bool t33)]) mm)
 (rS M2 b0 (o0 + 6) fun D6 ku nP =>
 ((0 : Int) ≤ x1) ∧
 ((x1 : Int) < ku) ∧
 aE D6 fun pC fB =>
 rP M2 pC (fB + (Int.toNat x1)) fun VM =>
 ae Tryz.prog 117 #[(.pointer VM)] M2 (fun Sv BF =>
 ∃ Ff : Option Addr, ∃ jF ym : Nat, ∃ K0 : Option Addr, ∃ mV j9 : Nat, ∃ NW : Option Addr, ∃ nC vt : Nat, ∃ t51 : Bool, (Sv = (.agg #[(.slice Ff jF ym), (.slice K0 mV j9), (.slice NW nC vt), (.bool t51)])) ∧
 mh BF k1 (.slice Ff jF ym) (.slice K0 mV j9) (.slice NW nC vt) (.bool t51) fun J0 =>
 NM J0 k1 0 fun A56 wU D2 A59 KO tB A62 JZ k64 t65 =>
 K (.agg #[(.slice A56 wU D2), (.slice A59 KO tB), (.slice A62 JZ k64), (.bool t65)]) J0) Kp))) :
 ae Tryz.prog 86 #[.pointer (some ⟨b0, o0, none⟩), .int .i64 x1] M K Kp := vw [] Tryz.func86 h
theorem qu {b0 o0 : Nat} {x1 : Int} (h :
aM (decide ((x1 : Int) < 0))
 (K (.int .i64 0) M)
 (aF (Mem.ld M ⟨b0, (o0 + 4), none⟩) fun A1 k2 k3 =>
 aM (decide ((x1 : Int) ≥ ((k2 : Nat) : Int)))
  (K (.int .i64 0) M)
  (aF (Mem.ld M ⟨b0, (o0 + 4), none⟩) fun A4 k5 k6 =>
  ((0 : Int) ≤ x1) ∧
  ((x1 : Int) < ((k5 : Nat) : Int)) ∧
  aE A4 fun k7 k8 =>
  dP (Mem.ld M ⟨k7, (k8 + (Int.toNat x1)), none⟩) fun A9 =>
  aE A9 fun eD eu =>
  bF (Mem.ld M ⟨eD, eu, none⟩) .i64 fun gZ =>
  K (.int .i64 gZ) M))) :
 ae Tryz.prog 65 ([.pointer (some ⟨b0, o0, none⟩), .int .i64 x1] : List Value).toArray M K Kp :=
 eZ (C := Cx) good [] Tryz.func65 (by kernel_rfl) (by kernel_rfl) h
theorem vB {b0 o0 : Nat} (h :
rS M b0 (o0 + 4) fun A1 k2 k3 =>
K (iV (k2 : Int)) M) :
 ae Tryz.prog 64 #[.pointer (some ⟨b0, o0, none⟩)] M K Kp := vw [] Tryz.func64 h
theorem vC {b0 o0 : Nat} (h :
rI M b0 (o0 + 11) fun n1 =>
rI M b0 (o0 + 12) fun n2 =>
K (.tuple #[(iV n1), (iV n2)]) M) :
 ae Tryz.prog 60 #[.pointer (some ⟨b0, o0, none⟩)] M K Kp := vw [(1, .bH [0, 1, 3, 7, 0, 16, 48, 112, 15, 511] (sy [0, 1, 2, 4, 5, 6, 3, 8, 7, 9] .done))] Tryz.func60 h
theorem ug {b0 o0 : Nat} (h :
bF (Mem.ld M ⟨b0, (o0 + 11), none⟩) .i64 fun n1 =>
aM (n1 != 0)
 (K (.slice none 0 0) M)
 (bF (Mem.ld M ⟨b0, (o0 + 5), none⟩) .u64 fun n2 =>
 b7 M ⟨b0, (o0 + 5), none⟩ (.int .u64 (IntKind.wrap .u64 (n2 + 1))) fun M3 =>
 b7 M3 ⟨b0, (o0 + 13), none⟩ (.slice none 0 0) fun M4 =>
 bF (Mem.ld M4 ⟨b0, (o0 + 5), none⟩) .u64 fun n5 =>
 ae Tryz.prog 89 #[(.pointer (some ⟨b0, (o0 + 8), none⟩)), (.int .u64 n5)] M4 (fun v6 M7 =>
 aF (some v6) fun A8 k9 eD =>
 ∃ I11 : Nat → List Value → Mem → Prop, (∃ gF : Nat, I11 gF [(.int .i64 0)] M7) ∧
 ∀ eA : Nat, ∀ junk14 : Nat → Value, ∀ kX : Int, ∀ gh : Mem, (I11 eA [(.int .i64 kX)] gh) → aM (decide ((kX : Int) < ((k9 : Nat) : Int)))
  (((0 : Int) ≤ kX) ∧
  ((kX : Int) < ((k9 : Nat) : Int)) ∧
  aE A8 fun fO fm =>
  bF (Mem.ld gh ⟨fO, (fm + ((Int.toNat kX) * 3)), none⟩) .u64 fun nN =>
  bF (Mem.ld gh ⟨fO, ((fm + ((Int.toNat kX) * 3)) + 1), none⟩) .u64 fun gC =>
  bF (Mem.ld gh ⟨fO, ((fm + ((Int.toNat kX) * 3)) + 2), none⟩) .i64 fun u0 =>
  aO gh (.cells #[(.int .u64 0), (.int .u64 0), (.int .i64 0)] 205 (0, 0)) fun gf mm =>
  b7 mm ⟨gf, 0, none⟩ (.int .u64 nN) fun ny =>
  b7 ny ⟨gf, (0 + 1), none⟩ (.int .u64 gC) fun qk =>
  b7 qk ⟨gf, (0 + 2), none⟩ (.int .i64 u0) fun xO =>
  bF (Mem.ld xO ⟨gf, (0 + 2), none⟩) .i64 fun KN =>
  ae Tryz.prog 90 #[(.pointer (some ⟨b0, o0, none⟩)), (.int .i64 KN)] xO (fun O8 pz =>
  (O8 = (.tuple #[])) ∧
  ∃ jc : Nat, (jc < eA) ∧
  I11 jc [(.int .i64 (IntKind.wrap .i64 (kX + 1)))] pz) Kp)
  (aF (Mem.ld gh ⟨b0, (o0 + 13), none⟩) fun HT ie lg =>
  K (.slice HT ie lg) gh)) Kp)) :
 ae Tryz.prog 43 ([.pointer (some ⟨b0, o0, none⟩)] : List Value).toArray M K Kp :=
 eZ (C := Cx) good [(5, .bH [0, 1, 3, 0, 8, 24, 56, 127, 255, 0] (.step 0 (.step 1 (.step 2 (.step 3 (.step 4 (.step 5 (.step 9 (.step 6 (.step 7 (.step 8 .done))))))))))), (2000000, .loop [(29, .c (.int .i64))])] Tryz.func43 (by kernel_rfl) (by kernel_rfl) h
theorem vD {b0 o0 : Nat} (h :
aO M (cl [] 2) fun k1 M2 =>
rS M2 b0 (o0 + 10) fun A3 k4 k5 =>
aA 59 (some ⟨k1, 0, none⟩) 0 0 A3 k4 k5 M2 (fun v6 M7 =>
aF (some v6) fun A8 k9 eD =>
K (.slice A8 k9 eD) M7) Kp) :
 ae Tryz.prog 22 #[.pointer (some ⟨b0, o0, none⟩)] M K Kp := vw [] Tryz.func22 h
theorem oq {b0 o0 : Nat} (h :
ae Tryz.prog 61 #[(.pointer (some ⟨b0, (o0 + 8), none⟩))] M (fun v1 M2 =>
aF (some v1) fun A3 k4 k5 =>
K (.slice A3 k4 k5) M2) Kp) :
 ae Tryz.prog 24 #[.pointer (some ⟨b0, o0, none⟩)] M K Kp := vw [] Tryz.func24 h
theorem BG {x0 : Int} {x1 : Int} (h :
aO M (cl [(iV x0), (iV 0), (iV x1), (iV 0), (iV 0), (iV 0), (iV 0), (iV 0), (iV 0), (iV 0), (iV 0)] 234) fun k1 M2 =>
K (.slice (some ⟨k1, 0, none⟩) 1 1) M2) :
 ae Tryz.prog 71 #[.int .i64 x0, .int .i64 x1] M K Kp := vw [] Tryz.func71 h
theorem Fs  (h :
aO M (cl [(iV (-1)), (.slice none 0 0)] 238) fun k1 M2 =>
K (.pointer (some ⟨k1, 0, none⟩)) M2) :
 ae Tryz.prog 73 #[] M K Kp := vw [] Tryz.func73 h
theorem rD {B0 : Option Addr} {m0 c0 : Nat} (h :
aA 179 none 0 0 B0 m0 c0 M (fun v1 M2 =>
aF (some v1) fun A3 k4 k5 =>
K (.slice A3 k4 k5) M2) Kp) :
 ae Tryz.prog 115 #[.slice B0 m0 c0] M K Kp := vw [] Tryz.func115 h
theorem wZ {b0 o0 : Nat} {x1 : Int} (h :
∃ I1 : Nat → List Value → Mem → Prop, (∃ k2 : Nat, I1 k2 [(.slice none 0 0)] M) ∧
∀ k3 : Nat, ∀ Ze : Nat → Value, ∀ A5 : Option Addr, ∀ k6 : Nat, ∀ k7 : Nat, ∀ M8 : Mem, (I1 k3 [(.slice A5 k6 k7)] M8) → aF (Mem.ld M8 ⟨b0, o0, none⟩) fun A9 eD eu =>
aM (decide ((((eD : Nat) : Int) : Int) > 0))
 (aF (Mem.ld M8 ⟨b0, o0, none⟩) fun mX eA fz =>
 ((0 : Int) ≤ 0) ∧
 ((0 : Int) < ((eA : Nat) : Int)) ∧
 aE mX fun ju fq =>
 bF (Mem.ld M8 ⟨ju, (fq + 0), none⟩) .u64 fun kN =>
 aM (decide ((kN : Int) ≤ x1))
  (ae Tryz.prog 106 #[(.pointer (some ⟨b0, o0, none⟩)), (.int .i64 0)] M8 (fun Fc mW =>
  ∃ gC : Int, ∃ u0 : Int, ∃ wP : Int, (Fc = (.agg #[(.int .u64 gC), (.int .u64 u0), (.int .i64 wP)])) ∧
  aO mW (.cells #[(.int .u64 gC), (.int .u64 u0), (.int .i64 wP)] 205 (0, 0)) fun gI ny =>
  bj Tryz.prog (Go.Builtin.append_ #[65, 65] 65 #[(.slice A5 k6 k7), (.slice (some ⟨gI, 0, none⟩) 1 1)]) ny (fun v25 xO =>
  aF (some v25) fun BE gS gi =>
  ∃ jc : Nat, (jc < k3) ∧
  I1 jc [(.slice BE gS gi)] xO) Kp) Kp)
  (K (.slice A5 k6 k7) M8))
 (K (.slice A5 k6 k7) M8)) :
 ae Tryz.prog 89 ([.pointer (some ⟨b0, o0, none⟩), .int .u64 x1] : List Value).toArray M K Kp :=
 eZ (C := Cx) good [(2000000, .loop [(5, .c .sl)])] Tryz.func89 (by kernel_rfl) (by kernel_rfl) h
theorem uh {b0 o0 : Nat} {x1 : Int} (h :
rS M b0 (o0 + 4) fun A1 k2 k3 =>
((0 : Int) ≤ x1) ∧
((x1 : Int) < k2) ∧
aE A1 fun k4 k5 =>
rP M k4 (k5 + (Int.toNat x1)) fun A6 =>
aE A6 fun k7 k8 =>
sT M k7 k8 (iV 1) fun M9 =>
rS M9 b0 (o0 + 13) fun KH eu gF =>
aO M9 (cl [(iV x1)] 3) fun eA qh =>
aA 38 KH eu gF (some ⟨eA, 0, none⟩) 1 1 qh (fun Bu gh =>
aF (some Bu) fun Ay fm jC =>
sT gh b0 (o0 + 13) (.slice Ay fm jC) fun vr =>
K (.tuple #[]) vr) Kp) :
 ae Tryz.prog 90 #[.pointer (some ⟨b0, o0, none⟩), .int .i64 x1] M K Kp := vw [] Tryz.func90 h
theorem w5 {b0 o0 : Nat} (h :
aO M (.cells #[] 205 (0, 0)) fun k1 M2 =>
aF (Mem.ld M2 ⟨b0, o0, none⟩) fun A3 k4 k5 =>
bj Tryz.prog (Go.Builtin.append_ #[65, 65] 65 #[(.slice (some ⟨k1, 0, none⟩) 0 0), (.slice A3 k4 k5)]) M2 (fun v6 M7 =>
aF (some v6) fun A8 k9 eD =>
aO M7 (.cells #[(.slice none 0 0), (.int .u64 0)] 162 (0, 0)) fun eu wm =>
b7 wm ⟨eu, 0, none⟩ (.slice A8 k9 eD) fun lu =>
b7 lu ⟨eu, (0 + 1), none⟩ (.int .u64 0) fun qh =>
∃ I15 : Nat → List Value → Mem → Prop, (∃ fq : Nat, I15 fq [(.slice none 0 0)] qh) ∧
∀ fO : Nat, ∀ junk18 : Nat → Value, ∀ G1 : Option Addr, ∀ fQ : Nat, ∀ lz : Nat, ∀ c9 : Mem, (I15 fO [(.slice G1 fQ lz)] c9) → aF (Mem.ld c9 ⟨eu, 0, none⟩) fun O3 nM jE =>
aM (decide ((((nM : Nat) : Int) : Int) > 0))
 (ae Tryz.prog 106 #[(.pointer (some ⟨eu, 0, none⟩)), (.int .i64 0)] c9 (fun v26 mZ =>
 ∃ JV : Int, ∃ yu : Int, ∃ w6 : Int, (v26 = (.agg #[(.int .u64 JV), (.int .u64 yu), (.int .i64 w6)])) ∧
 aO mZ (.cells #[(.int .u64 JV), (.int .u64 yu), (.int .i64 w6)] 205 (0, 0)) fun iH mJ =>
 bj Tryz.prog (Go.Builtin.append_ #[65, 65] 65 #[(.slice G1 fQ lz), (.slice (some ⟨iH, 0, none⟩) 1 1)]) mJ (fun v33 qI =>
 aF (some v33) fun QN nP pC =>
 ∃ fB : Nat, (fB < fO) ∧
 I15 fB [(.slice QN nP pC)] qI) Kp) Kp)
 (K (.slice G1 fQ lz) c9)) Kp) :
 ae Tryz.prog 61 ([.pointer (some ⟨b0, o0, none⟩)] : List Value).toArray M K Kp :=
 eZ (C := Cx) good [(2000000, .loop [(4, .c .sl)])] Tryz.func61 (by kernel_rfl) (by kernel_rfl) h
theorem uj {b0 o0 : Nat} {dS : Int} {eE : Int} {eF : Int} {g7 : Int} (h :
aO M (cl [(iV dS), (iV eE), (iV eF), (iV g7)] 34) fun k1 M2 =>
rI M2 k1 0 fun n3 =>
ae Tryz.prog 153 #[] M2 (fun v4 M5 =>
eI M5 k1 0 n3 ∧
bj Tryz.prog (Go.Instr.lookup 302 v4 (iV n3) true) M5 (fun v6 M7 =>
∃ v8 : Value, ∃ t9 : Bool, (v6 = (.tuple #[v8, (.bool t9)])) ∧
eI M7 k1 0 n3 ∧
aM t9
 (rI M7 b0 (o0 + 1) fun dI =>
 sT M7 b0 (o0 + 1) (iV (IntKind.wrap .i64 (dI + 1))) fun iL =>
 bO iL k1 0 fun gZ mY jA kX =>
 pU Cx v8 [(.pointer (some ⟨b0, o0, none⟩)), (.agg #[(iV gZ), (iV mY), (iV jA), (iV kX)])] iL (fun Ii nA =>
 (Ii = (.tuple #[])) ∧
 K (.bool t9) nA) Kp)
 (K (.bool t9) M7)) Kp) Kp) :
 ae Tryz.prog 121 #[.pointer (some ⟨b0, o0, none⟩), .agg #[.int .i64 dS, .int .i64 eE, .int .i64 eF, .int .i64 g7]] M K Kp := vw [(1, .bH [0, 0, 2, 7, 15, 31, 31, 63, 255] (sy [1] (.cQ 2 (sy [0, 3, 4, 5, 6, 7, 8] .done))))] Tryz.func121 h
theorem qv {b0 o0 : Nat} {x1 : Int} {b2 o2 : Nat} {fI : Int} {fJ : Int} {fK : Int} {fL : Int} (h :
aO M (cl [(iV fI), (iV fJ), (iV fK), (iV fL)] 34) fun k1 M2 =>
bO M2 k1 0 fun n3 n4 n5 n6 =>
ae Tryz.prog 154 #[(.pointer (some ⟨b0, o0, none⟩)), (.agg #[(iV n3), (iV n4), (iV n5), (iV n6)])] M2 (fun v7 M8 =>
aF (some v7) fun A9 eD eu =>
rS M8 b0 (o0 + 6) fun mX eA fz =>
ae Tryz.prog 155 #[(.slice A9 eD eu), (.slice mX eA fz)] M8 (fun Bu gh =>
aF (some Bu) fun Ay fm jC =>
aM ((fm : Int) == 0)
 (rI gh b2 (o2 + 1) fun gC =>
 sT gh b2 (o2 + 1) (iV (IntKind.wrap .i64 (gC + 1))) fun jD =>
 ae Tryz.prog 156 #[(.slice A9 eD eu)] jD (fun KG mm =>
 ∃ pY : Int, ∃ t25 : Bool, (KG = (.tuple #[(iV pY), (.bool t25)])) ∧
 aM t25
 (rI mm k1 3 fun H9 =>
 (0 ≤ H9) ∧
 (H9 < 8) ∧
 sT mm b2 ((o2 + 2) + (Int.toNat H9)) (iV pY) fun mZ =>
 K (.tuple #[]) mZ)
 (((0 : Int) ≤ 8) ∧
 ((8 : Int) ≤ 8) ∧
 ((0 : Int) ≤ 8) ∧
 ((8 : Int) ≤ 8) ∧
 ((0 : Int) ≤ 0) ∧
 ((0 : Int) ≤ 8) ∧
 rS mm b0 (o0 + 6) fun zW gi jc =>
 ae Tryz.prog 157 #[(iV x1), (.slice A9 eD eu), (.slice (iZ (some ⟨b2, (o2 + 2), none⟩) 0 8 1) 8 8), (.slice zW gi jc)] mm (fun RW mJ =>
 (RW = (.tuple #[])) ∧
 bO mJ k1 0 fun kK u6 yz tC =>
 ae Tryz.prog 158 #[(.pointer (some ⟨b0, o0, none⟩)), (iV x1), (.agg #[(iV kK), (iV u6), (iV yz), (iV tC)])] mJ (fun v37 lj =>
 (v37 = (.tuple #[])) ∧
 K (.tuple #[]) lj) Kp) Kp)) Kp)
 (eY (Mem.ld gh ⟨b0, (o0 + 14), none⟩) fun v39 =>
 pU Cx v39 [(iV 3), (iV (fm : Int))] gh (fun Sv BF =>
 bF (some Sv) .i64 fun BH =>
 (0 ≤ BH) ∧
 (BH < fm) ∧
 aE Ay fun jF ym =>
 rI BF jF (ym + (Int.toNat BH)) fun ue =>
 rI BF b2 (o2 + 1) fun Ij =>
 sT BF b2 (o2 + 1) (iV (IntKind.wrap .i64 (Ij + 1))) fun wT =>
 (0 ≤ ue) ∧
 (ue < eD) ∧
 aE A9 fun yx nC =>
 eR wT yx (nC + ((Int.toNat ue) * 3)) fun Ft CN Sw =>
 aO wT th fun kL O4 =>
 pb O4 kL (iV Ft) (iV CN) (iV Sw) fun GY =>
 rI GY kL 0 fun CW =>
 aM (CW == 1)
 (rI GY kL 1 fun HU =>
 rI GY kL 2 fun vp =>
 (0 ≤ vp) ∧
 (vp < 8) ∧
 rI GY b2 ((o2 + 2) + (Int.toNat vp)) fun n61 =>
 ae Tryz.prog 159 #[(.pointer (some ⟨b0, o0, none⟩)), (iV HU), (iV n61)] GY (fun Fp Fe =>
 dG (some Fp) fun t64 =>
 rI Fe k1 3 fun GZ =>
 (0 ≤ GZ) ∧
 (GZ < 8) ∧
 sT Fe b2 ((o2 + 2) + (Int.toNat GZ)) (iV ue) fun NX =>
 K (.tuple #[]) NX) Kp)
 (rI GY kL 1 fun Ik =>
 rI GY kL 2 fun wW =>
 ae Tryz.prog 160 #[(.pointer (some ⟨b0, o0, none⟩)), (iV Ik)] GY (fun Ph NY =>
 ∃ VR Il : Int, ∃ t73 : Bool, (Ph = (.tuple #[(iV VR), (iV Il), (.bool t73)])) ∧
 eI NY kL 2 wW ∧
 (0 ≤ wW) ∧
 (wW < 8) ∧
 sT NY b2 ((o2 + 2) + (Int.toNat wW)) (iV VR) fun G4 =>
 eI G4 kL 2 wW ∧
 rI G4 k1 3 fun RX =>
 (0 ≤ RX) ∧
 (RX < 8) ∧
 sT G4 b2 ((o2 + 2) + (Int.toNat RX)) (iV ue) fun Ww =>
 K (.tuple #[]) Ww) Kp)) Kp)) Kp) Kp) :
 ae Tryz.prog 122 #[.pointer (some ⟨b0, o0, none⟩), .int .i64 x1, .pointer (some ⟨b2, o2, none⟩), .agg #[.int .i64 fI, .int .i64 fJ, .int .i64 fK, .int .i64 fL]] M K Kp := vw [(7, .bH [0, 0, 2, 0, 1, 17, 63, 127] (sy [0, 1, 3, 4, 5, 2, 6, 7] .done)), (8, .bH [0, 0, 0, 4, 12, 28, 0, 64, 192, 448, 1023] (sy [0, 1, 2, 3, 4, 5, 6, 7, 8, 9, 10] .done)), (14, .bH [0, 0, 2, 0, 0, 16, 8, 72, 248, 504, 1023] (sy [0, 1, 3, 4, 6, 7, 2, 5, 8, 9, 10] .done)), (15, .bH [0, 0, 2, 0, 0, 16, 56, 120, 248, 248, 248, 1, 2049, 6655, 14847] (sy [0, 1, 3, 4, 11, 12, 5] (.cQ 2 (sy [6, 7, 8, 9, 10, 13, 14] .done)))), (16, .bH [0, 0, 2, 0, 1, 17, 63, 127] (sy [0, 1, 3, 4, 5, 2, 6, 7] .done))] Tryz.func122 h
theorem uk {b0 o0 : Nat} {x1 : Int} {b2 o2 : Nat} {fI : Int} {fJ : Int} {fK : Int} {fL : Int} (h :
aO M (cl [(iV fI), (iV fJ), (iV fK), (iV fL)] 34) fun k1 M2 =>
eY (Mem.ld M2 ⟨b0, (o0 + 14), none⟩) fun v3 =>
rI M2 k1 2 fun n4 =>
pU Cx v3 [(iV 4), (iV n4)] M2 (fun v5 M6 =>
bF (some v5) .i64 fun n7 =>
rI M6 b2 (o2 + 1) fun n8 =>
sT M6 b2 (o2 + 1) (iV (IntKind.wrap .i64 (n8 + 1))) fun M9 =>
rI M9 k1 1 fun dI =>
(0 ≤ dI) ∧
(dI < 8) ∧
sT M9 b2 ((o2 + 2) + (Int.toNat dI)) (iV n7) fun iL =>
K (.tuple #[]) iL) Kp) :
 ae Tryz.prog 123 #[.pointer (some ⟨b0, o0, none⟩), .int .i64 x1, .pointer (some ⟨b2, o2, none⟩), .agg #[.int .i64 fI, .int .i64 fJ, .int .i64 fK, .int .i64 fL]] M K Kp := vw [(1, .bH [0, 1, 3, 7, 0, 16, 63, 127] (sy [0, 1, 2, 4, 3, 5, 6, 7] .done)), (3, .bH [0, 0, 2, 0, 1, 17, 63, 127] (sy [0, 1, 3, 4, 5, 2, 6, 7] .done))] Tryz.func123 h
theorem BI  (h :
aO M (.map #[] 0) fun k1 M2 =>
bJ Tryz.prog (Go.Instr.mapUpdate 261 (.map (some k1)) (iV 9) (.func (.func 161) #[] #[])) M2 (fun M3 =>
bJ Tryz.prog (Go.Instr.mapUpdate 261 (.map (some k1)) (iV 10) (.func (.func 162) #[] #[])) M3 (fun M4 =>
bJ Tryz.prog (Go.Instr.mapUpdate 261 (.map (some k1)) (iV 11) (.func (.func 163) #[] #[])) M4 (fun M5 =>
bJ Tryz.prog (Go.Instr.mapUpdate 261 (.map (some k1)) (iV 12) (.func (.func 164) #[] #[])) M5 (fun M6 =>
bJ Tryz.prog (Go.Instr.mapUpdate 261 (.map (some k1)) (iV 13) (.func (.func 165) #[] #[])) M6 (fun M7 =>
bJ Tryz.prog (Go.Instr.mapUpdate 261 (.map (some k1)) (iV 14) (.func (.func 166) #[] #[])) M7 (fun M8 =>
bJ Tryz.prog (Go.Instr.mapUpdate 261 (.map (some k1)) (iV 15) (.func (.func 167) #[] #[])) M8 (fun M9 =>
bJ Tryz.prog (Go.Instr.mapUpdate 261 (.map (some k1)) (iV 17) (.func (.func 168) #[] #[])) M9 (fun mO =>
bJ Tryz.prog (Go.Instr.mapUpdate 261 (.map (some k1)) (iV 18) (.func (.func 169) #[] #[])) mO (fun iL =>
bJ Tryz.prog (Go.Instr.mapUpdate 261 (.map (some k1)) (iV 19) (.func (.func 170) #[] #[])) iL (fun wm =>
bJ Tryz.prog (Go.Instr.mapUpdate 261 (.map (some k1)) (iV 20) (.func (.func 171) #[] #[])) wm (fun lu =>
bJ Tryz.prog (Go.Instr.mapUpdate 261 (.map (some k1)) (iV 22) (.func (.func 172) #[] #[])) lu (fun qh =>
K (.map (some k1)) qh) Kp) Kp) Kp) Kp) Kp) Kp) Kp) Kp) Kp) Kp) Kp) Kp) :
 ae Tryz.prog 124 #[] M K Kp := vw [] Tryz.func124 h
theorem um {b0 o0 : Nat} {x1 : Int} (h :
aO M (.cells #[(.int .u64 0), (.int .u64 0), (.int .i64 0)] 205 (0, 0)) fun k1 M2 =>
aF (Mem.ld M2 ⟨b0, o0, none⟩) fun A3 k4 k5 =>
((0 : Int) ≤ x1) ∧
((x1 : Int) < ((k4 : Nat) : Int)) ∧
aE A3 fun k6 k7 =>
bF (Mem.ld M2 ⟨k6, (k7 + ((Int.toNat x1) * 3)), none⟩) .u64 fun n8 =>
bF (Mem.ld M2 ⟨k6, ((k7 + ((Int.toNat x1) * 3)) + 1), none⟩) .u64 fun n9 =>
bF (Mem.ld M2 ⟨k6, ((k7 + ((Int.toNat x1) * 3)) + 2), none⟩) .i64 fun dI =>
aO M2 (.cells #[(.int .u64 0), (.int .u64 0), (.int .i64 0)] 205 (0, 0)) fun eu wm =>
b7 wm ⟨eu, 0, none⟩ (.int .u64 n8) fun lu =>
b7 lu ⟨eu, (0 + 1), none⟩ (.int .u64 n9) fun qh =>
b7 qh ⟨eu, (0 + 2), none⟩ (.int .i64 dI) fun Fo =>
aF (Mem.ld Fo ⟨b0, o0, none⟩) fun WB fO fm =>
ae Tryz.prog 136 #[(.pointer (some ⟨b0, o0, none⟩)), (.int .i64 x1), (.int .i64 (IntKind.wrap .i64 (((fO : Nat) : Int) - 1)))] Fo (fun Pj vr =>
(Pj = (.tuple #[])) ∧
aF (Mem.ld vr ⟨b0, o0, none⟩) fun CM gf gI =>
((0 : Int) ≤ ((gI : Nat) : Int)) ∧
((((gI : Nat) : Int) : Int) ≤ ((gI : Nat) : Int)) ∧
((0 : Int) ≤ (IntKind.wrap .i64 (((fO : Nat) : Int) - 1))) ∧
(((IntKind.wrap .i64 (((fO : Nat) : Int) - 1)) : Int) ≤ ((gI : Nat) : Int)) ∧
((0 : Int) ≤ 0) ∧
((0 : Int) ≤ (IntKind.wrap .i64 (((fO : Nat) : Int) - 1))) ∧
b7 vr ⟨b0, o0, none⟩ (.slice (iZ CM 0 (Int.toNat ((gI : Nat) : Int)) 3) ((Int.toNat (IntKind.wrap .i64 (((fO : Nat) : Int) - 1))) - 0) ((Int.toNat ((gI : Nat) : Int)) - 0)) fun ny =>
aM (decide ((x1 : Int) < (IntKind.wrap .i64 (((fO : Nat) : Int) - 1))))
 (ae Tryz.prog 137 #[(.pointer (some ⟨b0, o0, none⟩)), (.int .i64 x1)] ny (fun v25 xO =>
 (v25 = (.tuple #[])) ∧
 ae Tryz.prog 138 #[(.pointer (some ⟨b0, o0, none⟩)), (.int .i64 x1)] xO (fun v27 CV =>
 (v27 = (.tuple #[])) ∧
 bF (Mem.ld CV ⟨eu, 0, none⟩) .u64 fun yu =>
 bF (Mem.ld CV ⟨eu, (0 + 1), none⟩) .u64 fun w6 =>
 bF (Mem.ld CV ⟨eu, (0 + 2), none⟩) .i64 fun q9 =>
 b7 CV ⟨k1, 0, none⟩ (.int .u64 yu) fun mJ =>
 b7 mJ ⟨k1, (0 + 1), none⟩ (.int .u64 w6) fun pX =>
 b7 pX ⟨k1, (0 + 2), none⟩ (.int .i64 q9) fun qI =>
 bF (Mem.ld qI ⟨k1, 0, none⟩) .u64 fun yz =>
 bF (Mem.ld qI ⟨k1, (0 + 1), none⟩) .u64 fun tC =>
 bF (Mem.ld qI ⟨k1, (0 + 2), none⟩) .i64 fun xK =>
 K (.agg #[(.int .u64 yz), (.int .u64 tC), (.int .i64 xK)]) qI) Kp) Kp)
 (bF (Mem.ld ny ⟨eu, 0, none⟩) .u64 fun mo =>
 bF (Mem.ld ny ⟨eu, (0 + 1), none⟩) .u64 fun yl =>
 bF (Mem.ld ny ⟨eu, (0 + 2), none⟩) .i64 fun nQ =>
 b7 ny ⟨k1, 0, none⟩ (.int .u64 mo) fun BF =>
 b7 BF ⟨k1, (0 + 1), none⟩ (.int .u64 yl) fun NZ =>
 b7 NZ ⟨k1, (0 + 2), none⟩ (.int .i64 nQ) fun wV =>
 bF (Mem.ld wV ⟨k1, 0, none⟩) .u64 fun yA =>
 bF (Mem.ld wV ⟨k1, (0 + 1), none⟩) .u64 fun ue =>
 bF (Mem.ld wV ⟨k1, (0 + 2), none⟩) .i64 fun Ij =>
 K (.agg #[(.int .u64 yA), (.int .u64 ue), (.int .i64 Ij)]) wV)) Kp) :
 ae Tryz.prog 106 ([.pointer (some ⟨b0, o0, none⟩), .int .i64 x1] : List Value).toArray M K Kp :=
 eZ (C := Cx) good [] Tryz.func106 (by kernel_rfl) (by kernel_rfl) h
theorem BJ  (h :
aO M (.map #[] 0) fun k1 M2 =>
bJ Tryz.prog (Go.Instr.mapUpdate 302 (.map (some k1)) (iV 0) (.func (.func 195) #[] #[])) M2 (fun M3 =>
bJ Tryz.prog (Go.Instr.mapUpdate 302 (.map (some k1)) (iV 1) (.func (.func 196) #[] #[])) M3 (fun M4 =>
bJ Tryz.prog (Go.Instr.mapUpdate 302 (.map (some k1)) (iV 2) (.func (.func 197) #[] #[])) M4 (fun M5 =>
bJ Tryz.prog (Go.Instr.mapUpdate 302 (.map (some k1)) (iV 3) (.func (.func 198) #[] #[])) M5 (fun M6 =>
bJ Tryz.prog (Go.Instr.mapUpdate 302 (.map (some k1)) (iV 4) (.func (.func 199) #[] #[])) M6 (fun M7 =>
bJ Tryz.prog (Go.Instr.mapUpdate 302 (.map (some k1)) (iV 5) (.func (.func 200) #[] #[])) M7 (fun M8 =>
bJ Tryz.prog (Go.Instr.mapUpdate 302 (.map (some k1)) (iV 6) (.func (.func 201) #[] #[])) M8 (fun M9 =>
bJ Tryz.prog (Go.Instr.mapUpdate 302 (.map (some k1)) (iV 7) (.func (.func 202) #[] #[])) M9 (fun mO =>
bJ Tryz.prog (Go.Instr.mapUpdate 302 (.map (some k1)) (iV 8) (.func (.func 203) #[] #[])) mO (fun iL =>
K (.map (some k1)) iL) Kp) Kp) Kp) Kp) Kp) Kp) Kp) Kp) Kp) :
 ae Tryz.prog 153 #[] M K Kp := vw [] Tryz.func153 h
theorem rE {b0 o0 : Nat} {dS : Int} {eE : Int} {eF : Int} {g7 : Int} (h :
aO M (cl [(iV dS), (iV eE), (iV eF), (iV g7)] 34) fun k1 M2 =>
rS M2 b0 (o0 + 3) fun A3 k4 k5 =>
rI M2 k1 1 fun n6 =>
rI M2 k1 1 fun n7 =>
rI M2 k1 2 fun n8 =>
((0 : Int) ≤ k5) ∧
((k5 : Int) ≤ k5) ∧
((0 : Int) ≤ (IntKind.wrap .i64 (n7 + n8))) ∧
(((IntKind.wrap .i64 (n7 + n8)) : Int) ≤ (k5 : Int)) ∧
(0 ≤ n6) ∧
((n6 : Int) ≤ (IntKind.wrap .i64 (n7 + n8))) ∧
K (.slice (iZ A3 (Int.toNat n6) (Int.toNat (k5 : Int)) 3) ((Int.toNat (IntKind.wrap .i64 (n7 + n8))) - (Int.toNat n6)) ((Int.toNat (k5 : Int)) - (Int.toNat n6))) M2) :
 ae Tryz.prog 154 #[.pointer (some ⟨b0, o0, none⟩), .agg #[.int .i64 dS, .int .i64 eE, .int .i64 eF, .int .i64 g7]] M K Kp := vw [(1, .bH [0, 1, 3, 7, 15, 0, 32, 0, 128, 0, 512, 1920, 4095, 8191] (sy [0, 1, 2, 3, 5, 7, 9, 4, 6, 8, 10, 11, 12, 13] .done))] Tryz.func154 h
theorem rG {b0 o0 : Nat} {x1 : Int} {oh : Int} {rq : Int} {om : Int} {ru : Int} (h :
aO M (cl [(iV oh), (iV rq), (iV om), (iV ru)] 34) fun k1 M2 =>
rS M2 b0 (o0 + 4) fun A3 k4 k5 =>
((0 : Int) ≤ x1) ∧
((x1 : Int) < k4) ∧
aE A3 fun k6 k7 =>
rP M2 k6 (k7 + (Int.toNat x1)) fun A8 =>
rS M2 b0 (o0 + 4) fun A9 eD eu =>
((0 : Int) ≤ x1) ∧
((x1 : Int) < eD) ∧
aE A9 fun gF eA =>
rP M2 gF (eA + (Int.toNat x1)) fun ua =>
aE A8 fun ju fq =>
bO M2 k1 0 fun kN kM nN gC =>
sT M2 ju fq (iV 2) fun jD =>
((Mem.fT jD ⟨k1, 0, none⟩ 0 4) = some [(iV kN), (iV kM), (iV nN), (iV gC)]) ∧
aE ua fun gf gI =>
sT jD gf (gI + 2) (iV kN) fun ny =>
sT ny gf ((gI + 2) + 1) (iV kM) fun qk =>
sT qk gf ((gI + 2) + 2) (iV nN) fun xO =>
sT xO gf ((gI + 2) + 3) (iV gC) fun mZ =>
((Mem.fT mZ ⟨k1, 0, none⟩ 0 4) = some [(iV kN), (iV kM), (iV nN), (iV gC)]) ∧
K (.tuple #[]) mZ) :
 ae Tryz.prog 158 #[.pointer (some ⟨b0, o0, none⟩), .int .i64 x1, .agg #[.int .i64 oh, .int .i64 rq, .int .i64 om, .int .i64 ru]] M K Kp := vw [(1, .bH [0, 1, 3, 7, 0, 31, 63, 0, 128, 384, 896, 0, 3968, 8064, 0, 16383, 49151, 114687, 262143, 524287, 1048575] (sy [0, 1, 2, 4, 7, 8, 9, 11, 3, 5, 6, 10, 12, 13, 15, 16] (.cQ 14 (sy [17, 18, 19, 20] .done))))] Tryz.func158 h
theorem vE {b0 o0 : Nat} {x1 : Int} {x2 : Int} (h :
rS M b0 (o0 + 6) fun A1 k2 k3 =>
((0 : Int) ≤ x1) ∧
((x1 : Int) < k2) ∧
aE A1 fun k4 k5 =>
rP M k4 (k5 + (Int.toNat x1)) fun A6 =>
ae Tryz.prog 207 #[(.pointer A6), (iV x2)] M (fun v7 M8 =>
∃ n9 dI kY : Int, ∃ t12 : Bool, ∃ mY : Int, (v7 = (.tuple #[(.agg #[(iV n9), (iV dI), (iV kY)]), (.bool t12), (iV mY)])) ∧
aO M8 lS fun fz Fo =>
pb Fo fz (iV n9) (iV dI) (iV kY) fun mq =>
aM (mY == 10)
 (Kp [{ v := (.iface 256 (iV (-1))), recovered := false }] mq)
 (aM t12
 (rI mq fz 0 fun nN =>
 rI mq fz 1 fun gC =>
 rI mq fz 2 fun u0 =>
 ae Tryz.prog 208 #[(.pointer (some ⟨b0, o0, none⟩)), (.agg #[(iV nN), (iV gC), (iV u0)]), (iV 1)] mq (fun KG mm =>
 (KG = (.tuple #[])) ∧
 K (.bool (mY == 0)) mm) Kp)
 (K (.bool (mY == 0)) mq))) Kp) :
 ae Tryz.prog 159 #[.pointer (some ⟨b0, o0, none⟩), .int .i64 x1, .int .i64 x2] M K Kp := vw [] Tryz.func159 h
theorem vF {b0 o0 : Nat} {x1 : Int} (h :
rS M b0 (o0 + 6) fun A1 k2 k3 =>
((0 : Int) ≤ x1) ∧
((x1 : Int) < k2) ∧
aE A1 fun k4 k5 =>
rP M k4 (k5 + (Int.toNat x1)) fun A6 =>
ae Tryz.prog 209 #[(.pointer A6)] M (fun v7 M8 =>
∃ n9 : Int, ∃ t10 : Bool, ∃ kY gZ mY : Int, ∃ t14 : Bool, ∃ kX : Int, (v7 = (.tuple #[(.agg #[(iV n9), (.bool t10), (iV kY), (iV gZ), (iV mY), (.bool t14)]), (iV kX)])) ∧
aO M8 pe fun fq nA =>
RO nA fq (iV n9) (.bool t10) (iV kY) (iV gZ) (iV mY) (.bool t14) fun mm =>
rB mm fq 5 fun t24 =>
aM t24
 (rI mm fq 2 fun yq =>
 rI mm fq (2 + 1) fun H9 =>
 rI mm fq (2 + 2) fun KN =>
 ae Tryz.prog 210 #[(.pointer (some ⟨b0, o0, none⟩)), (.agg #[(iV yq), (iV H9), (iV KN)])] mm (fun O8 pz =>
 (O8 = (.tuple #[])) ∧
 rB pz fq 1 fun t30 =>
 aM t30
 (rI pz fq 0 fun q9 =>
 K (.tuple #[(iV q9), (iV 1), (.bool true)]) pz)
 (K (.tuple #[(iV 0), (iV 0), (.bool (kX == 0))]) pz)) Kp)
 (rB mm fq 1 fun t32 =>
 aM t32
 (rI mm fq 0 fun kK =>
 K (.tuple #[(iV kK), (iV 1), (.bool true)]) mm)
 (K (.tuple #[(iV 0), (iV 0), (.bool (kX == 0))]) mm))) Kp) :
 ae Tryz.prog 160 #[.pointer (some ⟨b0, o0, none⟩), .int .i64 x1] M K Kp := vw [] Tryz.func160 h
theorem uo {b0 o0 : Nat} {x1 : Int} {b2 o2 : Nat} {fI : Int} {fJ : Int} {fK : Int} {fL : Int} (h :
aO M (cl [(iV fI), (iV fJ), (iV fK), (iV fL)] 34) fun k1 M2 =>
rS M2 b0 (o0 + 4) fun A3 k4 k5 =>
((0 : Int) ≤ x1) ∧
((x1 : Int) < k4) ∧
aE A3 fun k6 k7 =>
rP M2 k6 (k7 + (Int.toNat x1)) fun A8 =>
aE A8 fun k9 eD =>
rS M2 k9 (eD + 1) fun Fu gF eA =>
rI M2 k1 1 fun jA =>
rI M2 k1 2 fun kX =>
(0 ≤ kX) ∧
(kX < 8) ∧
rI M2 b2 ((o2 + 2) + (Int.toNat kX)) fun nZ =>
rI M2 k1 3 fun kN =>
ae Tryz.prog 211 #[(.slice Fu gF eA), (iV jA), (iV nZ), (iV kN)] M2 (fun Fc mW =>
∃ WC : Option Addr, ∃ lz gf : Nat, ∃ t23 : Bool, (Fc = (.tuple #[(.slice WC lz gf), (.bool t23)])) ∧
aM (!t23)
 (Kp [{ v := (.iface 256 (iV (-4))), recovered := false }] mW)
 (rS mW b0 (o0 + 4) fun CK jE gH =>
 ((0 : Int) ≤ x1) ∧
 ((x1 : Int) < jE) ∧
 aE CK fun kF gS =>
 rP mW kF (gS + (Int.toNat x1)) fun A29 =>
 aE A29 fun jc iH =>
 sT mW jc (iH + 1) (.slice WC lz gf) fun mJ =>
 K (.tuple #[]) mJ)) Kp) :
 ae Tryz.prog 161 #[.pointer (some ⟨b0, o0, none⟩), .int .i64 x1, .pointer (some ⟨b2, o2, none⟩), .agg #[.int .i64 fI, .int .i64 fJ, .int .i64 fK, .int .i64 fL]] M K Kp := vw [(1, .bH [0, 1, 3, 7, 0, 31, 63, 127, 255, 511, 0, 1024, 0, 0, 8192, 4096, 36864, 126976, 258048, 0, 524288, 2097151, 4194303, 8388607, 8388607, 16777215, 67108863] (sy [0, 1, 2, 4, 10, 12, 13, 15, 16, 19, 3, 5, 6, 7, 8, 9, 11, 14, 17, 18, 20, 21, 22, 23, 24, 25, 26] .done))] Tryz.func161 h
theorem uq {b0 o0 : Nat} {x1 : Int} {b2 o2 : Nat} {fI : Int} {fJ : Int} {fK : Int} {fL : Int} (h :
aO M (cl [(iV fI), (iV fJ), (iV fK), (iV fL)] 34) fun k1 M2 =>
rS M2 b0 (o0 + 4) fun A3 k4 k5 =>
((0 : Int) ≤ x1) ∧
((x1 : Int) < k4) ∧
aE A3 fun k6 k7 =>
rP M2 k6 (k7 + (Int.toNat x1)) fun A8 =>
aE A8 fun k9 eD =>
rS M2 k9 (eD + 1) fun Fu gF eA =>
rI M2 k1 1 fun jA =>
(0 ≤ jA) ∧
(jA < 8) ∧
rI M2 b2 ((o2 + 2) + (Int.toNat jA)) fun kX =>
ae Tryz.prog 212 #[(.slice Fu gF eA), (iV kX)] M2 (fun Ii nA =>
∃ KX : Option Addr, ∃ jC fQ : Nat, ∃ t21 : Bool, (Ii = (.tuple #[(.slice KX jC fQ), (.bool t21)])) ∧
aM t21
 (rS nA b0 (o0 + 4) fun K2 gI nM =>
 ((0 : Int) ≤ x1) ∧
 ((x1 : Int) < gI) ∧
 aE K2 fun jE gH =>
 rP nA jE (gH + (Int.toNat x1)) fun BE =>
 aE BE fun gS gi =>
 sT nA gS (gi + 1) (.slice KX jC fQ) fun wj =>
 K (.tuple #[]) wj)
 (rS nA b0 (o0 + 4) fun HT ie lg =>
 ((0 : Int) ≤ x1) ∧
 ((x1 : Int) < ie) ∧
 aE HT fun mK ku =>
 rP nA mK (ku + (Int.toNat x1)) fun A36 =>
 aE A36 fun pC fB =>
 sT nA pC fB (iV 4) fun Fi =>
 aM (x1 == 0)
 (sT Fi b0 (o0 + 11) (iV 1) fun Fv =>
 K (.tuple #[]) Fv)
 (K (.tuple #[]) Fi))) Kp) :
 ae Tryz.prog 162 #[.pointer (some ⟨b0, o0, none⟩), .int .i64 x1, .pointer (some ⟨b2, o2, none⟩), .agg #[.int .i64 fI, .int .i64 fJ, .int .i64 fK, .int .i64 fL]] M K Kp := vw [(1, .bH [0, 1, 3, 7, 0, 31, 63, 127, 255, 511, 0, 0, 2048, 1024, 9216, 31744, 64512, 131071, 262143, 524287, 524287, 1048575, 4194303] (sy [0, 1, 2, 4, 10, 11, 13, 14, 3, 5, 6, 7, 8, 9, 12, 15, 16, 17, 18, 19, 20, 21, 22] .done))] Tryz.func162 h
theorem rH {b0 o0 : Nat} {x1 : Int} {b2 o2 : Nat} {fI : Int} {fJ : Int} {fK : Int} {fL : Int} (h :
aO M (cl [(iV fI), (iV fJ), (iV fK), (iV fL)] 34) fun k1 M2 =>
rS M2 b0 (o0 + 4) fun A3 k4 k5 =>
aM (decide ((k4 : Int) ≥ 100))
 (Kp [{ v := (.iface 256 (iV (-5))), recovered := false }] M2)
 (rS M2 b0 (o0 + 4) fun A6 k7 k8 =>
 ∃ J9 : List Value → Mem → Prop, (rI M2 k1 1 fun dI =>
 rI M2 k1 2 fun kY =>
 (0 ≤ kY) ∧
 (kY < 8) ∧
 rI M2 b2 ((o2 + 2) + (Int.toNat kY)) fun gZ =>
 (rS M2 b0 (o0 + 4) fun zu fz ju =>
 ae Tryz.prog 71 #[(iV dI), (iV gZ)] M2 (fun Ii nA =>
 aF (some Ii) fun KX jC fQ =>
 aO nA (cl [(iV 0), (.slice KX jC fQ), (iV 0), (iV 0), (iV 0), (iV 0)] 182) fun lz c9 =>
 aO c9 (cl [(.pointer (some ⟨lz, 0, none⟩))] 177) fun gI ny =>
 aA 158 zu fz ju (some ⟨gI, 0, none⟩) 1 1 ny (fun v25 xO =>
 aF (some v25) fun BE gS gi =>
 sT xO b0 (o0 + 4) (.slice BE gS gi) fun wj =>
 J9 [] wj) Kp) Kp) ∧
 (ae Tryz.prog 71 #[(iV dI), (iV gZ)] M2 (fun RW mJ =>
 aF (some RW) fun JW mK ku =>
 rS mJ b0 (o0 + 4) fun A36 pC fB =>
 aO mJ (cl [(iV 0), (.slice JW mK ku), (iV 0), (iV 0), (iV 0), (iV 0)] 182) fun lH Fv =>
 aO Fv (cl [(.pointer (some ⟨lH, 0, none⟩))] 177) fun mP NZ =>
 aA 158 A36 pC fB (some ⟨mP, 0, none⟩) 1 1 NZ (fun v43 qm =>
 aF (some v43) fun K0 mV j9 =>
 sT qm b0 (o0 + 4) (.slice K0 mV j9) fun D1 =>
 J9 [] D1) Kp) Kp) ∧
 True) ∧
 ∀ junk49 : Nat → Value, ∀ GX : Mem, (J9 [] GX) → ae Tryz.prog 90 #[(.pointer (some ⟨b0, o0, none⟩)), (iV (k7 : Int))] GX (fun v51 xP =>
 (v51 = (.tuple #[])) ∧
 rI xP k1 3 fun K3 =>
 (0 ≤ K3) ∧
 (K3 < 8) ∧
 sT xP b2 ((o2 + 2) + (Int.toNat K3)) (iV (k7 : Int)) fun O4 =>
 K (.tuple #[]) O4) Kp)) :
 ae Tryz.prog 163 #[.pointer (some ⟨b0, o0, none⟩), .int .i64 x1, .pointer (some ⟨b2, o2, none⟩), .agg #[.int .i64 fI, .int .i64 fJ, .int .i64 fK, .int .i64 fL]] M K Kp := vw [(4, .OS [0, 0, 2, 6, 14, 0, 32, 0, 0, 256, 128, 1152, 3968, 8064, 16352, 32736, 65504, 131040, 262142, 524287, 1048575, 2097151] (sy [0, 1, 2, 3, 5, 7, 8, 10, 11, 6, 9, 12, 13] (.fork 4 (sy [14, 15, 16, 17, 18, 19, 20, 21] .done) (.fork 14 (sy [15, 4, 16, 17, 18, 19, 20, 21] .done) .dead))) []), (6, .bH [0, 0, 2, 0, 1, 17, 63, 127] (sy [0, 1, 3, 4, 5, 2, 6, 7] .done))] Tryz.func163 h
theorem rJ {b0 o0 : Nat} {x1 : Int} {b2 o2 : Nat} {fI : Int} {fJ : Int} {fK : Int} {fL : Int} (h :
aO M (cl [(iV fI), (iV fJ), (iV fK), (iV fL)] 34) fun k1 M2 =>
K (.tuple #[]) M2) :
 ae Tryz.prog 164 #[.pointer (some ⟨b0, o0, none⟩), .int .i64 x1, .pointer (some ⟨b2, o2, none⟩), .agg #[.int .i64 fI, .int .i64 fJ, .int .i64 fK, .int .i64 fL]] M K Kp := vw [] Tryz.func164 h
theorem ur {b0 o0 : Nat} {x1 : Int} {b2 o2 : Nat} {fI : Int} {fJ : Int} {fK : Int} {fL : Int} (h :
aO M (cl [(iV fI), (iV fJ), (iV fK), (iV fL)] 34) fun k1 M2 =>
rI M2 k1 1 fun n3 =>
rI M2 k1 2 fun n4 =>
(0 ≤ n4) ∧
(n4 < 8) ∧
rI M2 b2 ((o2 + 2) + (Int.toNat n4)) fun n5 =>
ae Tryz.prog 159 #[(.pointer (some ⟨b0, o0, none⟩)), (iV n3), (iV n5)] M2 (fun v6 M7 =>
dG (some v6) fun t8 =>
aM (!t8)
 (rS M7 b0 (o0 + 6) fun A9 eD eu =>
 rI M7 k1 1 fun gZ =>
 (0 ≤ gZ) ∧
 (gZ < eD) ∧
 aE A9 fun eA fz =>
 rP M7 eA (fz + (Int.toNat gZ)) fun oQ =>
 rI M7 k1 2 fun nZ =>
 (0 ≤ nZ) ∧
 (nZ < 8) ∧
 rI M7 b2 ((o2 + 2) + (Int.toNat nZ)) fun kN =>
 ae Tryz.prog 206 #[(.pointer oQ), (.agg #[(iV x1), (iV 0), (iV kN)])] M7 (fun Fc mW =>
 (Fc = (.tuple #[])) ∧
 bO mW k1 0 fun gC u0 wP nO =>
 ae Tryz.prog 158 #[(.pointer (some ⟨b0, o0, none⟩)), (iV x1), (.agg #[(iV gC), (iV u0), (iV wP), (iV nO)])] mW (fun v24 qk =>
 (v24 = (.tuple #[])) ∧
 K (.tuple #[]) qk) Kp) Kp)
 (K (.tuple #[]) M7)) Kp) :
 ae Tryz.prog 165 #[.pointer (some ⟨b0, o0, none⟩), .int .i64 x1, .pointer (some ⟨b2, o2, none⟩), .agg #[.int .i64 fI, .int .i64 fJ, .int .i64 fK, .int .i64 fL]] M K Kp := vw [(1, .bH [0, 0, 2, 0, 0, 16, 8, 72, 248, 504, 1023, 2047] (sy [0, 1, 3, 4, 6, 7, 2, 5, 8, 9, 10, 11] .done)), (2, .bH [0, 1, 3, 7, 0, 16, 63, 127, 0, 0, 0, 1024, 512, 4608, 15872, 32256, 65280, 131071] (sy [0, 1, 2, 4, 8, 9, 10, 12, 13, 3, 5, 6, 7, 11, 14, 15, 16, 17] .done))] Tryz.func165 h
theorem uu {b0 o0 : Nat} {x1 : Int} {b2 o2 : Nat} {fI : Int} {fJ : Int} {fK : Int} {fL : Int} (h :
aO M (cl [(iV fI), (iV fJ), (iV fK), (iV fL)] 34) fun k1 M2 =>
rI M2 k1 1 fun n3 =>
ae Tryz.prog 160 #[(.pointer (some ⟨b0, o0, none⟩)), (iV n3)] M2 (fun v4 M5 =>
∃ n6 n7 : Int, ∃ t8 : Bool, (v4 = (.tuple #[(iV n6), (iV n7), (.bool t8)])) ∧
aM (!t8)
 (rS M5 b0 (o0 + 6) fun A9 eD eu =>
 rI M5 k1 1 fun gZ =>
 (0 ≤ gZ) ∧
 (gZ < eD) ∧
 aE A9 fun eA fz =>
 rP M5 eA (fz + (Int.toNat gZ)) fun oQ =>
 ae Tryz.prog 205 #[(.pointer oQ), (.agg #[(iV x1), (iV 0), (iV 0)])] M5 (fun Ii nA =>
 (Ii = (.tuple #[])) ∧
 bO nA k1 0 fun kM nN gC u0 =>
 ae Tryz.prog 158 #[(.pointer (some ⟨b0, o0, none⟩)), (iV x1), (.agg #[(iV kM), (iV nN), (iV gC), (iV u0)])] nA (fun KG mm =>
 (KG = (.tuple #[])) ∧
 K (.tuple #[]) mm) Kp) Kp)
 (rI M5 k1 2 fun pY =>
 (0 ≤ pY) ∧
 (pY < 8) ∧
 rI M5 k1 3 fun yq =>
 sT M5 b2 ((o2 + 2) + (Int.toNat pY)) (iV n6) fun xO =>
 eI xO k1 3 yq ∧
 (0 ≤ yq) ∧
 (yq < 8) ∧
 sT xO b2 ((o2 + 2) + (Int.toNat yq)) (iV n7) fun mZ =>
 eI mZ k1 3 yq ∧
 K (.tuple #[]) mZ)) Kp) :
 ae Tryz.prog 166 #[.pointer (some ⟨b0, o0, none⟩), .int .i64 x1, .pointer (some ⟨b2, o2, none⟩), .agg #[.int .i64 fI, .int .i64 fJ, .int .i64 fK, .int .i64 fL]] M K Kp := vw [(3, .bH [0, 1, 3, 7, 0, 16, 63, 127, 0, 256, 1023] (sy [0, 1, 2, 4, 8, 9, 3, 5, 6, 7, 10] .done)), (5, .bH [0, 0, 2, 0, 0, 16, 0, 0, 1, 257, 839, 1863, 8, 4104, 16383, 32767] (sy [0, 1, 3, 4, 6, 7, 8, 9, 12, 13, 2, 10] (.cQ 5 (sy [11, 14, 15] .done))))] Tryz.func166 h
theorem uv {b0 o0 : Nat} {x1 : Int} {b2 o2 : Nat} {fI : Int} {fJ : Int} {fK : Int} {fL : Int} (h :
aO M (cl [(iV fI), (iV fJ), (iV fK), (iV fL)] 34) fun k1 M2 =>
rS M2 b0 (o0 + 6) fun A3 k4 k5 =>
rI M2 k1 1 fun n6 =>
(0 ≤ n6) ∧
(n6 < k4) ∧
aE A3 fun k7 k8 =>
rP M2 k7 (k8 + (Int.toNat n6)) fun A9 =>
ae Tryz.prog 213 #[(.pointer A9)] M2 (fun v10 iL =>
∃ mX : Option Addr, ∃ eA fz : Nat, ∃ oQ : Option Addr, ∃ fq fO : Nat, ∃ kM : Int, (v10 = (.tuple #[(.slice mX eA fz), (.slice oQ fq fO), (iV kM)])) ∧
aM (kM != 0)
 (Kp [{ v := (.iface 256 (iV (-2))), recovered := false }] iL)
 (aM (decide ((fq : Int) > 0))
 (Kp [{ v := (.iface 256 (iV (-1))), recovered := false }] iL)
 (∃ I19 : IT, (∃ fQ, I19 fQ [(iV 0)] iL) ∧
 ∀ (lz : Nat) (_ : Nat → Value) (nO : Int) (ny : Mem), (I19 lz [(iV nO)] ny) → aM (decide (nO < eA))
 ((0 ≤ nO) ∧
 (nO < eA) ∧
 aE mX fun jE gH =>
 eR ny jE (gH + ((Int.toNat nO) * 3)) fun KN JV yu =>
 aO ny lS fun jc ud =>
 pb ud jc (iV KN) (iV JV) (iV yu) fun qI =>
 rS qI b0 (o0 + 4) fun QN nP pC =>
 rI qI jc 0 fun mo =>
 (0 ≤ mo) ∧
 (mo < nP) ∧
 aE QN fun lH tY =>
 rP qI lH (tY + (Int.toNat mo)) fun O2 =>
 aE O2 fun jO jF =>
 rI qI jO jF fun yA =>
 aM (yA == 2)
 (sT qI jc 2 (iV 0) fun Im =>
 eR Im jc 0 fun Ij CX Fw =>
 ae Tryz.prog 208 #[(.pointer (some ⟨b0, o0, none⟩)), (.agg #[(iV Ij), (iV CX), (iV Fw)]), (iV 0)] Im (fun Ws GX =>
 (Ws = (.tuple #[])) ∧
 ∃ D7 : Nat, (D7 < lz) ∧
 I19 D7 [(iV (IntKind.wrap .i64 (nO + 1)))] GX) Kp)
 (∃ tv : Nat, (tv < lz) ∧
 I19 tv [(iV (IntKind.wrap .i64 (nO + 1)))] qI))
 (K (.tuple #[]) ny)))) Kp) :
 ae Tryz.prog 167 #[.pointer (some ⟨b0, o0, none⟩), .int .i64 x1, .pointer (some ⟨b2, o2, none⟩), .agg #[.int .i64 fI, .int .i64 fJ, .int .i64 fK, .int .i64 fL]] M K Kp := vw [(1, .bH [0, 1, 3, 7, 0, 16, 63, 127, 255, 511, 1023, 1023, 1023, 2047, 12287, 32767] (sy [0, 1, 2, 4, 3, 5, 6, 7, 8, 9, 10, 11, 12, 13, 14, 15] .done)), (2000001, .loop [(37, .c (.int .i64))]), (9, .bH [0, 1, 3, 7, 0, 16, 63, 127, 255, 511, 1023, 2047] (sy [0, 1, 2, 4, 3, 5, 6, 7, 8, 9, 10, 11] .done))] Tryz.func167 h
theorem rK {b0 o0 : Nat} {x1 : Int} {b2 o2 : Nat} {fI : Int} {fJ : Int} {fK : Int} {fL : Int} (h :
aO M (cl [(iV fI), (iV fJ), (iV fK), (iV fL)] 34) fun k1 M2 =>
rI M2 k1 1 fun n3 =>
(0 ≤ n3) ∧
(n3 < 8) ∧
rI M2 b2 ((o2 + 2) + (Int.toNat n3)) fun n4 =>
aM (decide (((if (1048576 : Int) < n4 then 1048576 else n4) : Int) > 0))
 (rU M2 b0 (o0 + 5) fun n5 =>
 ae Tryz.prog 214 #[(.pointer (some ⟨b0, (o0 + 8), none⟩)), (.int .u64 (IntKind.wrap .u64 (n5 + (IntKind.wrap .u64 (if (1048576 : Int) < n4 then 1048576 else n4))))), (iV x1)] M2 (fun v6 M7 =>
 bF (some v6) .u64 fun n8 =>
 rS M7 b0 (o0 + 4) fun A9 eD eu =>
 ((0 : Int) ≤ x1) ∧
 ((x1 : Int) < eD) ∧
 aE A9 fun gF eA =>
 rP M7 gF (eA + (Int.toNat x1)) fun ua =>
 aE ua fun ju fq =>
 sT M7 ju fq (iV 3) fun nA =>
 K (.tuple #[]) nA) Kp)
 (K (.tuple #[]) M2)) :
 ae Tryz.prog 168 #[.pointer (some ⟨b0, o0, none⟩), .int .i64 x1, .pointer (some ⟨b2, o2, none⟩), .agg #[.int .i64 fI, .int .i64 fJ, .int .i64 fK, .int .i64 fL]] M K Kp := vw [(1, .bH [0, 0, 2, 1, 9, 31, 63, 127, 255] (sy [0, 1, 3, 4, 2, 5, 6, 7, 8] .done)), (3, .bH [0, 1, 3, 0, 8, 24, 56, 0, 128, 504, 0, 2047] (sy [0, 1, 2, 3, 4, 5, 7, 8, 10, 6, 9, 11] .done))] Tryz.func168 h
theorem uw {b0 o0 : Nat} {x1 : Int} {b2 o2 : Nat} {fI : Int} {fJ : Int} {fK : Int} {fL : Int} (h :
aO M (cl [(iV fI), (iV fJ), (iV fK), (iV fL)] 34) fun k1 M2 =>
rS M2 b0 (o0 + 7) fun A3 k4 k5 =>
rI M2 k1 1 fun n6 =>
(0 ≤ n6) ∧
(n6 < k4) ∧
aE A3 fun k7 k8 =>
rP M2 k7 (k8 + (Int.toNat n6)) fun A9 =>
ae Tryz.prog 215 #[(.pointer A9), (iV x1)] M2 (fun v10 iL =>
dG (some v10) fun t12 =>
aM (!t12)
 (rI iL k1 0 fun mY =>
 rI iL k1 1 fun jA =>
 rI iL k1 2 fun kX =>
 rI iL k1 3 fun nZ =>
 ae Tryz.prog 158 #[(.pointer (some ⟨b0, o0, none⟩)), (iV x1), (.agg #[(iV mY), (iV jA), (iV kX), (iV nZ)])] iL (fun Sx mq =>
 (Sx = (.tuple #[])) ∧
 K (.tuple #[]) mq) Kp)
 (K (.tuple #[]) iL)) Kp) :
 ae Tryz.prog 169 #[.pointer (some ⟨b0, o0, none⟩), .int .i64 x1, .pointer (some ⟨b2, o2, none⟩), .agg #[.int .i64 fI, .int .i64 fJ, .int .i64 fK, .int .i64 fL]] M K Kp := vw [(1, .bH [0, 1, 3, 7, 0, 16, 63, 127, 0, 511, 1023] (sy [0, 1, 2, 4, 8, 3, 5, 6, 7, 9, 10] .done))] Tryz.func169 h
theorem qw {b0 o0 : Nat} {x1 : Int} {b2 o2 : Nat} {fI : Int} {fJ : Int} {fK : Int} {fL : Int} (h :
aO M (cl [(iV fI), (iV fJ), (iV fK), (iV fL)] 34) fun k1 M2 =>
rS M2 b0 (o0 + 7) fun A3 k4 k5 =>
rI M2 k1 1 fun n6 =>
(0 ≤ n6) ∧
(n6 < k4) ∧
aE A3 fun k7 k8 =>
rP M2 k7 (k8 + (Int.toNat n6)) fun A9 =>
ae Tryz.prog 216 #[(.pointer A9), (iV x1)] M2 (fun v10 iL =>
∃ gZ mY : Int, (v10 = (.tuple #[(iV gZ), (iV mY)])) ∧
aM (mY != 0)
 (Kp [{ v := (.iface 256 (iV (-3))), recovered := false }] iL)
 (aM (gZ != (-1))
 (ae Tryz.prog 90 #[(.pointer (some ⟨b0, o0, none⟩)), (iV gZ)] iL (fun WD Fo =>
 (WD = (.tuple #[])) ∧
 K (.tuple #[]) Fo) Kp)
 (K (.tuple #[]) iL))) Kp) :
 ae Tryz.prog 170 #[.pointer (some ⟨b0, o0, none⟩), .int .i64 x1, .pointer (some ⟨b2, o2, none⟩), .agg #[.int .i64 fI, .int .i64 fJ, .int .i64 fK, .int .i64 fL]] M K Kp := vw [(1, .bH [0, 1, 3, 7, 0, 16, 63, 127, 0, 511, 1023, 2047, 2047, 4095, 16383] (sy [0, 1, 2, 4, 8, 3, 5, 6, 7, 9, 10, 11, 12, 13, 14] .done))] Tryz.func170 h
theorem ux {b0 o0 : Nat} {x1 : Int} {b2 o2 : Nat} {fI : Int} {fJ : Int} {fK : Int} {fL : Int} (h :
aO M (cl [(iV fI), (iV fJ), (iV fK), (iV fL)] 34) fun k1 M2 =>
rS M2 b0 (o0 + 10) fun A3 k4 k5 =>
aM (decide ((k4 : Int) ≥ 1000))
 (Kp [{ v := (.iface 256 (iV (-6))), recovered := false }] M2)
 (rS M2 b0 (o0 + 10) fun A6 k7 k8 =>
 rI M2 k1 1 fun n9 =>
 (0 ≤ n9) ∧
 (n9 < 8) ∧
 rI M2 b2 ((o2 + 2) + (Int.toNat n9)) fun dI =>
 aO M2 (cl [(iV dI)] 2) fun eu wm =>
 aA 59 A6 k7 k8 (some ⟨eu, 0, none⟩) 1 1 wm (fun JT qh =>
 aF (some JT) fun oQ fq fO =>
 sT qh b0 (o0 + 10) (.slice oQ fq fO) fun mq =>
 K (.tuple #[]) mq) Kp)) :
 ae Tryz.prog 171 #[.pointer (some ⟨b0, o0, none⟩), .int .i64 x1, .pointer (some ⟨b2, o2, none⟩), .agg #[.int .i64 fI, .int .i64 fJ, .int .i64 fK, .int .i64 fL]] M K Kp := vw [(3, .bH [0, 0, 2, 6, 14, 0, 0, 64, 32, 288, 992, 2016, 4064, 8190, 16383, 32767, 65535] (sy [0, 1, 2, 3, 5, 6, 8, 9, 4, 7, 10, 11, 12, 13, 14, 15, 16] .done))] Tryz.func171 h
theorem uy {b0 o0 : Nat} {x1 : Int} {b2 o2 : Nat} {fI : Int} {fJ : Int} {fK : Int} {fL : Int} (h :
aO M (cl [(iV fI), (iV fJ), (iV fK), (iV fL)] 34) fun k1 M2 =>
rI M2 k1 1 fun n3 =>
Kp [{ v := (.iface 256 (iV n3)), recovered := false }] M2) :
 ae Tryz.prog 172 #[.pointer (some ⟨b0, o0, none⟩), .int .i64 x1, .pointer (some ⟨b2, o2, none⟩), .agg #[.int .i64 fI, .int .i64 fJ, .int .i64 fK, .int .i64 fL]] M K Kp := vw [] Tryz.func172 h
theorem w7 {b0 o0 : Nat} {x1 : Int} {x2 : Int} (h :
aF (Mem.ld M ⟨b0, o0, none⟩) fun A1 k2 k3 =>
aF (Mem.ld M ⟨b0, o0, none⟩) fun A4 k5 k6 =>
aF (Mem.ld M ⟨b0, o0, none⟩) fun A7 k8 k9 =>
((0 : Int) ≤ x2) ∧
((x2 : Int) < ((k8 : Nat) : Int)) ∧
aE A7 fun eD eu =>
bF (Mem.ld M ⟨eD, (eu + ((Int.toNat x2) * 3)), none⟩) .u64 fun gZ =>
bF (Mem.ld M ⟨eD, ((eu + ((Int.toNat x2) * 3)) + 1), none⟩) .u64 fun mY =>
bF (Mem.ld M ⟨eD, ((eu + ((Int.toNat x2) * 3)) + 2), none⟩) .i64 fun jA =>
aF (Mem.ld M ⟨b0, o0, none⟩) fun oQ fq fO =>
((0 : Int) ≤ x1) ∧
((x1 : Int) < ((fq : Nat) : Int)) ∧
aE oQ fun fm jC =>
bF (Mem.ld M ⟨fm, (jC + ((Int.toNat x1) * 3)), none⟩) .u64 fun gC =>
bF (Mem.ld M ⟨fm, ((jC + ((Int.toNat x1) * 3)) + 1), none⟩) .u64 fun u0 =>
bF (Mem.ld M ⟨fm, ((jC + ((Int.toNat x1) * 3)) + 2), none⟩) .i64 fun wP =>
((0 : Int) ≤ x1) ∧
((x1 : Int) < ((k2 : Nat) : Int)) ∧
aE A1 fun gI nM =>
b7 M ⟨gI, (nM + ((Int.toNat x1) * 3)), none⟩ (.int .u64 gZ) fun qk =>
b7 qk ⟨gI, ((nM + ((Int.toNat x1) * 3)) + 1), none⟩ (.int .u64 mY) fun xO =>
b7 xO ⟨gI, ((nM + ((Int.toNat x1) * 3)) + 2), none⟩ (.int .i64 jA) fun mZ =>
((0 : Int) ≤ x2) ∧
((x2 : Int) < ((k5 : Nat) : Int)) ∧
aE A4 fun gS gi =>
b7 mZ ⟨gS, (gi + ((Int.toNat x2) * 3)), none⟩ (.int .u64 gC) fun wj =>
b7 wj ⟨gS, ((gi + ((Int.toNat x2) * 3)) + 1), none⟩ (.int .u64 u0) fun ud =>
b7 ud ⟨gS, ((gi + ((Int.toNat x2) * 3)) + 2), none⟩ (.int .i64 wP) fun mJ =>
K (.tuple #[]) mJ) :
 ae Tryz.prog 136 ([.pointer (some ⟨b0, o0, none⟩), .int .i64 x1, .int .i64 x2] : List Value).toArray M K Kp :=
 eZ (C := Cx) good [(0, .bH [0, 1, 3, 7, 0, 0, 32, 96, 224, 0, 0, 1024, 3072, 7168, 0, 31744, 64512, 0, 131072, 393216, 917504, 0, 4063232, 8257536, 16776703, 33553919, 67108863, 134217727] (.step 0 (.step 1 (.step 2 (.step 4 (.step 5 (.step 6 (.step 7 (.step 9 (.step 10 (.step 11 (.step 12 (.step 14 (.step 17 (.step 18 (.step 19 (.step 21 (.step 3 (.step 8 (.step 13 (.step 15 (.step 16 (.step 20 (.step 22 (.step 23 (.step 24 (.step 25 (.step 26 (.step 27 .done)))))))))))))))))))))))))))))] Tryz.func136 (by kernel_rfl) (by kernel_rfl) h
theorem w8 {b0 o0 : Nat} {x1 : Int} (h :
ae Tryz.prog 185 #[(.pointer (some ⟨b0, o0, none⟩)), (iV x1)] M (fun v1 M2 =>
bF (some v1) .i64 fun n3 =>
∃ I4 : IT, (∃ k5, I4 k5 [(iV x1), (iV n3)] M2) ∧
∀ (k6 : Nat) (_ : Nat → Value) (n8 : Int) (n9 : Int) (mO : Mem), (I4 k6 [(iV n8), (iV n9)] mO) → aM (n9 != n8)
 (ae Tryz.prog 136 #[(.pointer (some ⟨b0, o0, none⟩)), (iV n8), (iV n9)] mO (fun v11 wm =>
 (v11 = (.tuple #[])) ∧
 ae Tryz.prog 185 #[(.pointer (some ⟨b0, o0, none⟩)), (iV n9)] wm (fun JT qh =>
 bF (some JT) .i64 fun kX =>
 ∃ fq : Nat, (fq < k6) ∧
 I4 fq [(iV n9), (iV kX)] qh) Kp) Kp)
 (K (.tuple #[]) mO)) Kp) :
 ae Tryz.prog 137 #[.pointer (some ⟨b0, o0, none⟩), .int .i64 x1] M K Kp := vw [(2000000, .loop [(1, .c (.int .i64)), (4, .c (.int .i64))])] Tryz.func137 h
theorem z5 {b0 o0 : Nat} {x1 : Int} (h :
∃ I1 : Nat → List Value → Mem → Prop, (∃ k2 : Nat, I1 k2 [(.int .i64 x1)] M) ∧
∀ k3 : Nat, ∀ Ze : Nat → Value, ∀ n5 : Int, ∀ M6 : Mem, (I1 k3 [(.int .i64 n5)] M6) → aM (decide ((n5 : Int) > 0))
 (((4 : Int) ≠ 0) ∧
 aF (Mem.ld M6 ⟨b0, o0, none⟩) fun A7 k8 k9 =>
 ((0 : Int) ≤ n5) ∧
 ((n5 : Int) < ((k8 : Nat) : Int)) ∧
 aE A7 fun eD eu =>
 bF (Mem.ld M6 ⟨eD, (eu + ((Int.toNat n5) * 3)), none⟩) .u64 fun gZ =>
 bF (Mem.ld M6 ⟨eD, ((eu + ((Int.toNat n5) * 3)) + 1), none⟩) .u64 fun mY =>
 bF (Mem.ld M6 ⟨eD, ((eu + ((Int.toNat n5) * 3)) + 2), none⟩) .i64 fun jA =>
 aF (Mem.ld M6 ⟨b0, o0, none⟩) fun oQ fq fO =>
 ((0 : Int) ≤ (IntKind.wrap .i64 (Int.tdiv (IntKind.wrap .i64 (n5 - 1)) 4))) ∧
 (((IntKind.wrap .i64 (Int.tdiv (IntKind.wrap .i64 (n5 - 1)) 4)) : Int) < ((fq : Nat) : Int)) ∧
 aE oQ fun fm jC =>
 bF (Mem.ld M6 ⟨fm, (jC + ((Int.toNat (IntKind.wrap .i64 (Int.tdiv (IntKind.wrap .i64 (n5 - 1)) 4))) * 3)), none⟩) .u64 fun gC =>
 bF (Mem.ld M6 ⟨fm, ((jC + ((Int.toNat (IntKind.wrap .i64 (Int.tdiv (IntKind.wrap .i64 (n5 - 1)) 4))) * 3)) + 1), none⟩) .u64 fun u0 =>
 bF (Mem.ld M6 ⟨fm, ((jC + ((Int.toNat (IntKind.wrap .i64 (Int.tdiv (IntKind.wrap .i64 (n5 - 1)) 4))) * 3)) + 2), none⟩) .i64 fun wP =>
 ae Tryz.prog 186 #[(.agg #[(.int .u64 gZ), (.int .u64 mY), (.int .i64 jA)]), (.agg #[(.int .u64 gC), (.int .u64 u0), (.int .i64 wP)])] M6 (fun v23 ny =>
 dG (some v23) fun t25 =>
 aM t25
  (((4 : Int) ≠ 0) ∧
  ae Tryz.prog 136 #[(.pointer (some ⟨b0, o0, none⟩)), (.int .i64 n5), (.int .i64 (IntKind.wrap .i64 (Int.tdiv (IntKind.wrap .i64 (n5 - 1)) 4)))] ny (fun v26 mZ =>
  (v26 = (.tuple #[])) ∧
  ((4 : Int) ≠ 0) ∧
  ∃ gS : Nat, (gS < k3) ∧
  I1 gS [(.int .i64 (IntKind.wrap .i64 (Int.tdiv (IntKind.wrap .i64 (n5 - 1)) 4)))] mZ) Kp)
  (K (.tuple #[]) ny)) Kp)
 (K (.tuple #[]) M6)) :
 ae Tryz.prog 138 ([.pointer (some ⟨b0, o0, none⟩), .int .i64 x1] : List Value).toArray M K Kp :=
 eZ (C := Cx) good [(2000000, .loop [(1, .c (.int .i64))]), (0, .bH [0, 1, 3, 7, 15, 31, 63, 7, 255, 511, 7, 1031, 3079, 7175, 7, 16391, 49159, 130055, 261127, 524287, 1048575] (.step 0 (.step 1 (.step 2 (.step 3 (.step 4 (.step 5 (.step 7 (.step 10 (.step 11 (.step 12 (.step 14 (.step 15 (.step 16 (.step 6 (.step 8 (.step 9 (.step 13 (.step 17 (.step 18 (.step 19 (.step 20 .done))))))))))))))))))))))] Tryz.func138 (by kernel_rfl) (by kernel_rfl) h
theorem vG {b0 o0 : Nat} {dS : Int} {eE : Int} {eF : Int} {g7 : Int} (h :
aO M (cl [(iV dS), (iV eE), (iV eF), (iV g7)] 34) fun k1 M2 =>
K (.tuple #[]) M2) :
 ae Tryz.prog 195 #[.pointer (some ⟨b0, o0, none⟩), .agg #[.int .i64 dS, .int .i64 eE, .int .i64 eF, .int .i64 g7]] M K Kp := vw [] Tryz.func195 h
theorem ou {b0 o0 : Nat} {dS : Int} {eE : Int} {eF : Int} {g7 : Int} (h :
aO M (cl [(iV dS), (iV eE), (iV eF), (iV g7)] 34) fun k1 M2 =>
rI M2 k1 1 fun n3 =>
rI M2 k1 2 fun n4 =>
(0 ≤ n3) ∧
(n3 < 8) ∧
sT M2 b0 ((o0 + 2) + (Int.toNat n3)) (iV n4) fun M5 =>
K (.tuple #[]) M5) :
 ae Tryz.prog 196 #[.pointer (some ⟨b0, o0, none⟩), .agg #[.int .i64 dS, .int .i64 eE, .int .i64 eF, .int .i64 g7]] M K Kp := vw [(1, .bH [0, 0, 2, 0, 8, 1, 33, 127, 255] (sy [0, 1, 3, 5, 6, 2, 4, 7, 8] .done))] Tryz.func196 h
theorem uz {b0 o0 : Nat} {dS : Int} {eE : Int} {eF : Int} {g7 : Int} (h :
aO M (cl [(iV dS), (iV eE), (iV eF), (iV g7)] 34) fun k1 M2 =>
rI M2 k1 1 fun n3 =>
rI M2 k1 2 fun n4 =>
(0 ≤ n4) ∧
(n4 < 8) ∧
rI M2 b0 ((o0 + 2) + (Int.toNat n4)) fun n5 =>
(0 ≤ n3) ∧
(n3 < 8) ∧
sT M2 b0 ((o0 + 2) + (Int.toNat n3)) (iV n5) fun M6 =>
K (.tuple #[]) M6) :
 ae Tryz.prog 197 #[.pointer (some ⟨b0, o0, none⟩), .agg #[.int .i64 dS, .int .i64 eE, .int .i64 eF, .int .i64 g7]] M K Kp := vw [(1, .bH [0, 0, 2, 0, 0, 16, 8, 72, 248, 504, 1, 1025, 4095, 8191] (sy [0, 1, 3, 4, 6, 7, 10, 11, 2, 5, 8, 9, 12, 13] .done))] Tryz.func197 h
theorem vH {b0 o0 : Nat} {dS : Int} {eE : Int} {eF : Int} {g7 : Int} (h :
aO M (cl [(iV dS), (iV eE), (iV eF), (iV g7)] 34) fun k1 M2 =>
rI M2 k1 1 fun n3 =>
rI M2 k1 2 fun n4 =>
(0 ≤ n4) ∧
(n4 < 8) ∧
rI M2 b0 ((o0 + 2) + (Int.toNat n4)) fun n5 =>
rI M2 k1 3 fun n6 =>
(0 ≤ n6) ∧
(n6 < 8) ∧
rI M2 b0 ((o0 + 2) + (Int.toNat n6)) fun n7 =>
(0 ≤ n3) ∧
(n3 < 8) ∧
sT M2 b0 ((o0 + 2) + (Int.toNat n3)) (iV (IntKind.wrap .i64 (n5 + n7))) fun M8 =>
K (.tuple #[]) M8) :
 ae Tryz.prog 198 #[.pointer (some ⟨b0, o0, none⟩), .agg #[.int .i64 dS, .int .i64 eE, .int .i64 eF, .int .i64 g7]] M K Kp := vw [(1, .bH [0, 0, 2, 0, 0, 16, 8, 72, 248, 504, 0, 0, 2048, 1024, 9216, 31744, 64512, 131064, 1, 262145, 1048575, 2097151] (sy [0, 1, 3, 4, 6, 7, 10, 11, 13, 14, 18, 19, 2, 5, 8, 9, 12, 15, 16, 17, 20, 21] .done))] Tryz.func198 h
theorem vI {b0 o0 : Nat} {dS : Int} {eE : Int} {eF : Int} {g7 : Int} (h :
aO M (cl [(iV dS), (iV eE), (iV eF), (iV g7)] 34) fun k1 M2 =>
rI M2 k1 1 fun n3 =>
rI M2 k1 2 fun n4 =>
(0 ≤ n4) ∧
(n4 < 8) ∧
rI M2 b0 ((o0 + 2) + (Int.toNat n4)) fun n5 =>
rI M2 k1 3 fun n6 =>
(0 ≤ n6) ∧
(n6 < 8) ∧
rI M2 b0 ((o0 + 2) + (Int.toNat n6)) fun n7 =>
(0 ≤ n3) ∧
(n3 < 8) ∧
sT M2 b0 ((o0 + 2) + (Int.toNat n3)) (iV (IntKind.wrap .i64 (n5 - n7))) fun M8 =>
K (.tuple #[]) M8) :
 ae Tryz.prog 199 #[.pointer (some ⟨b0, o0, none⟩), .agg #[.int .i64 dS, .int .i64 eE, .int .i64 eF, .int .i64 g7]] M K Kp := vw [(1, .bH [0, 0, 2, 0, 0, 16, 8, 72, 248, 504, 0, 0, 2048, 1024, 9216, 31744, 64512, 131064, 1, 262145, 1048575, 2097151] (sy [0, 1, 3, 4, 6, 7, 10, 11, 13, 14, 18, 19, 2, 5, 8, 9, 12, 15, 16, 17, 20, 21] .done))] Tryz.func199 h
theorem vJ {b0 o0 : Nat} {dS : Int} {eE : Int} {eF : Int} {g7 : Int} (h :
aO M (cl [(iV dS), (iV eE), (iV eF), (iV g7)] 34) fun k1 M2 =>
rI M2 k1 1 fun n3 =>
rI M2 k1 2 fun n4 =>
(0 ≤ n4) ∧
(n4 < 8) ∧
rI M2 b0 ((o0 + 2) + (Int.toNat n4)) fun n5 =>
rI M2 k1 3 fun n6 =>
(0 ≤ n6) ∧
(n6 < 8) ∧
rI M2 b0 ((o0 + 2) + (Int.toNat n6)) fun n7 =>
(0 ≤ n3) ∧
(n3 < 8) ∧
sT M2 b0 ((o0 + 2) + (Int.toNat n3)) (iV (IntKind.wrap .i64 (n5 * n7))) fun M8 =>
K (.tuple #[]) M8) :
 ae Tryz.prog 200 #[.pointer (some ⟨b0, o0, none⟩), .agg #[.int .i64 dS, .int .i64 eE, .int .i64 eF, .int .i64 g7]] M K Kp := vw [(1, .bH [0, 0, 2, 0, 0, 16, 8, 72, 248, 504, 0, 0, 2048, 1024, 9216, 31744, 64512, 131064, 1, 262145, 1048575, 2097151] (sy [0, 1, 3, 4, 6, 7, 10, 11, 13, 14, 18, 19, 2, 5, 8, 9, 12, 15, 16, 17, 20, 21] .done))] Tryz.func200 h
theorem uA {b0 o0 : Nat} {dS : Int} {eE : Int} {eF : Int} {g7 : Int} (h :
aO M (cl [(iV dS), (iV eE), (iV eF), (iV g7)] 34) fun k1 M2 =>
rI M2 k1 2 fun n3 =>
(0 ≤ n3) ∧
(n3 < 8) ∧
rI M2 b0 ((o0 + 2) + (Int.toNat n3)) fun n4 =>
rI M2 k1 3 fun n5 =>
(0 ≤ n5) ∧
(n5 < 8) ∧
rI M2 b0 ((o0 + 2) + (Int.toNat n5)) fun n6 =>
rI M2 k1 1 fun n7 =>
(0 ≤ n7) ∧
(n7 < 8) ∧
sT M2 b0 ((o0 + 2) + (Int.toNat n7)) (iV 0) fun M8 =>
aM (decide (n4 < n6))
 (rI M8 k1 1 fun n9 =>
 (0 ≤ n9) ∧
 (n9 < 8) ∧
 sT M8 b0 ((o0 + 2) + (Int.toNat n9)) (iV 1) fun mO =>
 K (.tuple #[]) mO)
 (K (.tuple #[]) M8)) :
 ae Tryz.prog 201 #[.pointer (some ⟨b0, o0, none⟩), .agg #[.int .i64 dS, .int .i64 eE, .int .i64 eF, .int .i64 g7]] M K Kp := vw [(1, .bH [0, 0, 2, 1, 9, 31, 63, 0, 0, 256, 128, 1152, 3968, 8064, 16383, 32767] (sy [0, 1, 3, 4, 7, 8, 10, 11, 2, 5, 6, 9, 12, 13, 14, 15] .done)), (2, .bH [0, 0, 2, 1, 9, 31, 63] (sy [0, 1, 3, 4, 2, 5, 6] .done)), (4, .bH [0, 0, 2, 1, 9, 31, 63] (sy [0, 1, 3, 4, 2, 5, 6] .done))] Tryz.func201 h
theorem uB {b0 o0 : Nat} {dS : Int} {eE : Int} {eF : Int} {g7 : Int} (h :
aO M (cl [(iV dS), (iV eE), (iV eF), (iV g7)] 34) fun k1 M2 =>
rI M2 k1 1 fun n3 =>
sT M2 b0 (o0 + 1) (iV n3) fun M4 =>
K (.tuple #[]) M4) :
 ae Tryz.prog 202 #[.pointer (some ⟨b0, o0, none⟩), .agg #[.int .i64 dS, .int .i64 eE, .int .i64 eF, .int .i64 g7]] M K Kp := vw [] Tryz.func202 h
theorem qx {b0 o0 : Nat} {dS : Int} {eE : Int} {eF : Int} {g7 : Int} (h :
aO M (cl [(iV dS), (iV eE), (iV eF), (iV g7)] 34) fun k1 M2 =>
rI M2 k1 1 fun n3 =>
(0 ≤ n3) ∧
(n3 < 8) ∧
rI M2 b0 ((o0 + 2) + (Int.toNat n3)) fun n4 =>
aM (n4 != 0)
 (rI M2 k1 2 fun n5 =>
 sT M2 b0 (o0 + 1) (iV n5) fun M6 =>
 K (.tuple #[]) M6)
 (K (.tuple #[]) M2)) :
 ae Tryz.prog 203 #[.pointer (some ⟨b0, o0, none⟩), .agg #[.int .i64 dS, .int .i64 eE, .int .i64 eF, .int .i64 g7]] M K Kp := vw [(1, .bH [0, 0, 2, 1, 9, 31, 63, 127] (sy [0, 1, 3, 4, 2, 5, 6, 7] .done))] Tryz.func203 h
theorem ov {b0 o0 : Nat} {dS : Int} {eE : Int} {eF : Int} {x2 : Int} (h :
aO M (cl [(iV dS), (iV eE), (iV eF)] 298) fun k1 M2 =>
rS M2 b0 (o0 + 4) fun A3 k4 k5 =>
rI M2 k1 0 fun n6 =>
(0 ≤ n6) ∧
(n6 < k4) ∧
aE A3 fun k7 k8 =>
rP M2 k7 (k8 + (Int.toNat n6)) fun A9 =>
aE A9 fun eD eu =>
rS M2 eD (eu + 1) fun mX eA fz =>
rS M2 b0 (o0 + 4) fun oQ fq fO =>
rI M2 k1 0 fun kM =>
(0 ≤ kM) ∧
(kM < fq) ∧
aE oQ fun jC fQ =>
rP M2 jC (fQ + (Int.toNat kM)) fun CM =>
aE CM fun gf gI =>
bO M2 gf (gI + 2) fun pY yq H9 KN =>
(True) ∧
ae Tryz.prog 120 #[(.slice mX eA fz)] M2 (fun O8 pz =>
dP (some O8) fun yp =>
((Mem.fT pz ⟨gf, (gI + 2), none⟩ 0 4) = some [(iV pY), (iV yq), (iV H9), (iV KN)]) ∧
((Mem.ld pz ⟨jC, (fQ + (Int.toNat kM)), none⟩) = (some (.pointer CM))) ∧
eI pz k1 0 kM ∧
((Mem.ld pz ⟨b0, (o0 + 4), none⟩) = (some (.slice oQ fq fO))) ∧
aE yp fun iH ie =>
aO pz yg fun lg qI =>
mh qI lg (iV pY) (iV yq) (iV H9) (iV KN) fun lj =>
((Mem.fT lj ⟨gf, (gI + 2), none⟩ 0 4) = some [(iV pY), (iV yq), (iV H9), (iV KN)]) ∧
((Mem.ld lj ⟨jC, (fQ + (Int.toNat kM)), none⟩) = (some (.pointer CM))) ∧
eI lj k1 0 kM ∧
((Mem.ld lj ⟨b0, (o0 + 4), none⟩) = (some (.slice oQ fq fO))) ∧
rI lj lg 0 fun yl =>
aM (yl == 16)
 (rS lj b0 (o0 + 3) fun A40 mP jO =>
 rI lj lg 1 fun xL =>
 rI lj k1 1 fun yA =>
 ((0 : Int) ≤ (IntKind.wrap .i64 (xL + yA))) ∧
 (((IntKind.wrap .i64 (xL + yA)) : Int) < (mP : Int)) ∧
 aE A40 fun zq mV =>
 rI lj zq ((mV + ((Int.toNat (IntKind.wrap .i64 (xL + yA))) * 3)) + 2) fun CX =>
 rI lj k1 2 fun Fw =>
 (0 ≤ CX) ∧
 (CX < 8) ∧
 sT lj iH ((ie + 2) + (Int.toNat CX)) (iV Fw) fun wQ =>
 rII wQ k1 0 fun Ft CN =>
 ae Tryz.prog 223 #[(.pointer (some ⟨b0, o0, none⟩)), (iV Ft), (iV CN)] wQ (fun WE K4 =>
 (WE = (.tuple #[])) ∧
 rI K4 k1 0 fun vz =>
 ae Tryz.prog 90 #[(.pointer (some ⟨b0, o0, none⟩)), (iV vz)] K4 (fun KI JX =>
 (KI = (.tuple #[])) ∧
 K (.tuple #[]) JX) Kp) Kp)
 (rI lj lg 2 fun WG =>
 rI lj k1 2 fun CW =>
 (0 ≤ WG) ∧
 (WG < 8) ∧
 rI lj lg 3 fun HU =>
 sT lj iH ((ie + 2) + (Int.toNat WG)) (iV CW) fun QI =>
 eI QI lg 3 HU ∧
 (0 ≤ HU) ∧
 (HU < 8) ∧
 sT QI iH ((ie + 2) + (Int.toNat HU)) (iV x2) fun zV =>
 eI zV lg 3 HU ∧
 rI zV k1 0 fun n62 =>
 ae Tryz.prog 90 #[(.pointer (some ⟨b0, o0, none⟩)), (iV n62)] zV (fun BA qJ =>
 (BA = (.tuple #[])) ∧
 K (.tuple #[]) qJ) Kp)) Kp) :
 ae Tryz.prog 208 #[.pointer (some ⟨b0, o0, none⟩), .agg #[.int .i64 dS, .int .i64 eE, .int .i64 eF], .int .i64 x2] M K Kp := vw [(1, .bH [0, 1, 3, 7, 0, 16, 63, 127, 255, 511, 1023, 0, 2048, 6144, 14336, 0, 32768, 129024, 260096, 522240, 1046528, 2095104, 4192256, 8386560, 16775168, 0, 41943039, 134217727] (sy [0, 1, 2, 4, 11, 12, 13, 15, 14, 16, 17, 18, 19, 20, 21] (.cQ 3 (.cQ 5 (sy [6] (.cQ 7 (sy [8, 9] (.cQ 10 (.late 22 (sy [23, 24, 25, 26, 27] .done)))))))))), (3, .bH [0, 0, 2, 6, 14, 30, 0, 64, 0, 256, 960, 2046, 4094, 8190, 0, 16384, 1, 131071, 262143] (sy [0, 1, 2, 3, 4, 6, 8, 14, 16, 5, 7, 9, 10, 11, 12, 13, 15, 17, 18] .done)), (5, .bH [0, 0, 2, 0, 0, 16, 0, 64, 0, 1, 711, 1735, 8, 8191, 16383] (sy [0, 1, 3, 4, 6, 8, 9, 12, 2, 7, 10] (.cQ 5 (sy [11, 13, 14] .done))))] Tryz.func208 h
theorem uC {b0 o0 : Nat} {dS : Int} {eE : Int} {eF : Int} (h :
aO M (cl [(iV dS), (iV eE), (iV eF)] 298) fun k1 M2 =>
rS M2 b0 (o0 + 4) fun A3 k4 k5 =>
rI M2 k1 0 fun n6 =>
(0 ≤ n6) ∧
(n6 < k4) ∧
aE A3 fun k7 k8 =>
rP M2 k7 (k8 + (Int.toNat n6)) fun A9 =>
aE A9 fun eD eu =>
rI M2 eD (eu + 2) fun gZ =>
aM (gZ == 16)
 (rI M2 k1 0 fun mY =>
 rI M2 k1 1 fun jA =>
 ae Tryz.prog 223 #[(.pointer (some ⟨b0, o0, none⟩)), (iV mY), (iV jA)] M2 (fun Bu gh =>
 (Bu = (.tuple #[])) ∧
 rI gh k1 0 fun kN =>
 ae Tryz.prog 90 #[(.pointer (some ⟨b0, o0, none⟩)), (iV kN)] gh (fun Fc mW =>
 (Fc = (.tuple #[])) ∧
 K (.tuple #[]) mW) Kp) Kp)
 (rI M2 k1 0 fun gC =>
 ae Tryz.prog 90 #[(.pointer (some ⟨b0, o0, none⟩)), (iV gC)] M2 (fun Io c9 =>
 (Io = (.tuple #[])) ∧
 K (.tuple #[]) c9) Kp)) :
 ae Tryz.prog 210 #[.pointer (some ⟨b0, o0, none⟩), .agg #[.int .i64 dS, .int .i64 eE, .int .i64 eF]] M K Kp := vw [(1, .bH [0, 1, 3, 7, 0, 16, 63, 127, 255, 511, 1023, 2047, 4095] (sy [0, 1, 2, 4, 3, 5, 6, 7, 8, 9, 10, 11, 12] .done))] Tryz.func210 h
theorem uD {B0 : Option Addr} {m0 c0 : Nat} {x1 : Int} {x2 : Int} {x3 : Int} (h :
aM (decide ((m0 : Int) ≥ 16))
 (K (.tuple #[(.slice B0 m0 c0), (.bool false)]) M)
 (((0 : Int) ≤ m0) ∧
 ((m0 : Int) ≤ c0) ∧
 ((0 : Int) ≤ m0) ∧
 ((m0 : Int) ≤ m0) ∧
 ((0 : Int) ≤ 0) ∧
 ((0 : Int) ≤ m0) ∧
 aO M (cl [(iV x1), (iV 0), (iV x2), (iV 0), (iV 0), (iV 0), (iV 0), (iV 0), (iV 0), (iV 0), (iV x3)] 234) fun k1 M2 =>
 bj Tryz.prog (Go.Builtin.append_ #[179, 179] 179 #[(.slice (iZ B0 0 (Int.toNat (m0 : Int)) 11) ((Int.toNat (m0 : Int)) - 0) ((Int.toNat (m0 : Int)) - 0)), (.slice (some ⟨k1, 0, none⟩) 1 1)]) M2 (fun v3 M4 =>
 aF (some v3) fun A5 k6 k7 =>
 K (.tuple #[(.slice A5 k6 k7), (.bool true)]) M4) Kp)) :
 ae Tryz.prog 211 #[.slice B0 m0 c0, .int .i64 x1, .int .i64 x2, .int .i64 x3] M K Kp := vw [] Tryz.func211 h
theorem qy {B0 : Option Addr} {m0 c0 : Nat} {x1 : Int} (h :
aM (decide ((m0 : Int) < 2))
 (K (.tuple #[(.slice none 0 0), (.bool false)]) M)
 (aO M (cl [] 234) fun k1 M2 =>
 ((0 : Int) ≤ c0) ∧
 ((c0 : Int) ≤ c0) ∧
 ((0 : Int) ≤ (IntKind.wrap .i64 ((m0 : Int) - 1))) ∧
 (((IntKind.wrap .i64 ((m0 : Int) - 1)) : Int) ≤ (c0 : Int)) ∧
 ((0 : Int) ≤ 0) ∧
 ((0 : Int) ≤ (IntKind.wrap .i64 ((m0 : Int) - 1))) ∧
 bj Tryz.prog (Go.Builtin.append_ #[179, 179] 179 #[(.slice (some ⟨k1, 0, none⟩) 0 0), (.slice (iZ B0 0 (Int.toNat (c0 : Int)) 11) ((Int.toNat (IntKind.wrap .i64 ((m0 : Int) - 1))) - 0) ((Int.toNat (c0 : Int)) - 0))]) M2 (fun v3 M4 =>
 aF (some v3) fun A5 k6 k7 =>
 ae Tryz.prog 120 #[(.slice A5 k6 k7)] M4 (fun v8 M9 =>
 dP (some v8) fun KH =>
 aE KH fun eu gF =>
 ae Tryz.prog 120 #[(.slice B0 m0 c0)] M9 (fun JT qh =>
 dP (some JT) fun oQ =>
 aE oQ fun fq fO =>
 rI qh fq (fO + 10) fun kM =>
 (0 ≤ kM) ∧
 (kM < 8) ∧
 sT qh eu ((gF + 2) + (Int.toNat kM)) (iV x1) fun mW =>
 K (.tuple #[(.slice A5 k6 k7), (.bool true)]) mW) Kp) Kp) Kp)) :
 ae Tryz.prog 212 #[.slice B0 m0 c0, .int .i64 x1] M K Kp := vw [(4, .bH [0, 1, 0, 7, 15, 31, 63, 0, 3, 259, 1023, 2047] (sy [0, 2, 7, 1, 8, 9, 3, 4, 5, 6, 10, 11] .done))] Tryz.func212 h
theorem w9 {b0 o0 : Nat} {x1 : Int} {x2 : Int} (h :
aF (Mem.ld M ⟨b0, o0, none⟩) fun A1 k2 k3 =>
bF (Mem.ld M ⟨b0, (o0 + 1), none⟩) .u64 fun n4 =>
aO M (.cells #[(.int .u64 x1), (.int .u64 n4), (.int .i64 x2)] 205 (0, 0)) fun k5 M6 =>
bj Tryz.prog (Go.Builtin.append_ #[65, 65] 65 #[(.slice A1 k2 k3), (.slice (some ⟨k5, 0, none⟩) 1 1)]) M6 (fun v7 M8 =>
aF (some v7) fun A9 eD eu =>
b7 M8 ⟨b0, o0, none⟩ (.slice A9 eD eu) fun wm =>
bF (Mem.ld wm ⟨b0, (o0 + 1), none⟩) .u64 fun mY =>
b7 wm ⟨b0, (o0 + 1), none⟩ (.int .u64 (IntKind.wrap .u64 (mY + 1))) fun qh =>
aF (Mem.ld qh ⟨b0, o0, none⟩) fun oQ fq fO =>
ae Tryz.prog 138 #[(.pointer (some ⟨b0, o0, none⟩)), (.int .i64 (IntKind.wrap .i64 (((fq : Nat) : Int) - 1)))] qh (fun Fc mW =>
(Fc = (.tuple #[])) ∧
bF (Mem.ld mW ⟨b0, (o0 + 1), none⟩) .u64 fun gC =>
K (.int .u64 (IntKind.wrap .u64 (gC - 1))) mW) Kp) Kp) :
 ae Tryz.prog 214 ([.pointer (some ⟨b0, o0, none⟩), .int .u64 x1, .int .i64 x2] : List Value).toArray M K Kp :=
 eZ (C := Cx) good [(1, .bH [0, 0, 2, 6, 14, 0, 0, 64, 192, 448, 0, 2016, 4064, 8190, 16383, 32767, 65535] (.step 0 (.step 1 (.step 2 (.step 3 (.step 5 (.step 6 (.step 7 (.step 8 (.step 10 (.step 4 (.step 9 (.step 11 (.step 12 (.step 13 (.step 14 (.step 15 (.step 16 .done))))))))))))))))))] Tryz.func214 (by kernel_rfl) (by kernel_rfl) h
theorem vK {b0 o0 : Nat} {x1 : Int} (h :
rI M b0 o0 fun n1 =>
aM (n1 != (-1))
 (rS M b0 (o0 + 1) fun A2 k3 k4 =>
 aO M (cl [(iV x1)] 3) fun k5 M6 =>
 aA 38 A2 k3 k4 (some ⟨k5, 0, none⟩) 1 1 M6 (fun v7 M8 =>
 aF (some v7) fun A9 eD eu =>
 sT M8 b0 (o0 + 1) (.slice A9 eD eu) fun wm =>
 K (.bool false) wm) Kp)
 (sT M b0 o0 (iV x1) fun lu =>
 K (.bool true) lu)) :
 ae Tryz.prog 215 #[.pointer (some ⟨b0, o0, none⟩), .int .i64 x1] M K Kp := vw [] Tryz.func215 h
theorem vL {b0 o0 : Nat} {x1 : Int} (h :
rI M b0 o0 fun n1 =>
aM (n1 == (-1))
 (K (.tuple #[(iV (-1)), (iV 5)]) M)
 (rI M b0 o0 fun n2 =>
 aM (n2 != x1)
 (K (.tuple #[(iV (-1)), (iV 5)]) M)
 (sT M b0 o0 (iV (-1)) fun M3 =>
 rS M3 b0 (o0 + 1) fun A4 k5 k6 =>
 aM (decide ((k5 : Int) > 0))
 (rS M3 b0 (o0 + 1) fun A7 k8 k9 =>
 ((0 : Int) ≤ 0) ∧
 ((0 : Int) < k8) ∧
 aE A7 fun eD eu =>
 rI M3 eD (eu + 0) fun gZ =>
 sT M3 b0 o0 (iV gZ) fun lu =>
 aO lu (cl [] 3) fun fz Fo =>
 rS Fo b0 (o0 + 1) fun WB fO fm =>
 ((0 : Int) ≤ fm) ∧
 ((fm : Int) ≤ fm) ∧
 ((0 : Int) ≤ fO) ∧
 ((fO : Int) ≤ fm) ∧
 ((0 : Int) ≤ 1) ∧
 ((1 : Int) ≤ fO) ∧
 bj Tryz.prog (Go.Builtin.append_ #[38, 38] 38 #[(.slice (some ⟨fz, 0, none⟩) 0 0), (.slice (iZ WB 1 (Int.toNat (fm : Int)) 1) ((Int.toNat (fO : Int)) - 1) ((Int.toNat (fm : Int)) - 1))]) Fo (fun Pj vr =>
 aF (some Pj) fun CM gf gI =>
 sT vr b0 (o0 + 1) (.slice CM gf gI) fun ny =>
 rI ny b0 o0 fun yq =>
 K (.tuple #[(iV yq), (iV 0)]) ny) Kp)
 (rI M3 b0 o0 fun H9 =>
 K (.tuple #[(iV H9), (iV 0)]) M3)))) :
 ae Tryz.prog 216 #[.pointer (some ⟨b0, o0, none⟩), .int .i64 x1] M K Kp := vw [] Tryz.func216 h
theorem vM {b0 o0 : Nat} {x1 : Int} (h :
∃ I1 : Nat → List Value → Mem → Prop, (∃ k2 : Nat, I1 k2 [(.int .i64 x1), (.int .i64 (IntKind.wrap .i64 ((IntKind.wrap .i64 (4 * x1)) + 1)))] M) ∧
∀ k3 : Nat, ∀ Ze : Nat → Value, ∀ n5 : Int, ∀ n6 : Int, ∀ M7 : Mem, (I1 k3 [(.int .i64 n5), (.int .i64 n6)] M7) → aM (decide ((n6 : Int) ≤ (IntKind.wrap .i64 ((IntKind.wrap .i64 (4 * x1)) + 4))))
 (aF (Mem.ld M7 ⟨b0, o0, none⟩) fun A8 k9 eD =>
 aM (decide ((n6 : Int) < ((k9 : Nat) : Int)))
  (aF (Mem.ld M7 ⟨b0, o0, none⟩) fun Fu gF eA =>
  ((0 : Int) ≤ n6) ∧
  ((n6 : Int) < ((gF : Nat) : Int)) ∧
  aE Fu fun fz ju =>
  bF (Mem.ld M7 ⟨fz, (ju + ((Int.toNat n6) * 3)), none⟩) .u64 fun nZ =>
  bF (Mem.ld M7 ⟨fz, ((ju + ((Int.toNat n6) * 3)) + 1), none⟩) .u64 fun kN =>
  bF (Mem.ld M7 ⟨fz, ((ju + ((Int.toNat n6) * 3)) + 2), none⟩) .i64 fun kM =>
  aF (Mem.ld M7 ⟨b0, o0, none⟩) fun G1 fQ lz =>
  ((0 : Int) ≤ n5) ∧
  ((n5 : Int) < ((fQ : Nat) : Int)) ∧
  aE G1 fun gf gI =>
  bF (Mem.ld M7 ⟨gf, (gI + ((Int.toNat n5) * 3)), none⟩) .u64 fun pY =>
  bF (Mem.ld M7 ⟨gf, ((gI + ((Int.toNat n5) * 3)) + 1), none⟩) .u64 fun yq =>
  bF (Mem.ld M7 ⟨gf, ((gI + ((Int.toNat n5) * 3)) + 2), none⟩) .i64 fun H9 =>
  ae Tryz.prog 186 #[(.agg #[(.int .u64 nZ), (.int .u64 kN), (.int .i64 kM)]), (.agg #[(.int .u64 pY), (.int .u64 yq), (.int .i64 H9)])] M7 (fun v27 CV =>
  dG (some v27) fun t29 =>
  aM t29
   (∃ jc : Nat, (jc < k3) ∧
   I1 jc [(.int .i64 n6), (.int .i64 (IntKind.wrap .i64 (n6 + 1)))] CV)
   (∃ iH : Nat, (iH < k3) ∧
   I1 iH [(.int .i64 n5), (.int .i64 (IntKind.wrap .i64 (n6 + 1)))] CV)) Kp)
  (K (.int .i64 n5) M7))
 (K (.int .i64 n5) M7)) :
 ae Tryz.prog 185 ([.pointer (some ⟨b0, o0, none⟩), .int .i64 x1] : List Value).toArray M K Kp :=
 eZ (C := Cx) good [(2000000, .loop [(5, .c (.int .i64)), (6, .c (.int .i64))]), (5, .bH [0, 1, 3, 7, 0, 31, 63, 0, 128, 384, 896, 0, 3968, 8064, 16383] (.step 0 (.step 1 (.step 2 (.step 4 (.step 7 (.step 8 (.step 9 (.step 11 (.step 3 (.step 5 (.step 6 (.step 10 (.step 12 (.step 13 (.step 14 .done))))))))))))))))] Tryz.func185 (by kernel_rfl) (by kernel_rfl) h
theorem BK {oe : Int} {wS : Int} {kO : Int} {dS : Int} {eE : Int} {eF : Int} (h :
aO M (cl [(.int .u64 oe), (.int .u64 wS), (iV kO)] 205) fun k1 M2 =>
aO M2 (cl [(.int .u64 dS), (.int .u64 eE), (iV eF)] 205) fun k3 M4 =>
rU M4 k1 0 fun n5 =>
rU M4 k3 0 fun n6 =>
aM (decide (n5 < n6))
 (K (.bool true) M4)
 (rU M4 k1 0 fun n7 =>
 rU M4 k3 0 fun n8 =>
 aM (n7 == n8)
 (rU M4 k1 1 fun n9 =>
 rU M4 k3 1 fun dI =>
 K (.bool (decide (n9 < dI))) M4)
 (K (.bool false) M4))) :
 ae Tryz.prog 186 #[.agg #[.int .u64 oe, .int .u64 wS, .int .i64 kO], .agg #[.int .u64 dS, .int .u64 eE, .int .i64 eF]] M K Kp := vw [] Tryz.func186 h
theorem qz {b0 o0 : Nat} {x1 : Int} {x2 : Int} (h :
rS M b0 (o0 + 4) fun A1 k2 k3 =>
((0 : Int) ≤ x1) ∧
((x1 : Int) < k2) ∧
aE A1 fun k4 k5 =>
rP M k4 (k5 + (Int.toNat x1)) fun A6 =>
aE A6 fun k7 k8 =>
bO M k7 (k8 + 2) fun n9 dI kY gZ =>
aO M yg fun eA qh =>
mh qh eA (iV n9) (iV dI) (iV kY) (iV gZ) fun mq =>
rS mq b0 (o0 + 4) fun G1 fQ lz =>
((0 : Int) ≤ x1) ∧
((x1 : Int) < fQ) ∧
aE G1 fun gf gI =>
rP mq gf (gI + (Int.toNat x1)) fun CK =>
aE CK fun jE gH =>
rS mq jE (gH + 1) fun BE gS gi =>
rI mq eA 3 fun w6 =>
ae Tryz.prog 120 #[(.slice BE gS gi)] mq (fun RW mJ =>
dP (some RW) fun JW =>
eI mJ eA 3 w6 ∧
aE JW fun mK ku =>
(0 ≤ w6) ∧
(w6 < 8) ∧
sT mJ mK ((ku + 2) + (Int.toNat w6)) (iV x2) fun pA =>
eI pA eA 3 w6 ∧
rS pA b0 (o0 + 6) fun z6 fB lH =>
ae Tryz.prog 225 #[(iV x1), (.slice z6 fB lH)] pA (fun Sv BF =>
(Sv = (.tuple #[])) ∧
K (.tuple #[]) BF) Kp) Kp) :
 ae Tryz.prog 223 #[.pointer (some ⟨b0, o0, none⟩), .int .i64 x1, .int .i64 x2] M K Kp := vw [(1, .bH [0, 1, 3, 7, 0, 31, 63, 127, 255, 511, 1023, 0, 2048, 0, 2047, 18431, 65535, 131071] (sy [0, 1, 2, 4, 11, 13, 3, 5, 6, 7, 8, 9] (.cQ 12 (sy [10, 14, 15, 16, 17] .done))))] Tryz.func223 h
end Go.Proofs
namespace Go.Proofs
open Go.AF
set_option maxRecDepth 100000
theorem Fx {iM : Option Addr} {iN iO : Nat} {iP : Option Addr} {iQ iR : Nat} {kO : Int} {jQ : Option Addr} {jR jS : Nat} {M : Mem} {K : Value → Mem → Prop} {Kp : List PanicEntry → Mem → Prop} (h :
aO M (cl [(.slice iM iN iO), (.slice iP iQ iR), (iV kO), (.slice jQ jR jS)] 41) fun k1 M2 =>
Bo M2 k1 0 fun A3 k4 k5 A6 k7 k8 n9 KH eu gF =>
ae Tryz.prog 71 #[(iV 0), (iV 0)] M2 (fun JT qh =>
aF (some JT) fun oQ fq fO =>
((Mem.fT qh ⟨k1, 0, none⟩ 0 4) = some [(.slice A3 k4 k5), (.slice A6 k7 k8), (iV n9), (.slice KH eu gF)]) ∧
aO qh (cl [(iV 1), (.slice oQ fq fO), (iV 0), (iV 0), (iV 0), (iV 0)] 182) fun fm mW =>
aO mW (cl [(.pointer (some ⟨fm, 0, none⟩))] 177) fun fQ jD =>
aO jD (cl [(.slice A3 k4 k5), (.slice A6 k7 k8), (iV n9), (.slice KH eu gF), (.slice (some ⟨fQ, 0, none⟩) 1 1), (.int .u64 0), (.slice none 0 0), (.slice none 0 0), (.slice none 0 0), (.int .u64 0), (.slice none 0 0), (iV 0), (iV 0), (.slice none 0 0), .nilFunc] 164) fun gf mm =>
rS mm k1 1 fun CK jE gH =>
∃ I27 : IT, (∃ gS, I27 gS [(iV 0)] mm) ∧
∀ (gi : Nat) (_ : Nat → Value) (q9 : Int) (mJ : Mem), (I27 gi [(iV q9)] mJ) → aM (decide (q9 < jE))
 ((0 ≤ q9) ∧
 (q9 < jE) ∧
 aE CK fun lg mK =>
 rI mJ lg (mK + (Int.toNat q9)) fun yz =>
 ∃ J36 : List Value → Mem → Prop, ((rS mJ gf 6 fun z6 fB lH =>
 ae Tryz.prog 72 #[(iV yz)] mJ (fun Sv BF =>
 dP (some Sv) fun Ff =>
 aO BF (cl [(.pointer Ff)] 183) fun jF qm =>
 aA 159 z6 fB lH (some ⟨jF, 0, none⟩) 1 1 qm (fun v45 VS =>
 aF (some v45) fun WH yx nC =>
 sT VS gf 6 (.slice WH yx nC) fun GX =>
 J36 [] GX) Kp) Kp) ∧
 (ae Tryz.prog 72 #[(iV yz)] mJ (fun v51 xP =>
 dP (some v51) fun A53 =>
 rS xP gf 6 fun A54 WI xM =>
 aO xP (cl [(.pointer A53)] 183) fun wU Zf =>
 aA 159 A54 WI xM (some ⟨wU, 0, none⟩) 1 1 Zf (fun K5 QI =>
 aF (some K5) fun WJ BC JZ =>
 sT QI gf 6 (.slice WJ BC JZ) fun qJ =>
 J36 [] qJ) Kp) Kp) ∧
 True) ∧
 ∀ junk65 : Nat → Value, ∀ NX : Mem, (J36 [] NX) → ∃ G2 : Nat, (G2 < gi) ∧
 I27 G2 [(iV (IntKind.wrap .i64 (q9 + 1)))] NX)
 (rI mJ k1 2 fun wW =>
 ∃ I69 : IT, (∃ D8, I69 D8 [(iV 0)] mJ) ∧
 ∀ (Fj : Nat) (_ : Nat → Value) (O6 : Int) (G4 : Mem), (I69 Fj [(iV O6)] G4) → aM (decide (O6 < wW))
 (∃ J75 : List Value → Mem → Prop, ((rS G4 gf 7 fun A76 zZ C4 =>
 ae Tryz.prog 73 #[] G4 (fun Pk VT =>
 dP (some Pk) fun Sf =>
 aO VT (cl [(.pointer Sf)] 185) fun zX M83 =>
 aA 160 A76 zZ C4 (some ⟨zX, 0, none⟩) 1 1 M83 (fun Sy Zc =>
 aF (some Sy) fun A86 KT Sz =>
 sT Zc gf 7 (.slice A86 KT Sz) fun J1 =>
 J75 [] J1) Kp) Kp) ∧
 (ae Tryz.prog 73 #[] G4 (fun Pm oa =>
 dP (some Pm) fun A92 =>
 rS oa gf 7 fun QO HZ K6 =>
 aO oa (cl [(.pointer A92)] 185) fun WK Zg =>
 aA 160 QO HZ K6 (some ⟨WK, 0, none⟩) 1 1 Zg (fun v98 M99 =>
 aF (some v98) fun Pn C7 z7 =>
 sT M99 gf 7 (.slice Pn C7 z7) fun KV =>
 J75 [] KV) Kp) Kp) ∧
 True) ∧
 ∀ junk104 : Nat → Value, ∀ M105 : Mem, (J75 [] M105) → ∃ Fl : Nat, (Fl < Fj) ∧
 I69 Fl [(iV (IntKind.wrap .i64 (O6 + 1)))] M105)
 (K (.pointer (some ⟨gf, 0, none⟩)) G4))) Kp) :
 ae Tryz.prog 36 #[.agg #[.slice iM iN iO, .slice iP iQ iR, .int .i64 kO, .slice jQ jR jS]] M K Kp := vw [(1, .bH [0, 0, 2, 6, 14, 31, 63, 127] (.cQ 0 (sy [1, 2, 3, 4, 5, 6, 7] .done))), (2000000, .loop [(16, .c (.int .i64))]), (5, .OS [0, 0, 2, 6, 14, 0, 32, 96, 254, 511, 1023, 2047] (sy [0, 1, 2, 3, 5] (.fork 4 (sy [6, 7, 8, 9, 10, 11] .done) (.fork 6 (sy [4, 7, 8, 9, 10, 11] .done) .dead))) []), (2000002, .loop [(34, .c (.int .i64))]), (9, .OS [0, 0, 2, 6, 14, 0, 32, 126, 255, 511, 1023] (sy [0, 1, 2, 3] (.fork 4 (sy [5, 6, 7, 8, 9, 10] .done) (.fork 5 (sy [4, 6, 7, 8, 9, 10] .done) .dead))) [])] Tryz.func36 h
theorem lB {b0 o0 : Nat} {x1 : Int} {u2 : Value} {M : Mem} {K : Value → Mem → Prop} {Kp : List PanicEntry → Mem → Prop} (h :
aO M (.cells #[(.bool false), (.slice none 0 0)] 120 (0, 0)) fun k1 M2 =>
aM (decide ((x1 : Int) < 0))
 (b7 M2 ⟨k1, 0, none⟩ (.bool false) fun M3 =>
 b7 M3 ⟨k1, (0 + 1), none⟩ (.slice none 0 0) fun M4 =>
 dG (Mem.ld M4 ⟨k1, 0, none⟩) fun t5 =>
 aF (Mem.ld M4 ⟨k1, (0 + 1), none⟩) fun A6 k7 k8 =>
 K (.agg #[(.bool t5), (.slice A6 k7 k8)]) M4)
 (aF (Mem.ld M2 ⟨b0, (o0 + 4), none⟩) fun A9 eD eu =>
 aM (decide ((x1 : Int) ≥ ((eD : Nat) : Int)))
  (b7 M2 ⟨k1, 0, none⟩ (.bool false) fun wm =>
  b7 wm ⟨k1, (0 + 1), none⟩ (.slice none 0 0) fun lu =>
  dG (Mem.ld lu ⟨k1, 0, none⟩) fun t14 =>
  aF (Mem.ld lu ⟨k1, (0 + 1), none⟩) fun oQ fq fO =>
  K (.agg #[(.bool t14), (.slice oQ fq fO)]) lu)
  (bF (Mem.ld M2 ⟨b0, (o0 + 11), none⟩) .i64 fun kM =>
  aM (kM != 0)
   (b7 M2 ⟨k1, 0, none⟩ (.bool false) fun mW =>
   b7 mW ⟨k1, (0 + 1), none⟩ (.slice none 0 0) fun vr =>
   dG (Mem.ld vr ⟨k1, 0, none⟩) fun t21 =>
   aF (Mem.ld vr ⟨k1, (0 + 1), none⟩) fun K2 gI nM =>
   K (.agg #[(.bool t21), (.slice K2 gI nM)]) vr)
   (aF (Mem.ld M2 ⟨b0, (o0 + 4), none⟩) fun CL gH kF =>
   ((0 : Int) ≤ x1) ∧
   ((x1 : Int) < ((gH : Nat) : Int)) ∧
   aE CL fun gS gi =>
   dP (Mem.ld M2 ⟨gS, (gi + (Int.toNat x1)), none⟩) fun yp =>
   aE yp fun iH ie =>
   bF (Mem.ld M2 ⟨iH, ie, none⟩) .i64 fun kK =>
   aM (kK != 1)
    (b7 M2 ⟨k1, 0, none⟩ (.bool false) fun qI =>
    b7 qI ⟨k1, (0 + 1), none⟩ (.slice none 0 0) fun u7 =>
    dG (Mem.ld u7 ⟨k1, 0, none⟩) fun t36 =>
    aF (Mem.ld u7 ⟨k1, (0 + 1), none⟩) fun z6 fB lH =>
    K (.agg #[(.bool t36), (.slice z6 fB lH)]) u7)
    (b7 M2 ⟨b0, (o0 + 13), none⟩ (.slice none 0 0) fun Fv =>
    DD u2 <|
    b7 Fv ⟨b0, (o0 + 14), none⟩ u2 fun BF =>
    ae Tryz.prog 88 #[(.pointer (some ⟨b0, o0, none⟩)), (.int .i64 x1)] BF (fun v42 wV =>
    dG (some v42) fun t44 =>
    aM (!t44)
     (bF (Mem.ld wV ⟨b0, (o0 + 11), none⟩) .i64 fun ue =>
     aM (ue == 0)
      (aF (Mem.ld wV ⟨b0, (o0 + 4), none⟩) fun A46 j9 yx =>
      ((0 : Int) ≤ x1) ∧
      ((x1 : Int) < ((j9 : Nat) : Int)) ∧
      aE A46 fun nC vt =>
      dP (Mem.ld wV ⟨nC, (vt + (Int.toNat x1)), none⟩) fun JU =>
      aE JU fun tv kL =>
      bF (Mem.ld wV ⟨tv, kL, none⟩) .i64 fun vz =>
      aF (Mem.ld wV ⟨b0, (o0 + 13), none⟩) fun Se xM wU =>
      b7 wV ⟨k1, 0, none⟩ (.bool (vz == 1)) fun Zf =>
      b7 Zf ⟨k1, (0 + 1), none⟩ (.slice Se xM wU) fun eM =>
      dG (Mem.ld eM ⟨k1, 0, none⟩) fun t60 =>
      aF (Mem.ld eM ⟨k1, (0 + 1), none⟩) fun WJ BC JZ =>
      K (.agg #[(.bool t60), (.slice WJ BC JZ)]) eM)
      (aF (Mem.ld wV ⟨b0, (o0 + 13), none⟩) fun A64 So HY =>
      b7 wV ⟨k1, 0, none⟩ (.bool false) fun Za =>
      b7 Za ⟨k1, (0 + 1), none⟩ (.slice A64 So HY) fun M68 =>
      dG (Mem.ld M68 ⟨k1, 0, none⟩) fun t69 =>
      aF (Mem.ld M68 ⟨k1, (0 + 1), none⟩) fun A70 Fj G3 =>
      K (.agg #[(.bool t69), (.slice A70 Fj G3)]) M68))
     (aF (Mem.ld wV ⟨b0, (o0 + 13), none⟩) fun A73 G5 Pf =>
     b7 wV ⟨k1, 0, none⟩ (.bool false) fun Ww =>
     b7 Ww ⟨k1, (0 + 1), none⟩ (.slice A73 G5 Pf) fun M77 =>
     dG (Mem.ld M77 ⟨k1, 0, none⟩) fun t78 =>
     aF (Mem.ld M77 ⟨k1, (0 + 1), none⟩) fun A79 Fk Wy =>
     K (.agg #[(.bool t78), (.slice A79 Fk Wy)]) M77)) Kp))))) :
 ae Tryz.prog 41 ([.pointer (some ⟨b0, o0, none⟩), .int .i64 x1, u2] : List Value).toArray M K Kp :=
 eZ (C := Cx) good [(5, .bH [0, 1, 3, 7, 15, 31, 63, 127, 255, 511, 1023, 2047, 4095, 8191, 1023, 32767, 65535, 131071, 262143, 524287, 1048575, 2097151, 0, 4194304, 12582912, 29360128, 67108863, 134217727] (.step 0 (.step 1 (.step 2 (.step 3 (.step 4 (.step 5 (.step 22 (.step 23 (.step 24 (.step 6 (.step 7 (.step 8 (.step 9 (.step 10 (.step 11 (.step 12 (.step 14 (.step 13 (.step 15 (.step 16 (.step 17 (.step 18 (.step 19 (.step 20 (.step 21 (.step 25 (.step 26 (.step 27 .done)))))))))))))))))))))))))))))] Tryz.func41 (by kernel_rfl) (by kernel_rfl) h
variable {M : Mem} {K : Value → Mem → Prop} {Kp : List PanicEntry → Mem → Prop}
theorem rL {b0 o0 : Nat} (h :
bF (Mem.ld M ⟨b0, (o0 + 11), none⟩) .i64 fun n1 =>
aM (n1 != 0)
 (K (.bool false) M)
 (aF (Mem.ld M ⟨b0, (o0 + 4), none⟩) fun A2 k3 k4 =>
 ∃ I5 : Nat → List Value → Mem → Prop, (∃ k6 : Nat, I5 k6 [(.int .i64 0)] M) ∧
 ∀ k7 : Nat, ∀ junk8 : Nat → Value, ∀ n9 : Int, ∀ mO : Mem, (I5 k7 [(.int .i64 n9)] mO) → aM (decide ((n9 : Int) < ((k3 : Nat) : Int)))
  (((0 : Int) ≤ n9) ∧
  ((n9 : Int) < ((k3 : Nat) : Int)) ∧
  aE A2 fun eu gF =>
  dP (Mem.ld mO ⟨eu, (gF + (Int.toNat n9)), none⟩) fun zu =>
  aE zu fun fz ju =>
  bF (Mem.ld mO ⟨fz, ju, none⟩) .i64 fun nZ =>
  aM (nZ == 1)
   (K (.bool false) mO)
   (aE zu fun fO fm =>
   bF (Mem.ld mO ⟨fO, fm, none⟩) .i64 fun nN =>
   aM (nN == 3)
    (K (.bool false) mO)
    (∃ fQ : Nat, (fQ < k7) ∧
    I5 fQ [(.int .i64 (IntKind.wrap .i64 (n9 + 1)))] mO)))
  (K (.bool true) mO))) :
 ae Tryz.prog 44 ([.pointer (some ⟨b0, o0, none⟩)] : List Value).toArray M K Kp :=
 eZ (C := Cx) good [(2000000, .loop [(15, .c (.int .i64))])] Tryz.func44 (by kernel_rfl) (by kernel_rfl) h
theorem rM {b0 o0 : Nat} (h :
rU M b0 (o0 + 5) fun n1 =>
K (.int .u64 n1) M) :
 ae Tryz.prog 81 #[.pointer (some ⟨b0, o0, none⟩)] M K Kp := vw [] Tryz.func81 h
theorem uE {b0 o0 : Nat} {x1 : Int} (h :
aM (decide ((x1 : Int) < 0))
 (K (.tuple #[(.int .i64 (-1)), (.slice none 0 0)]) M)
 (aF (Mem.ld M ⟨b0, (o0 + 7), none⟩) fun A1 k2 k3 =>
 aM (decide ((x1 : Int) ≥ ((k2 : Nat) : Int)))
  (K (.tuple #[(.int .i64 (-1)), (.slice none 0 0)]) M)
  (aF (Mem.ld M ⟨b0, (o0 + 7), none⟩) fun A4 k5 k6 =>
  ((0 : Int) ≤ x1) ∧
  ((x1 : Int) < ((k5 : Nat) : Int)) ∧
  aE A4 fun k7 k8 =>
  dP (Mem.ld M ⟨k7, (k8 + (Int.toNat x1)), none⟩) fun A9 =>
  aF (Mem.ld M ⟨b0, (o0 + 7), none⟩) fun KH eu gF =>
  ((0 : Int) ≤ x1) ∧
  ((x1 : Int) < ((eu : Nat) : Int)) ∧
  aE KH fun eA fz =>
  dP (Mem.ld M ⟨eA, (fz + (Int.toNat x1)), none⟩) fun oQ =>
  ae Tryz.prog 151 #[(.pointer A9)] M (fun Ii nA =>
  bF (some Ii) .i64 fun kM =>
  ((Mem.ld nA ⟨eA, (fz + (Int.toNat x1)), none⟩) = (some (.pointer oQ))) ∧
  ((Mem.ld nA ⟨b0, (o0 + 7), none⟩) = (some (.slice KH eu gF))) ∧
  ae Tryz.prog 152 #[(.pointer oQ)] nA (fun Pj vr =>
  aF (some Pj) fun CM gf gI =>
  ((Mem.ld vr ⟨eA, (fz + (Int.toNat x1)), none⟩) = (some (.pointer oQ))) ∧
  ((Mem.ld vr ⟨b0, (o0 + 7), none⟩) = (some (.slice KH eu gF))) ∧
  K (.tuple #[(.int .i64 kM), (.slice CM gf gI)]) vr) Kp) Kp))) :
 ae Tryz.prog 118 ([.pointer (some ⟨b0, o0, none⟩), .int .i64 x1] : List Value).toArray M K Kp :=
 eZ (C := Cx) good [(3, .bH [0, 1, 3, 7, 0, 31, 63, 127, 0, 256, 768, 1792, 0, 7936, 16128, 32767, 65535, 131071] (.step 0 (.step 1 (.step 2 (.step 4 (.step 8 (.step 9 (.step 10 (.step 12 (.step 3 (.step 5 (.step 6 (.cQ 11 (.step 13 (.cQ 14 (.step 7 (.step 15 (.step 16 (.step 17 .done)))))))))))))))))))] Tryz.func118 (by kernel_rfl) (by kernel_rfl) h
theorem uF {b0 o0 : Nat} (h :
rI M b0 o0 fun n1 =>
K (iV n1) M) :
 ae Tryz.prog 151 #[.pointer (some ⟨b0, o0, none⟩)] M K Kp := vw [] Tryz.func151 h
theorem uG {b0 o0 : Nat} (h :
aO M (cl [] 3) fun k1 M2 =>
rS M2 b0 (o0 + 1) fun A3 k4 k5 =>
aA 38 (some ⟨k1, 0, none⟩) 0 0 A3 k4 k5 M2 (fun v6 M7 =>
aF (some v6) fun A8 k9 eD =>
K (.slice A8 k9 eD) M7) Kp) :
 ae Tryz.prog 152 #[.pointer (some ⟨b0, o0, none⟩)] M K Kp := vw [] Tryz.func152 h
end Go.Proofs
namespace Go.Proofs
open Go.AF
set_option maxRecDepth 100000
variable {M : Mem} {K : Value → Mem → Prop} {Kp : List PanicEntry → Mem → Prop}
theorem uH {iM : Option Addr} {iN iO : Nat} {iP : Option Addr} {iQ iR : Nat} {kO : Int} {jQ : Option Addr} {jR jS : Nat} (h :
aO M (cl [(.slice iM iN iO), (.slice iP iQ iR), (iV kO), (.slice jQ jR jS)] 73) fun k1 M2 =>
aO M2 DY fun k3 M4 =>
rS M4 k1 1 fun A5 k6 k7 =>
rI M4 k1 2 fun n8 =>
aO M4 (cl [] 3) fun k9 mO =>
(True) ∧
aA 38 (some ⟨k9, 0, none⟩) 0 0 A5 k6 k7 mO (fun v11 wm =>
aF (some v11) fun zu fz ju =>
eI wm k1 2 n8 ∧
aO wm DY fun fq nA =>
mh nA fq (.slice none 0 0) (.slice zu fz ju) (iV n8) (.slice none 0 0) fun jD =>
eI jD k1 2 n8 ∧
rS jD k1 0 fun K2 gI nM =>
∃ I25 : IT, (∃ gH, I25 gH [(iV 0)] jD) ∧
∀ (kF : Nat) (_ : Nat → Value) (yu : Int) (wj : Mem), (I25 kF [(iV yu)] wj) → aM (decide (yu < gI))
 ((0 ≤ yu) ∧
 (yu < gI) ∧
 aE K2 fun iH ie =>
 rS wj iH (ie + (Int.toNat yu)) fun JW mK ku =>
 aO wj (cl [] 34) fun nP QG =>
 ∃ I38 : IT, (∃ lH, I38 lH [(.slice (some ⟨nP, 0, none⟩) 0 0), (iV 0)] QG) ∧
 ∀ (tY : Nat) (_ : Nat → Value) (Ff : Option Addr) (jF : Nat) (ym : Nat) (ue : Int) (VS : Mem), (I38 tY [(.slice Ff jF ym), (iV ue)] VS) → aM (decide (ue < mK))
 ((0 ≤ ue) ∧
 (ue < mK) ∧
 aE JW fun j9 yx =>
 bO VS j9 (yx + ((Int.toNat ue) * 4)) fun Pe Ft CN Sw =>
 aO VS fP fun kL O4 =>
 mh O4 kL (iV Pe) (iV Ft) (iV CN) (iV Sw) fun Zf =>
 bO Zf kL 0 fun HU vp n61 n62 =>
 aO Zf (cl [(iV HU), (iV vp), (iV n61), (iV n62)] 34) fun JZ qJ =>
 aA 31 Ff jF ym (some ⟨JZ, 0, none⟩) 1 1 qJ (fun Po NX =>
 aF (some Po) fun A67 NT VU =>
 ∃ D8 : Nat, (D8 < tY) ∧
 I38 D8 [(.slice A67 NT VU), (iV (IntKind.wrap .i64 (ue + 1)))] NX) Kp)
 (rS VS fq 0 fun Zh G3 JY =>
 aO VS (cl [(.slice Ff jF ym)] 31) fun G5 SB =>
 aA 37 Zh G3 JY (some ⟨G5, 0, none⟩) 1 1 SB (fun WL M77 =>
 aF (some WL) fun A78 NU Fk =>
 sT M77 fq 0 (.slice A78 NU Fk) fun Ip =>
 ∃ zX : Nat, (zX < kF) ∧
 I25 zX [(iV (IntKind.wrap .i64 (yu + 1)))] Ip) Kp))
 (rS wj k1 3 fun A83 WM QL =>
 ∃ I86 : IT, (∃ KT, I86 KT [(iV 0)] wj) ∧
 ∀ (Sz : Nat) (_ : Nat → Value) (zz : Int) (oa : Mem), (I86 Sz [(iV zz)] oa) → aM (decide (zz < WM))
 ((0 ≤ zz) ∧
 (zz < WM) ∧
 aE A83 fun Pa Wx =>
 eR oa Pa (Wx + ((Int.toNat zz) * 3)) fun RZ R0 Sa =>
 aO oa lT fun KQ J2 =>
 pb J2 KQ (iV RZ) (iV R0) (iV Sa) fun uc =>
 rS uc fq 3 fun A102 BL Sj =>
 eR uc KQ 0 fun BM yB yC =>
 aO uc (cl [(iV BM), (iV yB), (iV yC)] 172) fun Pc O7 =>
 aA 39 A102 BL Sj (some ⟨Pc, 0, none⟩) 1 1 O7 (fun yD M111 =>
 aF (some yD) fun SC K7 KW =>
 sT M111 fq 3 (.slice SC K7 KW) fun Pp =>
 ∃ H7 : Nat, (H7 < Sz) ∧
 I86 H7 [(iV (IntKind.wrap .i64 (zz + 1)))] Pp) Kp)
 (rS oa fq 0 fun K8 zY ir =>
 rS oa fq 1 fun A120 BB ox =>
 rI oa fq 2 fun Fy =>
 rS oa fq 3 fun A124 Iq Fz =>
 mh oa k3 (.slice K8 zY ir) (.slice A120 BB ox) (iV Fy) (.slice A124 Iq Fz) fun C8 =>
 Bo C8 k3 0 fun SD FA uI SE C9 xd xe A138 WN BN =>
 K (.agg #[(.slice SD FA uI), (.slice SE C9 xd), (iV xe), (.slice A138 WN BN)]) C8))) Kp) :
 ae Tryz.prog 29 #[.agg #[.slice iM iN iO, .slice iP iQ iR, .int .i64 kO, .slice jQ jR jS]] M K Kp := vw [(1, .bH [0, 0, 2, 7, 0, 16, 63, 0, 255] (sy [1, 4, 2] (.cQ 5 (sy [0] (.late 3 (sy [6, 7, 8] .done)))))), (2000000, .loop [(21, .c (.int .i64))]), (2000002, .loop [(6, .c .sl), (28, .c (.int .i64))]), (2000004, .loop [(55, .c (.int .i64))])] Tryz.func29 h
theorem rO {iM : Option Addr} {iN iO : Nat} {iP : Option Addr} {iQ iR : Nat} {kO : Int} {jQ : Option Addr} {jR jS : Nat} (h :
aO M (cl [(.slice iM iN iO), (.slice iP iQ iR), (iV kO), (.slice jQ jR jS)] 73) fun k1 M2 =>
aO M2 yh fun k3 M4 =>
rI M4 k1 2 fun n5 =>
ae Tryz.prog 69 #[(iV n5), (iV 4)] M4 (fun v6 M7 =>
bF (some v6) .i64 fun n8 =>
aO M7 yh fun k9 mO =>
mh mO k9 (.slice none 0 0) (.slice none 0 0) (iV n8) (.slice none 0 0) fun qh =>
∃ J15 : List Value → Mem → Prop, (∃ WO : IT, (∃ fO, WO fO [(iV 0)] qh) ∧
 ∀ (fm : Nat) (_ : Nat → Value) (gC : Int) (jD : Mem), (WO fm [(iV gC)] jD) → rS jD k1 1 fun K2 gI nM =>
 aM (decide (gC < gI))
 (aM (decide (gC < 4))
 (∃ J25 : List Value → Mem → Prop, (rS jD k1 1 fun WQ kF gS =>
 (0 ≤ gC) ∧
 (gC < kF) ∧
 aE WQ fun gi jc =>
 rI jD gi (jc + (Int.toNat gC)) fun q9 =>
 (rS jD k9 1 fun A32 lg mK =>
 ae Tryz.prog 69 #[(iV q9), (iV 4)] jD (fun v35 pA =>
 bF (some v35) .i64 fun xK =>
 aO pA (cl [(iV xK)] 3) fun fB Fi =>
 aA 38 A32 lg mK (some ⟨fB, 0, none⟩) 1 1 Fi (fun Sv BF =>
 aF (some Sv) fun Ff jF ym =>
 sT BF k9 1 (.slice Ff jF ym) fun Im =>
 J25 [] Im) Kp) Kp) ∧
 (ae Tryz.prog 69 #[(iV q9), (iV 4)] jD (fun WR wT =>
 bF (some WR) .i64 fun Fw =>
 rS wT k9 1 fun Zd vt D7 =>
 aO wT (cl [(iV Fw)] 3) fun tv K4 =>
 aA 38 Zd vt D7 (some ⟨tv, 0, none⟩) 1 1 K4 (fun WS J0 =>
 aF (some WS) fun A56 wU D2 =>
 sT J0 k9 1 (.slice A56 wU D2) fun eM =>
 J25 [] eM) Kp) Kp) ∧
 True) ∧
 ∀ junk60 : Nat → Value, ∀ zV : Mem, (J25 [] zV) → ∃ BC : Nat, (BC < fm) ∧
 WO BC [(iV (IntKind.wrap .i64 (gC + 1)))] zV)
 (J15 [] jD))
 (J15 [] jD)) ∧
∀ junk63 : Nat → Value, ∀ qJ : Mem, (J15 [] qJ) → ∃ J65 : List Value → Mem → Prop, (∃ I66 : IT, (∃ G2, I66 G2 [(iV 0)] qJ) ∧
 ∀ (NT : Nat) (_ : Nat → Value) (Ir : Int) (Da : Mem), (I66 NT [(iV Ir)] Da) → rS Da k1 3 fun A72 JY G5 =>
 aM (decide (Ir < JY))
 (aM (decide (Ir < 8))
 (rS Da k1 3 fun A75 K9 zZ =>
 (0 ≤ Ir) ∧
 (Ir < K9) ∧
 aE A75 fun C4 NU =>
 eR Da C4 (NU + ((Int.toNat Ir) * 3)) fun G0 QS VN =>
 aO Da lT fun xN Zb =>
 pb Zb xN (iV G0) (iV QS) (iV VN) fun SF =>
 rII SF xN 0 fun J3 G6 =>
 rS SF k9 1 fun A90 Sh Pa =>
 rI SF xN 2 fun Pq =>
 (True) ∧
 ae Tryz.prog 69 #[(iV J3), (iV 3)] SF (fun v94 Pr =>
 bF (some v94) .i64 fun Sa =>
 eI Pr xN 2 Pq ∧
 eS Pr k9 1 A90 Sh Pa ∧
 eI Pr xN 1 G6 ∧
 (True) ∧
 ae Tryz.prog 69 #[(iV G6), (iV (Sh : Int))] Pr (fun WT J2 =>
 bF (some WT) .i64 fun VV =>
 eI J2 xN 2 Pq ∧
 eS J2 k9 1 A90 Sh Pa ∧
 eI J2 xN 1 G6 ∧
 (True) ∧
 ae Tryz.prog 69 #[(iV Pq), (iV 8)] J2 (fun FB uc =>
 bF (some FB) .i64 fun Bw =>
 eI uc xN 2 Pq ∧
 eS uc k9 1 A90 Sh Pa ∧
 eI uc xN 1 G6 ∧
 aO uc lT fun BL yE =>
 pb yE BL (iV Sa) (iV VV) (iV Bw) fun qp =>
 eI qp xN 2 Pq ∧
 eS qp k9 1 A90 Sh Pa ∧
 eI qp xN 1 G6 ∧
 rS qp k9 1 fun A108 Fm k110 =>
 ∃ J111 : List Value → Mem → Prop, (aM ((Fm : Int) == 0)
 (sT qp BL 0 (iV 2) fun nB =>
 sT nB BL 1 (iV 0) fun WU =>
 sT WU BL 2 (iV 0) fun Pd =>
 J111 [] Pd)
 (J111 [] qp)) ∧
 ∀ junk115 : Nat → Value, ∀ Db : Mem, (J111 [] Db) → rS Db k9 3 fun K8 zY ir =>
 eR Db BL 0 fun La SG FC =>
 aO Db (cl [(iV La), (iV SG), (iV FC)] 171) fun Ps z3 =>
 aA 71 K8 zY ir (some ⟨Ps, 0, none⟩) 1 1 z3 (fun SH M126 =>
 aF (some SH) fun A127 Dc BO =>
 sT M126 k9 3 (.slice A127 Dc BO) fun C8 =>
 ∃ Dd : Nat, (Dd < NT) ∧
 I66 Dd [(iV (IntKind.wrap .i64 (Ir + 1)))] C8) Kp) Kp) Kp) Kp)
 (J65 [] Da))
 (J65 [] Da)) ∧
∀ junk132 : Nat → Value, ∀ SI : Mem, (J65 [] SI) → rS SI k1 0 fun SE C9 xd =>
rS SI k1 0 fun A137 oy WN =>
((0 : Int) ≤ xd) ∧
((xd : Int) ≤ xd) ∧
((0 : Int) ≤ (if (5 : Int) < (oy : Int) then 5 else (oy : Int))) ∧
(((if (5 : Int) < (oy : Int) then 5 else (oy : Int)) : Int) ≤ (xd : Int)) ∧
((0 : Int) ≤ 0) ∧
((0 : Int) ≤ (if (5 : Int) < (oy : Int) then 5 else (oy : Int))) ∧
∃ J140 : List Value → Mem → Prop, (aM (((((Int.toNat (if (5 : Int) < (oy : Int) then 5 else (oy : Int))) - 0) : Nat) : Int) == 0)
 (aO SI fP fun FD M142 =>
 aO M142 (cl [(.slice (some ⟨FD, 0, none⟩) 1 1)] 115) fun SJ De =>
 J140 [(.slice (some ⟨SJ, 0, none⟩) 1 1)] De)
 (J140 [(.slice (iZ SE 0 (Int.toNat (xd : Int)) 1) ((Int.toNat (if (5 : Int) < (oy : Int) then 5 else (oy : Int))) - 0) ((Int.toNat (xd : Int)) - 0))] SI)) ∧
∀ WW : Nat → Value, ∀ Is : Option Addr, ∀ BP : Nat, ∀ FE : Nat, ∀ M149 : Mem, (J140 [(.slice Is BP FE)] M149) → bj Tryz.prog (Go.Instr.makeSlice 70 (iV (BP : Int)) (iV (BP : Int))) M149 (fun FF BQ =>
aF (some FF) fun A152 k153 FG =>
sT BQ k9 0 (.slice A152 k153 FG) fun M155 =>
∃ I156 : IT, (∃ WX, I156 WX [(iV 0)] M155) ∧
∀ (yF : Nat) (_ : Nat → Value) (yG : Int) (BR : Mem), (I156 yF [(iV yG)] BR) → aM (decide (yG < BP))
 ((0 ≤ yG) ∧
 (yG < BP) ∧
 aE Is fun Lb SK =>
 rS BR Lb (SK + (Int.toNat yG)) fun A164 Df Dg =>
 ((0 : Int) ≤ Dg) ∧
 ((Dg : Int) ≤ Dg) ∧
 ((0 : Int) ≤ (if (20 : Int) < (Df : Int) then 20 else (Df : Int))) ∧
 (((if (20 : Int) < (Df : Int) then 20 else (Df : Int)) : Int) ≤ (Dg : Int)) ∧
 ((0 : Int) ≤ 0) ∧
 ((0 : Int) ≤ (if (20 : Int) < (Df : Int) then 20 else (Df : Int))) ∧
 ∃ J167 : List Value → Mem → Prop, (aM (((((Int.toNat (if (20 : Int) < (Df : Int) then 20 else (Df : Int))) - 0) : Nat) : Int) == 0)
 (aO BR fP fun z8 Pt =>
 J167 [(.slice (some ⟨z8, 0, none⟩) 1 1)] Pt)
 (J167 [(.slice (iZ A164 0 (Int.toNat (Dg : Int)) 4) ((Int.toNat (if (20 : Int) < (Df : Int) then 20 else (Df : Int))) - 0) ((Int.toNat (Dg : Int)) - 0))] BR)) ∧
 ∀ junk170 : Nat → Value, ∀ A171 : Option Addr, ∀ Lc : Nat, ∀ z9 : Nat, ∀ WY : Mem, (J167 [(.slice A171 Lc z9)] WY) → aO WY (cl [] 109) fun k175 It =>
 ∃ I177 : IT, (∃ Ld, I177 Ld [(.slice (some ⟨k175, 0, none⟩) 0 0), (iV 0)] It) ∧
 ∀ (Le : Nat) (_ : Nat → Value) (SL : Option Addr) (SM : Nat) (SN : Nat) (yH : Int) (Lf : Mem), (I177 Le [(.slice SL SM SN), (iV yH)] Lf) → aM (decide (yH < Lc))
 ((0 ≤ yH) ∧
 (yH < Lc) ∧
 aE A171 fun SO Iu =>
 bO Lf SO (Iu + ((Int.toNat yH) * 4)) fun Lg Lh Li n191 =>
 aO Lf fP fun WZ M193 =>
 mh M193 WZ (iV Lg) (iV Lh) (iV Li) (iV n191) fun Pu =>
 Bo Pu k9 0 fun Lj Ll FH A201 k202 k203 SP A205 k206 k207 =>
 bO Pu WZ 0 fun Lm Ln Lo n211 =>
 ae Tryz.prog 70 #[(.agg #[(.slice Lj Ll FH), (.slice A201 k202 k203), (iV SP), (.slice A205 k206 k207)]), (.slice A171 Lc z9), (.agg #[(iV Lm), (iV Ln), (iV Lo), (iV n211)])] Pu (fun v212 M213 =>
 ∃ uJ Dh W0 n217 : Int, (v212 = (.agg #[(iV uJ), (iV Dh), (iV W0), (iV n217)])) ∧
 aO M213 (cl [(iV uJ), (iV Dh), (iV W0), (iV n217)] 109) fun k218 FI =>
 aA 115 SL SM SN (some ⟨k218, 0, none⟩) 1 1 FI (fun v220 W1 =>
 aF (some v220) fun A222 lJ k224 =>
 ∃ k225 : Nat, (k225 < Le) ∧
 I177 k225 [(.slice A222 lJ k224), (iV (IntKind.wrap .i64 (yH + 1)))] W1) Kp) Kp)
 (rS Lf k9 0 fun A226 k227 W2 =>
 (0 ≤ yG) ∧
 (yG < k227) ∧
 aE A226 fun k229 k230 =>
 sT Lf k229 (k230 + (Int.toNat yG)) (.slice SL SM SN) fun Pv =>
 ∃ Pw : Nat, (Pw < yF) ∧
 I156 Pw [(iV (IntKind.wrap .i64 (yG + 1)))] Pv))
 (rS BR k9 0 fun FJ BS FK =>
 rS BR k9 1 fun FL FM FN =>
 rI BR k9 2 fun FO =>
 rS BR k9 3 fun Lp Lq Lr =>
 mh BR k3 (.slice FJ BS FK) (.slice FL FM FN) (iV FO) (.slice Lp Lq Lr) fun M246 =>
 Bo M246 k3 0 fun FP FQ FR FT FU FV n253 A254 Ls k256 =>
 K (.agg #[(.slice FP FQ FR), (.slice FT FU FV), (iV n253), (.slice A254 Ls k256)]) M246)) Kp) Kp) :
 ae Tryz.prog 35 #[.agg #[.slice iM iN iO, .slice iP iQ iR, .int .i64 kO, .slice jQ jR jS]] M K Kp := vw [(1000000, .cut []), (2000000, .loop [(4, .c (.int .i64))]), (5, .OS [0, 1, 0, 4, 0, 28, 60, 124, 252, 511, 1023, 2047] (sy [0, 2, 4, 3, 5, 6] (.fork 1 (sy [7, 8, 9, 10, 11] .done) (.fork 7 (sy [1, 8, 9, 10, 11] .done) .dead))) []), (1000002, .cut []), (2000002, .loop [(5, .c (.int .i64))]), (10, .bH [0, 1, 3, 0, 8, 0, 32, 96, 255, 0, 512, 2047, 4095, 0, 16383] (sy [0, 3, 5, 9, 1] (.cQ 4 (.cQ 6 (sy [7] (.cQ 10 (.late 2 (.late 8 (.late 11 (sy [12, 13, 14] .done)))))))))), (3000072, .cut []), (3000089, .cut [(8, .c .sl)]), (2000004, .loop [(99, .c (.int .i64))]), (3000111, .cut [(10, .c .sl)]), (2000006, .loop [(11, .c .sl), (117, .c (.int .i64))])] Tryz.func35 h
theorem uK {x0 : Int} {x1 : Int} (h :
aM (decide ((x1 : Int) < 1))
 (K (iV 0) M)
 (((x1 : Int) ≠ 0) ∧
 ((x1 : Int) ≠ 0) ∧
 K (iV (Int.tmod (IntKind.wrap .i64 ((Int.tmod x0 x1) + x1)) x1)) M)) :
 ae Tryz.prog 69 #[.int .i64 x0, .int .i64 x1] M K Kp := vw [] Tryz.func69 h
theorem uL {iM : Option Addr} {iN iO : Nat} {iP : Option Addr} {iQ iR : Nat} {kO : Int} {jQ : Option Addr} {jR jS : Nat} {B1 : Option Addr} {m1 c1 : Nat} {oh : Int} {rq : Int} {om : Int} {ru : Int} (h :
aO M (cl [(.slice iM iN iO), (.slice iP iQ iR), (iV kO), (.slice jQ jR jS)] 73) fun k1 M2 =>
aO M2 (cl [(iV oh), (iV rq), (iV om), (iV ru)] 109) fun k3 M4 =>
aO M4 fP fun k5 M6 =>
rI M6 k3 0 fun n7 =>
ae Tryz.prog 69 #[(iV n7), (iV 23)] M6 (fun v8 M9 =>
bF (some v8) .i64 fun dI =>
sT M9 k3 0 (iV dI) fun iL =>
rI iL k3 1 fun gZ =>
rI iL k3 2 fun mY =>
rI iL k3 3 fun jA =>
ae Tryz.prog 69 #[(iV gZ), (iV 8)] iL (fun Bu gh =>
bF (some Bu) .i64 fun kN =>
eI gh k3 3 jA ∧
eI gh k3 2 mY ∧
ae Tryz.prog 69 #[(iV mY), (iV 8)] gh (fun Fc mW =>
bF (some Fc) .i64 fun gC =>
eI mW k3 3 jA ∧
eI mW k3 2 mY ∧
ae Tryz.prog 69 #[(iV jA), (iV 8)] mW (fun Io c9 =>
bF (some Io) .i64 fun nO =>
eI c9 k3 3 jA ∧
eI c9 k3 2 mY ∧
rSS c9 k1 0 fun CK jE gH BE gS gi =>
rS c9 k1 3 fun yp iH ie =>
rI c9 k3 0 fun kK =>
aM (kK == 1)
 (rI c9 k3 2 fun u6 =>
 mh c9 k5 (iV 1) (iV kN) (iV u6) (iV 0) fun lj =>
 bO lj k5 0 fun yl nQ zA BH =>
 K (.agg #[(iV yl), (iV nQ), (iV zA), (iV BH)]) lj)
 (aM (kK == 2)
 (sT c9 k5 0 (iV 2) fun wV =>
 sT wV k5 1 (iV kN) fun qm =>
 sT qm k5 2 (iV gC) fun Im =>
 sT Im k5 3 (iV 0) fun VS =>
 bO VS k5 0 fun CX Fw Pe Ft =>
 K (.agg #[(iV CX), (iV Fw), (iV Pe), (iV Ft)]) VS)
 (aM (kK == 3)
 (rI c9 k3 0 fun CN =>
 mh c9 k5 (iV CN) (iV kN) (iV gC) (iV nO) fun J0 =>
 bO J0 k5 0 fun J4 WG CW HU =>
 K (.agg #[(iV J4), (iV WG), (iV CW), (iV HU)]) J0)
 (aM (kK == 4)
 (rI c9 k3 0 fun vp =>
 mh c9 k5 (iV vp) (iV kN) (iV gC) (iV nO) fun qJ =>
 bO qJ k5 0 fun GZ O5 Ik wW =>
 K (.agg #[(iV GZ), (iV O5), (iV Ik), (iV wW)]) qJ)
 (aM (kK == 5)
 (rI c9 k3 0 fun KP =>
 mh c9 k5 (iV KP) (iV kN) (iV gC) (iV nO) fun Iv =>
 bO Iv k5 0 fun n74 RX Wu RY =>
 K (.agg #[(iV n74), (iV RX), (iV Wu), (iV RY)]) Iv)
 (aM (kK == 6)
 (rI c9 k3 0 fun n78 =>
 mh c9 k5 (iV n78) (iV kN) (iV gC) (iV nO) fun M82 =>
 bO M82 k5 0 fun VO QJ QT n86 =>
 K (.agg #[(iV VO), (iV QJ), (iV QT), (iV n86)]) M82)
 (aM (kK == 7)
 (rI c9 k3 1 fun SQ =>
 ae Tryz.prog 69 #[(iV SQ), (iV (m1 : Int))] c9 (fun Px J1 =>
 bF (some Px) .i64 fun zz =>
 mh J1 k5 (iV 7) (iV zz) (iV 0) (iV 0) fun M94 =>
 bO M94 k5 0 fun R0 Sa n97 n98 =>
 K (.agg #[(iV R0), (iV Sa), (iV n97), (iV n98)]) M94) Kp)
 (aM (kK == 8)
 (rI c9 k3 2 fun VV =>
 ae Tryz.prog 69 #[(iV VV), (iV (m1 : Int))] c9 (fun FB uc =>
 bF (some FB) .i64 fun Bw =>
 mh uc k5 (iV 8) (iV kN) (iV Bw) (iV 0) fun M106 =>
 bO M106 k5 0 fun yC qs Sq Fg =>
 K (.agg #[(iV yC), (iV qs), (iV Sq), (iV Fg)]) M106) Kp)
 (aM (kK == 9)
 (rI c9 k3 1 fun SR =>
 rI c9 k3 0 fun KJ =>
 ae Tryz.prog 69 #[(iV SR), (iV (jE : Int))] c9 (fun yw Pd =>
 bF (some yw) .i64 fun Lt =>
 eI Pd k3 0 KJ ∧
 mh Pd k5 (iV KJ) (iV Lt) (iV gC) (iV nO) fun FW =>
 eI FW k3 0 KJ ∧
 bO FW k5 0 fun La SG FC Fy =>
 K (.agg #[(iV La), (iV SG), (iV FC), (iV Fy)]) FW) Kp)
 (aM (kK == 11)
 (rI c9 k3 1 fun BT =>
 rI c9 k3 0 fun BU =>
 ae Tryz.prog 69 #[(iV BT), (iV (jE : Int))] c9 (fun Lu yI =>
 bF (some Lu) .i64 fun my =>
 eI yI k3 0 BU ∧
 mh yI k5 (iV BU) (iV my) (iV gC) (iV nO) fun oz =>
 eI oz k3 0 BU ∧
 bO oz k5 0 fun W3 Aa xg W4 =>
 K (.agg #[(iV W3), (iV Aa), (iV xg), (iV W4)]) oz) Kp)
 (aM (kK == 10)
 (rI c9 k3 0 fun xe =>
 mh c9 k5 (iV xe) (iV kN) (iV 0) (iV 0) fun Lv =>
 bO Lv k5 0 fun yJ SS n144 SU =>
 K (.agg #[(iV yJ), (iV SS), (iV n144), (iV SU)]) Lv)
 (aM (kK == 17)
 (rI c9 k3 0 fun n146 =>
 mh c9 k5 (iV n146) (iV kN) (iV 0) (iV 0) fun M150 =>
 bO M150 k5 0 fun n151 uM Lw n154 =>
 K (.agg #[(iV n151), (iV uM), (iV Lw), (iV n154)]) M150)
 (aM (kK == 20)
 (rI c9 k3 0 fun SV =>
 mh c9 k5 (iV SV) (iV kN) (iV 0) (iV 0) fun W5 =>
 bO W5 k5 0 fun yG n161 n162 Lx =>
 K (.agg #[(iV yG), (iV n161), (iV n162), (iV Lx)]) W5)
 (aM (kK == 13)
 (aM ((gS : Int) == 0)
 (sT c9 k5 0 (iV 0) fun M164 =>
 sT M164 k5 1 (iV 0) fun FX =>
 sT FX k5 2 (iV 0) fun Py =>
 sT Py k5 3 (iV 0) fun FY =>
 bO FY k5 0 fun n168 SW n170 n171 =>
 K (.agg #[(iV n168), (iV SW), (iV n170), (iV n171)]) FY)
 (rI c9 k3 1 fun n172 =>
 rI c9 k3 0 fun n173 =>
 (True) ∧
 ae Tryz.prog 69 #[(iV n172), (iV (gS : Int))] c9 (fun v174 SX =>
 bF (some v174) .i64 fun FZ =>
 eI SX k3 0 n173 ∧
 aO SX fP fun oB W6 =>
 mh W6 oB (iV n173) (iV FZ) (iV 0) (iV 0) fun vN =>
 eI vN k3 0 n173 ∧
 rI vN k3 0 fun uN =>
 aM (decide (uN < 15))
 (sT vN oB 2 (iV gC) fun Ly =>
 rI Ly k3 0 fun Iw =>
 aM (Iw == 14)
 (sT Ly oB 3 (iV nO) fun M186 =>
 bO M186 oB 0 fun n187 Lg Lh Li =>
 mh M186 k5 (iV n187) (iV Lg) (iV Lh) (iV Li) fun M194 =>
 bO M194 k5 0 fun SY Lz F0 n198 =>
 K (.agg #[(iV SY), (iV Lz), (iV F0), (iV n198)]) M194)
 (rI Ly oB 0 fun n199 =>
 rI Ly oB 1 fun n200 =>
 rI Ly oB 2 fun n201 =>
 rI Ly oB 3 fun SZ =>
 mh Ly k5 (iV n199) (iV n200) (iV n201) (iV SZ) fun S0 =>
 bO S0 k5 0 fun LA Lm Ln Lo =>
 K (.agg #[(iV LA), (iV Lm), (iV Ln), (iV Lo)]) S0))
 (rI vN k3 0 fun n211 =>
 aM (n211 == 14)
 (sT vN oB 3 (iV nO) fun W7 =>
 bO W7 oB 0 fun LB uJ Dh W0 =>
 mh W7 k5 (iV LB) (iV uJ) (iV Dh) (iV W0) fun W8 =>
 bO W8 k5 0 fun n221 n222 n223 n224 =>
 K (.agg #[(iV n221), (iV n222), (iV n223), (iV n224)]) W8)
 (rI vN oB 0 fun n225 =>
 rI vN oB 1 fun n226 =>
 rI vN oB 2 fun n227 =>
 rI vN oB 3 fun n228 =>
 mh vN k5 (iV n225) (iV n226) (iV n227) (iV n228) fun M232 =>
 bO M232 k5 0 fun Di n234 S1 n236 =>
 K (.agg #[(iV Di), (iV n234), (iV S1), (iV n236)]) M232))) Kp))
 (aM (kK == 14)
 (aM ((gS : Int) == 0)
 (sT c9 k5 0 (iV 0) fun M237 =>
 sT M237 k5 1 (iV 0) fun W9 =>
 sT W9 k5 2 (iV 0) fun Xa =>
 sT Xa k5 3 (iV 0) fun M240 =>
 bO M240 k5 0 fun S2 S3 S4 n244 =>
 K (.agg #[(iV S2), (iV S3), (iV S4), (iV n244)]) M240)
 (rI c9 k3 1 fun n245 =>
 rI c9 k3 0 fun BV =>
 (True) ∧
 ae Tryz.prog 69 #[(iV n245), (iV (gS : Int))] c9 (fun S5 M248 =>
 bF (some S5) .i64 fun n249 =>
 eI M248 k3 0 BV ∧
 aO M248 fP fun xh Xb =>
 mh Xb xh (iV BV) (iV n249) (iV 0) (iV 0) fun yK =>
 eI yK k3 0 BV ∧
 rI yK k3 0 fun BW =>
 aM (decide (BW < 15))
 (sT yK xh 2 (iV gC) fun LC =>
 rI LC k3 0 fun n258 =>
 aM (n258 == 14)
 (sT LC xh 3 (iV nO) fun M259 =>
 bO M259 xh 0 fun LD F1 n262 n263 =>
 mh M259 k5 (iV LD) (iV F1) (iV n262) (iV n263) fun M267 =>
 bO M267 k5 0 fun Ix n269 n270 n271 =>
 K (.agg #[(iV Ix), (iV n269), (iV n270), (iV n271)]) M267)
 (rI LC xh 0 fun S6 =>
 rI LC xh 1 fun n273 =>
 rI LC xh 2 fun F2 =>
 rI LC xh 3 fun LF =>
 mh LC k5 (iV S6) (iV n273) (iV F2) (iV LF) fun S7 =>
 bO S7 k5 0 fun n280 n281 n282 n283 =>
 K (.agg #[(iV n280), (iV n281), (iV n282), (iV n283)]) S7))
 (rI yK k3 0 fun n284 =>
 aM (n284 == 14)
 (sT yK xh 3 (iV nO) fun M285 =>
 bO M285 xh 0 fun S8 n287 n288 S9 =>
 mh M285 k5 (iV S8) (iV n287) (iV n288) (iV S9) fun M293 =>
 bO M293 k5 0 fun n294 n295 LG n297 =>
 K (.agg #[(iV n294), (iV n295), (iV LG), (iV n297)]) M293)
 (rI yK xh 0 fun n298 =>
 rI yK xh 1 fun n299 =>
 rI yK xh 2 fun LH =>
 rI yK xh 3 fun LI =>
 mh yK k5 (iV n298) (iV n299) (iV LH) (iV LI) fun Pz =>
 bO Pz k5 0 fun n306 n307 n308 n309 =>
 K (.agg #[(iV n306), (iV n307), (iV n308), (iV n309)]) Pz))) Kp))
 (aM (kK == 15)
 (aM ((gS : Int) == 0)
 (sT c9 k5 0 (iV 0) fun M310 =>
 sT M310 k5 1 (iV 0) fun M311 =>
 sT M311 k5 2 (iV 0) fun M312 =>
 sT M312 k5 3 (iV 0) fun M313 =>
 bO M313 k5 0 fun Iy n315 n316 n317 =>
 K (.agg #[(iV Iy), (iV n315), (iV n316), (iV n317)]) M313)
 (rI c9 k3 1 fun n318 =>
 rI c9 k3 0 fun Ta =>
 (True) ∧
 ae Tryz.prog 69 #[(iV n318), (iV (gS : Int))] c9 (fun v320 M321 =>
 bF (some v320) .i64 fun n322 =>
 eI M321 k3 0 Ta ∧
 aO M321 fP fun xj M324 =>
 mh M324 xj (iV Ta) (iV n322) (iV 0) (iV 0) fun Dj =>
 eI Dj k3 0 Ta ∧
 rI Dj k3 0 fun n329 =>
 aM (decide (n329 < 15))
 (sT Dj xj 2 (iV gC) fun Dk =>
 rI Dk k3 0 fun Tb =>
 aM (Tb == 14)
 (sT Dk xj 3 (iV nO) fun M332 =>
 bO M332 xj 0 fun n333 n334 n335 n336 =>
 mh M332 k5 (iV n333) (iV n334) (iV n335) (iV n336) fun M340 =>
 bO M340 k5 0 fun n341 Tc Iz IA =>
 K (.agg #[(iV n341), (iV Tc), (iV Iz), (iV IA)]) M340)
 (rI Dk xj 0 fun PB =>
 rI Dk xj 1 fun IB =>
 rI Dk xj 2 fun n347 =>
 rI Dk xj 3 fun n348 =>
 mh Dk k5 (iV PB) (iV IB) (iV n347) (iV n348) fun M352 =>
 bO M352 k5 0 fun n353 n354 n355 n356 =>
 K (.agg #[(iV n353), (iV n354), (iV n355), (iV n356)]) M352))
 (rI Dj k3 0 fun n357 =>
 aM (n357 == 14)
 (sT Dj xj 3 (iV nO) fun M358 =>
 bO M358 xj 0 fun n359 n360 n361 n362 =>
 mh M358 k5 (iV n359) (iV n360) (iV n361) (iV n362) fun M366 =>
 bO M366 k5 0 fun n367 n368 n369 n370 =>
 K (.agg #[(iV n367), (iV n368), (iV n369), (iV n370)]) M366)
 (rI Dj xj 0 fun n371 =>
 rI Dj xj 1 fun n372 =>
 rI Dj xj 2 fun n373 =>
 rI Dj xj 3 fun n374 =>
 mh Dj k5 (iV n371) (iV n372) (iV n373) (iV n374) fun M378 =>
 bO M378 k5 0 fun n379 n380 n381 Td =>
 K (.agg #[(iV n379), (iV n380), (iV n381), (iV Td)]) M378))) Kp))
 (aM (kK == 16)
 (aM ((iH : Int) == 0)
 (sT c9 k5 0 (iV 0) fun M383 =>
 sT M383 k5 1 (iV 0) fun M384 =>
 sT M384 k5 2 (iV 0) fun M385 =>
 sT M385 k5 3 (iV 0) fun M386 =>
 bO M386 k5 0 fun PC n388 n389 n390 =>
 K (.agg #[(iV PC), (iV n388), (iV n389), (iV n390)]) M386)
 (rI c9 k3 1 fun n391 =>
 ae Tryz.prog 69 #[(iV n391), (iV (iH : Int))] c9 (fun v392 M393 =>
 bF (some v392) .i64 fun LJ =>
 rI M393 k3 2 fun n395 =>
 ae Tryz.prog 69 #[(iV n395), (iV (IntKind.wrap .i64 ((iH : Int) - LJ)))] M393 (fun v396 M397 =>
 bF (some v396) .i64 fun n398 =>
 mh M397 k5 (iV 16) (iV LJ) (iV (IntKind.wrap .i64 (1 + n398))) (iV nO) fun M402 =>
 bO M402 k5 0 fun n403 n404 n405 n406 =>
 K (.agg #[(iV n403), (iV n404), (iV n405), (iV n406)]) M402) Kp) Kp))
 (aM (kK == 18)
 (rI c9 k1 2 fun n407 =>
 aM (n407 == 0)
 (sT c9 k5 0 (iV 0) fun M408 =>
 sT M408 k5 1 (iV 0) fun M409 =>
 sT M409 k5 2 (iV 0) fun M410 =>
 sT M410 k5 3 (iV 0) fun M411 =>
 bO M411 k5 0 fun n412 n413 n414 n415 =>
 K (.agg #[(iV n412), (iV n413), (iV n414), (iV n415)]) M411)
 (rI c9 k3 1 fun n416 =>
 rI c9 k1 2 fun n417 =>
 rI c9 k3 0 fun Te =>
 ae Tryz.prog 69 #[(iV n416), (iV n417)] c9 (fun v419 M420 =>
 bF (some v419) .i64 fun n421 =>
 eI M420 k3 0 Te ∧
 mh M420 k5 (iV Te) (iV n421) (iV 0) (iV 0) fun M425 =>
 eI M425 k3 0 Te ∧
 bO M425 k5 0 fun n426 n427 n428 n429 =>
 K (.agg #[(iV n426), (iV n427), (iV n428), (iV n429)]) M425) Kp))
 (aM (kK == 19)
 (rI c9 k1 2 fun n430 =>
 aM (n430 == 0)
 (sT c9 k5 0 (iV 0) fun M431 =>
 sT M431 k5 1 (iV 0) fun M432 =>
 sT M432 k5 2 (iV 0) fun M433 =>
 sT M433 k5 3 (iV 0) fun M434 =>
 bO M434 k5 0 fun n435 n436 n437 n438 =>
 K (.agg #[(iV n435), (iV n436), (iV n437), (iV n438)]) M434)
 (rI c9 k3 1 fun n439 =>
 rI c9 k1 2 fun n440 =>
 rI c9 k3 0 fun Tf =>
 ae Tryz.prog 69 #[(iV n439), (iV n440)] c9 (fun v442 M443 =>
 bF (some v442) .i64 fun n444 =>
 eI M443 k3 0 Tf ∧
 mh M443 k5 (iV Tf) (iV n444) (iV 0) (iV 0) fun M448 =>
 eI M448 k3 0 Tf ∧
 bO M448 k5 0 fun n449 n450 n451 n452 =>
 K (.agg #[(iV n449), (iV n450), (iV n451), (iV n452)]) M448) Kp))
 (aM (kK == 21)
 (rI c9 k3 2 fun n453 =>
 ae Tryz.prog 69 #[(iV n453), (iV 1000)] c9 (fun v454 M455 =>
 bF (some v454) .i64 fun n456 =>
 mh M455 k5 (iV 21) (iV kN) (iV (IntKind.wrap .i64 (1 + n456))) (iV 0) fun M460 =>
 bO M460 k5 0 fun n461 n462 n463 n464 =>
 K (.agg #[(iV n461), (iV n462), (iV n463), (iV n464)]) M460) Kp)
 (aM (kK == 22)
 (rI c9 k3 1 fun n465 =>
 ae Tryz.prog 69 #[(iV n465), (iV 1000)] c9 (fun v466 M467 =>
 bF (some v466) .i64 fun n468 =>
 mh M467 k5 (iV 22) (iV n468) (iV 0) (iV 0) fun M472 =>
 bO M472 k5 0 fun n473 n474 n475 n476 =>
 K (.agg #[(iV n473), (iV n474), (iV n475), (iV n476)]) M472) Kp)
 (rI c9 k3 0 fun n477 =>
 mh c9 k5 (iV n477) (iV 0) (iV 0) (iV 0) fun M481 =>
 bO M481 k5 0 fun n482 n483 PD PE =>
 K (.agg #[(iV n482), (iV n483), (iV PD), (iV PE)]) M481)))))))))))))))))))))) Kp) Kp) Kp) Kp) :
 ae Tryz.prog 70 #[.agg #[.slice iM iN iO, .slice iP iQ iR, .int .i64 kO, .slice jQ jR jS], .slice B1 m1 c1, .agg #[.int .i64 oh, .int .i64 rq, .int .i64 om, .int .i64 ru]] M K Kp := vw [(2, .bH [0, 1, 3, 0, 8, 31, 0, 64, 255, 511, 1023, 2047] (sy [0, 3, 6, 1] (.cQ 4 (.cQ 7 (sy [2, 5, 8, 9, 10, 11] .done))))), (3, .bH [0, 1, 3, 0, 8, 24, 0, 64, 192, 7, 575, 2047] (sy [0, 3, 6, 1, 2, 9, 4, 5, 10, 7, 8, 11] .done)), (20, .bH [0, 1, 0, 4, 0, 28, 0, 0, 255, 511] (sy [0, 2, 4, 6, 7, 3] (.cQ 1 (sy [5, 8, 9] .done)))), (30, .bH [0, 1, 0, 4, 0, 28, 63, 0, 255] (sy [0, 2, 4, 3] (.cQ 1 (.late 5 (sy [6, 7, 8] .done))))), (45, .bH [0, 1, 0, 4, 0, 16, 60, 127, 255] (sy [0, 2, 4, 3, 5] (.cQ 1 (sy [6, 7, 8] .done))))] Tryz.func70 h
end Go.Proofs
namespace Go.Proofs
open Go.AF
set_option maxRecDepth 100000
variable {M : Mem} {K : Value → Mem → Prop} {Kp : List PanicEntry → Mem → Prop}
theorem uO {x0 : Int} (h :
aO M cZ fun k1 M2 =>
Bn M2 k1 (iV (if ((if (16 : Int) < x0 then 16 else x0) : Int) > 0 then (if (16 : Int) < x0 then 16 else x0) else 0)) (.slice none 0 0) (.slice none 0 0) (.slice none 0 0) (.bool false) fun M7 =>
cI M7 k1 0 fun n8 A9 eD eu mX eA fz oQ fq fO t18 =>
K (.agg #[(iV n8), (.slice A9 eD eu), (.slice mX eA fz), (.slice oQ fq fO), (.bool t18)]) M7) :
 ae Tryz.prog 75 #[.int .i64 x0] M K Kp := vw [] Tryz.func75 h
theorem rQ {oe : Int} {iP : Option Addr} {iQ iR : Nat} {xk : Option Addr} {xl xm : Nat} {jQ : Option Addr} {jR jS : Nat} {BX : Bool} {x1 : Int} (h :
aO M (cl [(iV oe), (.slice iP iQ iR), (.slice xk xl xm), (.slice jQ jR jS), (.bool BX)] 190) fun k1 M2 =>
aO M2 cZ fun k3 M4 =>
aO M4 ik fun k5 M6 =>
rB M6 k1 4 fun t7 =>
aM t7
 (rI M6 k1 0 fun n8 =>
 rS M6 k1 1 fun A9 eD eu =>
 rS M6 k1 2 fun mX eA fz =>
 rS M6 k1 3 fun oQ fq fO =>
 rB M6 k1 4 fun t18 =>
 Bn M6 k3 (iV n8) (.slice A9 eD eu) (.slice mX eA fz) (.slice oQ fq fO) (.bool t18) fun mm =>
 pb mm k5 (iV 0) (iV 0) (iV 0) fun xO =>
 cI xO k3 0 fun KN zW gi jc HT ie lg D6 ku nP t37 =>
 eR xO k5 0 fun mo yl nQ =>
 K (.tuple #[(.agg #[(iV KN), (.slice zW gi jc), (.slice HT ie lg), (.slice D6 ku nP), (.bool t37)]), (.agg #[(iV mo), (iV yl), (iV nQ)]), (.bool false), (iV 10)]) xO)
 (rS M6 k1 3 fun O2 jO jF =>
 aM (decide ((jO : Int) > 0))
 (rS M6 k1 3 fun GW zq mV =>
 ((0 : Int) ≤ 0) ∧
 ((0 : Int) < zq) ∧
 aE GW fun j9 yx =>
 eR M6 j9 (yx + 0) fun Pe Ft CN =>
 aO M6 ik fun tv K4 =>
 pb K4 tv (iV Pe) (iV Ft) (iV CN) fun JX =>
 sT JX tv 2 (iV x1) fun GY =>
 rS GY k1 3 fun VP AB KO =>
 ae Tryz.prog 218 #[(.slice VP AB KO)] GY (fun LK NQ =>
 aF (some LK) fun A63 k64 So =>
 sT NQ k1 3 (.slice A63 k64 So) fun NX =>
 cI NX k1 0 fun Ik A68 VU D8 Zh G3 JY A74 Pf K9 t77 =>
 eR NX tv 0 fun n78 Tg G0 =>
 Bn NX k3 (iV Ik) (.slice A68 VU D8) (.slice Zh G3 JY) (.slice A74 Pf K9) (.bool t77) fun Zc =>
 ((Mem.fT Zc ⟨tv, 0, none⟩ 0 3) = some [(iV n78), (iV Tg), (iV G0)]) ∧
 pb Zc k5 (iV n78) (iV Tg) (iV G0) fun M88 =>
 ((Mem.fT M88 ⟨tv, 0, none⟩ 0 3) = some [(iV n78), (iV Tg), (iV G0)]) ∧
 cI M88 k3 0 fun G6 A90 Sh Pa QO HZ K6 A96 KQ Si t99 =>
 eR M88 k5 0 fun Bv vu Bw =>
 K (.tuple #[(.agg #[(iV G6), (.slice A90 Sh Pa), (.slice QO HZ K6), (.slice A96 KQ Si), (.bool t99)]), (.agg #[(iV Bv), (iV vu), (iV Bw)]), (.bool true), (iV 0)]) M88) Kp)
 (rS M6 k1 1 fun A103 Sj Pb =>
 rI M6 k1 0 fun yB =>
 aM (decide ((Sj : Int) ≥ yB))
 (rI M6 k1 0 fun yC =>
 rS M6 k1 1 fun A108 Fm k110 =>
 rS M6 k1 2 fun A111 k112 K7 =>
 rS M6 k1 3 fun A114 k115 H7 =>
 rB M6 k1 4 fun t117 =>
 Bn M6 k3 (iV yC) (.slice A108 Fm k110) (.slice A111 k112 K7) (.slice A114 k115 H7) (.bool t117) fun M122 =>
 pb M122 k5 (iV 0) (iV 0) (iV 0) fun Sr =>
 cI Sr k3 0 fun Th A127 Dc BO A130 Dd FA A133 yL C9 t136 =>
 eR Sr k5 0 fun xe Ad IC =>
 K (.tuple #[(.agg #[(iV Th), (.slice A127 Dc BO), (.slice A130 Dd FA), (.slice A133 yL C9), (.bool t136)]), (.agg #[(iV xe), (iV Ad), (iV IC)]), (.bool false), (iV 6)]) Sr)
 (aO M6 (cl [] 2) fun BN Lv =>
 rS Lv k1 1 fun A142 SJ Ae =>
 aA 59 (some ⟨BN, 0, none⟩) 0 0 A142 SJ Ae Lv (fun F3 PF =>
 aF (some F3) fun A147 FE k149 =>
 aO PF (cl [(iV x1)] 2) fun Dl BQ =>
 aA 59 A147 FE k149 (some ⟨Dl, 0, none⟩) 1 1 BQ (fun Ti PG =>
 aF (some Ti) fun Tj yM LL =>
 sT PG k1 1 (.slice Tj yM LL) fun Tk =>
 cI Tk k1 0 fun Tl A159 rR Dm A162 SK k164 A165 Dg F4 t168 =>
 Bn Tk k3 (iV Tl) (.slice A159 rR Dm) (.slice A162 SK k164) (.slice A165 Dg F4) (.bool t168) fun M173 =>
 pb M173 k5 (iV 0) (iV 0) (iV 0) fun It =>
 cI It k3 0 fun Dp A178 Le LM SL SM SN A184 Tm SO t187 =>
 eR It k5 0 fun Lg Lh Li =>
 K (.tuple #[(.agg #[(iV Dp), (.slice A178 Le LM), (.slice SL SM SN), (.slice A184 Tm SO), (.bool t187)]), (.agg #[(iV Lg), (iV Lh), (iV Li)]), (.bool false), (iV 0)]) It) Kp) Kp)))) :
 ae Tryz.prog 187 #[.agg #[.int .i64 oe, .slice iP iQ iR, .slice xk xl xm, .slice jQ jR jS, .bool BX], .int .i64 x1] M K Kp := vw [(7, .bH [0, 0, 1, 7, 15, 31] (sy [0] (.cQ 1 (sy [2, 3, 4, 5] .done))))] Tryz.func187 h
theorem rT {oe : Int} {iP : Option Addr} {iQ iR : Nat} {xk : Option Addr} {xl xm : Nat} {jQ : Option Addr} {jR jS : Nat} {BX : Bool} (h :
aO M (cl [(iV oe), (.slice iP iQ iR), (.slice xk xl xm), (.slice jQ jR jS), (.bool BX)] 190) fun k1 M2 =>
aO M2 cZ fun k3 M4 =>
aO M4 ik fun k5 M6 =>
aO M6 ik fun k7 M8 =>
pb M8 k7 (iV 0) (iV 0) (iV 0) fun iL =>
aO iL (cl [] 2) fun gF lu =>
rS lu k1 1 fun ua ju fq =>
aA 59 (some ⟨gF, 0, none⟩) 0 0 ua ju fq lu (fun Sx mq =>
aF (some Sx) fun G1 fQ lz =>
rS mq k1 2 fun K2 gI nM =>
aM (decide ((gI : Int) > 0))
 (rS mq k1 2 fun CL gH kF =>
 ((0 : Int) ≤ 0) ∧
 ((0 : Int) < gH) ∧
 aE CL fun gS gi =>
 eR mq gS (gi + 0) fun w6 q9 n32 =>
 pb mq k7 (iV w6) (iV q9) (iV n32) fun u7 =>
 rI u7 k7 2 fun tC =>
 aO u7 (cl [(iV tC)] 2) fun pC lj =>
 aA 59 G1 fQ lz (some ⟨pC, 0, none⟩) 1 1 lj (fun v39 Fv =>
 aF (some v39) fun O2 jO jF =>
 rS Fv k1 2 fun GW zq mV =>
 ae Tryz.prog 218 #[(.slice GW zq mV)] Fv (fun v47 D1 =>
 aF (some v47) fun Zd vt D7 =>
 sT D1 k1 2 (.slice Zd vt D7) fun xP =>
 aM (decide ((jO : Int) > 0))
 (((0 : Int) ≤ jF) ∧
 ((jF : Int) ≤ jF) ∧
 ((0 : Int) ≤ jO) ∧
 ((jO : Int) ≤ jF) ∧
 ((0 : Int) ≤ 1) ∧
 ((1 : Int) ≤ jO) ∧
 sT xP k1 1 (.slice (iZ O2 1 (Int.toNat (jF : Int)) 1) ((Int.toNat (jO : Int)) - 1) ((Int.toNat (jF : Int)) - 1)) fun K4 =>
 ((0 : Int) ≤ 0) ∧
 ((0 : Int) < jO) ∧
 aE O2 fun wq WI =>
 cI K4 k1 0 fun J4 QH D2 AB VQ tB BC A63 k64 So t66 =>
 rI K4 wq (WI + 0) fun Ik =>
 eR K4 k7 0 fun wW KP Ir =>
 Bn K4 k3 (iV J4) (.slice QH D2 AB) (.slice VQ tB BC) (.slice A63 k64 So) (.bool t66) fun SB =>
 ((Mem.fT SB ⟨k7, 0, none⟩ 0 3) = some [(iV wW), (iV KP), (iV Ir)]) ∧
 ((Mem.ld SB ⟨wq, (WI + 0), none⟩) = (some (iV Ik))) ∧
 pb SB k5 (iV wW) (iV KP) (iV Ir) fun M78 =>
 ((Mem.fT M78 ⟨k7, 0, none⟩ 0 3) = some [(iV wW), (iV KP), (iV Ir)]) ∧
 ((Mem.ld M78 ⟨wq, (WI + 0), none⟩) = (some (iV Ik))) ∧
 cI M78 k3 0 fun Tg A80 Wy zX A83 WM QL A86 KT Sz t89 =>
 eR M78 k5 0 fun zz Ia CY =>
 K (.tuple #[(.agg #[(iV Tg), (.slice A80 Wy zX), (.slice A83 WM QL), (.slice A86 KT Sz), (.bool t89)]), (iV Ik), (.bool true), (.agg #[(iV zz), (iV Ia), (iV CY)]), (.bool true), (iV 0)]) M78)
 (rB xP k1 4 fun t93 =>
 aM t93
 (rI xP k1 0 fun RZ =>
 rS xP k1 1 fun A95 WK KQ =>
 rS xP k1 2 fun A98 QM qo =>
 rS xP k1 3 fun A101 z7 BL =>
 rB xP k1 4 fun t104 =>
 eR xP k7 0 fun BM yB yC =>
 Bn xP k3 (iV RZ) (.slice A95 WK KQ) (.slice A98 QM qo) (.slice A101 z7 BL) (.bool t104) fun nB =>
 ((Mem.fT nB ⟨k7, 0, none⟩ 0 3) = some [(iV BM), (iV yB), (iV yC)]) ∧
 pb nB k5 (iV BM) (iV yB) (iV yC) fun Pp =>
 ((Mem.fT Pp ⟨k7, 0, none⟩ 0 3) = some [(iV BM), (iV yB), (iV yC)]) ∧
 cI Pp k3 0 fun LN K8 zY ir A120 BB ox A123 k124 Iq t126 =>
 eR Pp k5 0 fun Tn my n129 =>
 K (.tuple #[(.agg #[(iV LN), (.slice K8 zY ir), (.slice A120 BB ox), (.slice A123 k124 Iq), (.bool t126)]), (iV 0), (.bool false), (.agg #[(iV Tn), (iV my), (iV n129)]), (.bool true), (iV 0)]) Pp)
 (rI xP k1 0 fun xn =>
 rS xP k1 1 fun SD FA uI =>
 rS xP k1 2 fun SE C9 xd =>
 rS xP k1 3 fun A137 oy WN =>
 rB xP k1 4 fun t140 =>
 eR xP k7 0 fun LO yJ SS =>
 Bn xP k3 (iV xn) (.slice SD FA uI) (.slice SE C9 xd) (.slice A137 oy WN) (.bool t140) fun M148 =>
 ((Mem.fT M148 ⟨k7, 0, none⟩ 0 3) = some [(iV LO), (iV yJ), (iV SS)]) ∧
 pb M148 k5 (iV LO) (iV yJ) (iV SS) fun BQ =>
 ((Mem.fT BQ ⟨k7, 0, none⟩ 0 3) = some [(iV LO), (iV yJ), (iV SS)]) ∧
 cI BQ k3 0 fun uM LP FG yM A156 WX yF A159 rR Dm t162 =>
 eR BQ k5 0 fun Lx ID To =>
 K (.tuple #[(.agg #[(iV uM), (.slice LP FG yM), (.slice A156 WX yF), (.slice A159 rR Dm), (.bool t162)]), (iV 0), (.bool false), (.agg #[(iV Lx), (iV ID), (iV To)]), (.bool true), (iV 5)]) BQ))) Kp) Kp)
 (aM (decide ((fQ : Int) > 0))
 (((0 : Int) ≤ lz) ∧
 ((lz : Int) ≤ lz) ∧
 ((0 : Int) ≤ fQ) ∧
 ((fQ : Int) ≤ lz) ∧
 ((0 : Int) ≤ 1) ∧
 ((1 : Int) ≤ fQ) ∧
 sT mq k1 1 (.slice (iZ G1 1 (Int.toNat (lz : Int)) 1) ((Int.toNat (fQ : Int)) - 1) ((Int.toNat (lz : Int)) - 1)) fun Py =>
 ((0 : Int) ≤ 0) ∧
 ((0 : Int) < fQ) ∧
 aE G1 fun F4 z8 =>
 cI Py k1 0 fun SW A170 Dq Lc A173 IE k175 Tp oB Ld t179 =>
 rI Py F4 (z8 + 0) fun IF =>
 eR Py k7 0 fun IG Af uN =>
 Bn Py k3 (iV SW) (.slice A170 Dq Lc) (.slice A173 IE k175) (.slice Tp oB Ld) (.bool t179) fun Tq =>
 ((Mem.fT Tq ⟨k7, 0, none⟩ 0 3) = some [(iV IG), (iV Af), (iV uN)]) ∧
 ((Mem.ld Tq ⟨F4, (z8 + 0), none⟩) = (some (iV IF))) ∧
 pb Tq k5 (iV IG) (iV Af) (iV uN) fun Tr =>
 ((Mem.fT Tr ⟨k7, 0, none⟩ 0 3) = some [(iV IG), (iV Af), (iV uN)]) ∧
 ((Mem.ld Tr ⟨F4, (z8 + 0), none⟩) = (some (iV IF))) ∧
 cI Tr k3 0 fun LQ Ts LR Tt A196 k197 k198 A199 FH k201 t202 =>
 eR Tr k5 0 fun Tu SP LS =>
 K (.tuple #[(.agg #[(iV LQ), (.slice Ts LR Tt), (.slice A196 k197 k198), (.slice A199 FH k201), (.bool t202)]), (iV IF), (.bool true), (.agg #[(iV Tu), (iV SP), (iV LS)]), (.bool false), (iV 0)]) Tr)
 (rB mq k1 4 fun t206 =>
 aM t206
 (rI mq k1 0 fun LA =>
 rS mq k1 1 fun A208 k209 k210 =>
 rS mq k1 2 fun A211 PI Tv =>
 rS mq k1 3 fun A214 k215 k216 =>
 rB mq k1 4 fun t217 =>
 eR mq k7 0 fun Tw n219 n220 =>
 Bn mq k3 (iV LA) (.slice A208 k209 k210) (.slice A211 PI Tv) (.slice A214 k215 k216) (.bool t217) fun lK =>
 ((Mem.fT lK ⟨k7, 0, none⟩ 0 3) = some [(iV Tw), (iV n219), (iV n220)]) ∧
 pb lK k5 (iV Tw) (iV n219) (iV n220) fun Xc =>
 ((Mem.fT Xc ⟨k7, 0, none⟩ 0 3) = some [(iV Tw), (iV n219), (iV n220)]) ∧
 cI Xc k3 0 fun n229 A230 k231 Pw FJ BS FK FL FM FN t239 =>
 eR Xc k5 0 fun n240 S2 S3 =>
 K (.tuple #[(.agg #[(iV n229), (.slice A230 k231 Pw), (.slice FJ BS FK), (.slice FL FM FN), (.bool t239)]), (iV 0), (.bool false), (.agg #[(iV n240), (iV S2), (iV S3)]), (.bool false), (iV 0)]) Xc)
 (rI mq k1 0 fun S4 =>
 rS mq k1 1 fun A244 LU k246 =>
 rS mq k1 2 fun FP FQ FR =>
 rS mq k1 3 fun FT FU FV =>
 rB mq k1 4 fun t253 =>
 eR mq k7 0 fun n254 n255 BW =>
 Bn mq k3 (iV S4) (.slice A244 LU k246) (.slice FP FQ FR) (.slice FT FU FV) (.bool t253) fun M261 =>
 ((Mem.fT M261 ⟨k7, 0, none⟩ 0 3) = some [(iV n254), (iV n255), (iV BW)]) ∧
 pb M261 k5 (iV n254) (iV n255) (iV BW) fun Xd =>
 ((Mem.fT Xd ⟨k7, 0, none⟩ 0 3) = some [(iV n254), (iV n255), (iV BW)]) ∧
 cI Xd k3 0 fun n265 A266 k267 k268 A269 k270 k271 A272 k273 Tx t275 =>
 eR Xd k5 0 fun PJ n277 n278 =>
 K (.tuple #[(.agg #[(iV n265), (.slice A266 k267 k268), (.slice A269 k270 k271), (.slice A272 k273 Tx), (.bool t275)]), (iV 0), (.bool false), (.agg #[(iV PJ), (iV n277), (iV n278)]), (.bool false), (iV 5)]) Xd)))) Kp) :
 ae Tryz.prog 189 #[.agg #[.int .i64 oe, .slice iP iQ iR, .slice xk xl xm, .slice jQ jR jS, .bool BX]] M K Kp := vw [(11, .bH [0, 0, 2, 6, 0, 0, 1, 79, 207, 479, 1023, 2047] (sy [1, 2, 5, 0] (.cQ 3 (.cQ 4 (sy [6, 7, 8, 9, 10, 11] .done))))), (13, .bH [0, 0, 0, 1, 9, 25, 59, 127, 255] (sy [2, 0] (.cQ 1 (sy [3, 4, 5, 6, 7, 8] .done)))), (14, .bH [0, 0, 0, 1, 9, 25, 59, 127, 255] (sy [2, 0] (.cQ 1 (sy [3, 4, 5, 6, 7, 8] .done))))] Tryz.func189 h
theorem rV {oe : Int} {iP : Option Addr} {iQ iR : Nat} {xk : Option Addr} {xl xm : Nat} {jQ : Option Addr} {jR jS : Nat} {BX : Bool} {x1 : Int} (h :
aO M (cl [(iV oe), (.slice iP iQ iR), (.slice xk xl xm), (.slice jQ jR jS), (.bool BX)] 190) fun k1 M2 =>
aO M2 cZ fun k3 M4 =>
aO M4 (cl [] 289) fun k5 M6 =>
aO M6 (cl [] 289) fun k7 M8 =>
rS M8 k1 2 fun A9 eD eu =>
∃ I12 : IT, (∃ eA, I12 eA [(.slice (some ⟨k5, 0, none⟩) 0 0), (iV 0)] M8) ∧
∀ (fz : Nat) (_ : Nat → Value) (WB : Option Addr) (fO : Nat) (fm : Nat) (nN : Int) (vr : Mem), (I12 fz [(.slice WB fO fm), (iV nN)] vr) → aM (decide (nN < eD))
 ((0 ≤ nN) ∧
 (nN < eD) ∧
 aE A9 fun lz gf =>
 eR vr lz (gf + ((Int.toNat nN) * 3)) fun nO pY yq =>
 aO vr ik fun gH mZ =>
 pb mZ gH (iV nO) (iV pY) (iV yq) fun wj =>
 rI wj gH 0 fun q9 =>
 aM (q9 != x1)
 (rI wj gH 0 fun n32 =>
 rI wj gH 1 fun kK =>
 rI wj gH 2 fun u6 =>
 aO wj (cl [(iV n32), (iV kK), (iV u6)] 289) fun ku pA =>
 aA 188 WB fO fm (some ⟨ku, 0, none⟩) 1 1 pA (fun v37 lj =>
 aF (some v37) fun VM tY mP =>
 ∃ jO : Nat, (jO < fz) ∧
 I12 jO [(.slice VM tY mP), (iV (IntKind.wrap .i64 (nN + 1)))] lj) Kp)
 (∃ jF : Nat, (jF < fz) ∧
 I12 jF [(.slice WB fO fm), (iV (IntKind.wrap .i64 (nN + 1)))] wj))
 (rS vr k1 3 fun GW zq mV =>
 ∃ I47 : IT, (∃ yx, I47 yx [(.slice (some ⟨k7, 0, none⟩) 0 0), (iV 0)] vr) ∧
 ∀ (nC : Nat) (_ : Nat → Value) (JU : Option Addr) (tv : Nat) (kL : Nat) (vz : Int) (J0 : Mem), (I47 nC [(.slice JU tv kL), (iV vz)] J0) → aM (decide (vz < zq))
 ((0 ≤ vz) ∧
 (vz < zq) ∧
 aE GW fun xM wU =>
 eR J0 xM (wU + ((Int.toNat vz) * 3)) fun CW HU vp =>
 aO J0 ik fun tB NQ =>
 pb NQ tB (iV CW) (iV HU) (iV vp) fun Xe =>
 rI Xe tB 0 fun O5 =>
 aM (O5 != x1)
 (rI Xe tB 0 fun Ik =>
 rI Xe tB 1 fun wW =>
 rI Xe tB 2 fun KP =>
 aO Xe (cl [(iV Ik), (iV wW), (iV KP)] 289) fun D8 Da =>
 aA 188 JU tv kL (some ⟨D8, 0, none⟩) 1 1 Da (fun v72 Iv =>
 aF (some v72) fun A74 Pf K9 =>
 ∃ zZ : Nat, (zZ < nC) ∧
 I47 zZ [(.slice A74 Pf K9), (iV (IntKind.wrap .i64 (vz + 1)))] Iv) Kp)
 (∃ C4 : Nat, (C4 < nC) ∧
 I47 C4 [(.slice JU tv kL), (iV (IntKind.wrap .i64 (vz + 1)))] Xe))
 (sT J0 k1 2 (.slice WB fO fm) fun Xf =>
 sT Xf k1 3 (.slice JU tv kL) fun VT =>
 cI VT k1 0 fun QS A82 xN WM A85 N0 KT Wz Sp O9 t91 =>
 Bn VT k3 (iV QS) (.slice A82 xN WM) (.slice A85 N0 KT) (.slice Wz Sp O9) (.bool t91) fun M96 =>
 cI M96 k3 0 fun n97 A98 QM qo A101 z7 BL A104 Pb Fl t107 =>
 K (.agg #[(iV n97), (.slice A98 QM qo), (.slice A101 z7 BL), (.slice A104 Pb Fl), (.bool t107)]) M96))) :
 ae Tryz.prog 224 #[.agg #[.int .i64 oe, .slice iP iQ iR, .slice xk xl xm, .slice jQ jR jS, .bool BX], .int .i64 x1] M K Kp := vw [(2000000, .loop [(5, .c .sl), (16, .c (.int .i64))]), (2000002, .loop [(6, .c .sl), (32, .c (.int .i64))])] Tryz.func224 h
theorem qA {oe : Int} {iP : Option Addr} {iQ iR : Nat} {xk : Option Addr} {xl xm : Nat} {jQ : Option Addr} {jR jS : Nat} {BX : Bool} (h :
aO M (cl [(iV oe), (.slice iP iQ iR), (.slice xk xl xm), (.slice jQ jR jS), (.bool BX)] 190) fun k1 M2 =>
aO M2 cZ fun k3 M4 =>
rB M4 k1 4 fun t5 =>
aM t5
 (rI M4 k1 0 fun n6 =>
 rS M4 k1 1 fun A7 k8 k9 =>
 rS M4 k1 2 fun KH eu gF =>
 rS M4 k1 3 fun zu fz ju =>
 rB M4 k1 4 fun t16 =>
 Bn M4 k3 (iV n6) (.slice A7 k8 k9) (.slice KH eu gF) (.slice zu fz ju) (.bool t16) fun jD =>
 cI jD k3 0 fun wP O3 nM jE WQ kF gS A29 jc iH t32 =>
 K (.tuple #[(.agg #[(iV wP), (.slice O3 nM jE), (.slice WQ kF gS), (.slice A29 jc iH), (.bool t32)]), (.slice none 0 0), (.slice none 0 0), (iV 10)]) jD)
 (rI M4 k1 0 fun kK =>
 rS M4 k1 1 fun D6 ku nP =>
 rS M4 k1 3 fun z6 fB lH =>
 rS M4 k1 2 fun A40 mP jO =>
 Bn M4 k3 (iV kK) (.slice D6 ku nP) (.slice none 0 0) (.slice none 0 0) (.bool true) fun wT =>
 eS wT k1 2 A40 mP jO ∧
 eS wT k1 3 z6 fB lH ∧
 cI wT k3 0 fun Fw Zd vt D7 HV kL wq Se xM wU t58 =>
 K (.tuple #[(.agg #[(iV Fw), (.slice Zd vt D7), (.slice HV kL wq), (.slice Se xM wU), (.bool t58)]), (.slice z6 fB lH), (.slice A40 mP jO), (iV 0)]) wT)) :
 ae Tryz.prog 191 #[.agg #[.int .i64 oe, .slice iP iQ iR, .slice xk xl xm, .slice jQ jR jS, .bool BX]] M K Kp := vw [(3, .bH [0, 1, 0, 4, 15, 0, 32, 0, 128, 31, 639, 2047, 4095] (sy [0, 2, 5, 7, 1, 3, 4] (.cQ 6 (.cQ 8 (sy [9, 10, 11, 12] .done)))))] Tryz.func191 h
theorem rX {B0 : Option Addr} {m0 c0 : Nat} (h :
aO M (cl [] 289) fun k1 M2 =>
((0 : Int) ≤ c0) ∧
((c0 : Int) ≤ c0) ∧
((0 : Int) ≤ m0) ∧
((m0 : Int) ≤ c0) ∧
((0 : Int) ≤ 1) ∧
((1 : Int) ≤ m0) ∧
bj Tryz.prog (Go.Builtin.append_ #[188, 188] 188 #[(.slice (some ⟨k1, 0, none⟩) 0 0), (.slice (iZ B0 1 (Int.toNat (c0 : Int)) 3) ((Int.toNat (m0 : Int)) - 1) ((Int.toNat (c0 : Int)) - 1))]) M2 (fun v3 M4 =>
aF (some v3) fun A5 k6 k7 =>
K (.slice A5 k6 k7) M4) Kp) :
 ae Tryz.prog 218 #[.slice B0 m0 c0] M K Kp := vw [] Tryz.func218 h
theorem qB {B0 : Option Addr} {m0 c0 : Nat} {B1 : Option Addr} {m1 c1 : Nat} (h :
aM ((m0 : Int) != (m1 : Int))
 (K (iV (-1)) M)
 (∃ I1 : IT, (∃ k2, I1 k2 [(iV 0)] M) ∧
 ∀ (k3 : Nat) (_ : Nat → Value) (n5 : Int) (M6 : Mem), (I1 k3 [(iV n5)] M6) → aM (decide (n5 < m1))
 ((0 ≤ n5) ∧
 (n5 < m0) ∧
 aE B0 fun k7 k8 =>
 (0 ≤ n5) ∧
 (n5 < m1) ∧
 aE B1 fun k9 eD =>
 eR M6 k7 (k8 + ((Int.toNat n5) * 3)) fun kY gZ mY =>
 eR M6 k9 (eD + ((Int.toNat n5) * 3)) fun jA kX nZ =>
 aM (!((kY == jA) && ((gZ == kX) && ((mY == nZ) && true))))
 (K (iV (-1)) M6)
 (∃ fO : Nat, (fO < k3) ∧
 I1 fO [(iV (IntKind.wrap .i64 (n5 + 1)))] M6))
 (K (iV 0) M6))) :
 ae Tryz.prog 116 #[.slice B0 m0 c0, .slice B1 m1 c1] M K Kp := vw [(2000000, .loop [(13, .c (.int .i64))]), (6, .bH [0, 0, 3, 7, 0, 0, 48, 112, 255] (sy [0, 1, 2, 4, 5, 6, 3, 7, 8] .done))] Tryz.func116 h
theorem rY {iM : Option Addr} {iN iO : Nat} {iP : Option Addr} {iQ iR : Nat} {xk : Option Addr} {xl xm : Nat} {q0_3 : Bool} {dS : Int} {B1_1 : Option Addr} {m1_1 c1_1 : Nat} {B1_2 : Option Addr} {m1_2 c1_2 : Nat} {B1_3 : Option Addr} {m1_3 c1_3 : Nat} {q1_4 : Bool} (h :
aO M (cl [(.slice iM iN iO), (.slice iP iQ iR), (.slice xk xl xm), (.bool q0_3)] 201) fun k1 M2 =>
aO M2 (cl [(iV dS), (.slice B1_1 m1_1 c1_1), (.slice B1_2 m1_2 c1_2), (.slice B1_3 m1_3 c1_3), (.bool q1_4)] 190) fun k3 M4 =>
rS M4 k1 0 fun A5 k6 k7 =>
rS M4 k3 1 fun A8 k9 eD =>
aM ((k6 : Int) != (k9 : Int))
 (K (iV (-1)) M4)
 (rB M4 k1 3 fun t11 =>
 rB M4 k3 4 fun t12 =>
 aM (!(t11 == t12))
 (K (iV (-1)) M4)
 (rS M4 k1 1 fun zu fz ju =>
 rS M4 k3 2 fun WB fO fm =>
 ae Tryz.prog 116 #[(.slice zu fz ju), (.slice WB fO fm)] M4 (fun Pj vr =>
 bF (some Pj) .i64 fun u0 =>
 aM (u0 != 0)
 (K (iV (-1)) vr)
 (rS vr k1 2 fun K2 gI nM =>
 rS vr k3 3 fun CL gH kF =>
 ae Tryz.prog 116 #[(.slice K2 gI nM), (.slice CL gH kF)] vr (fun O8 pz =>
 bF (some O8) .i64 fun w6 =>
 aM (w6 != 0)
 (K (iV (-1)) pz)
 (rS pz k3 1 fun HT ie lg =>
 ∃ I34 : IT, (∃ ku, I34 ku [(iV 0)] pz) ∧
 ∀ (nP : Nat) (_ : Nat → Value) (mo : Int) (Fi : Mem), (I34 nP [(iV mo)] Fi) → aM (decide (mo < ie))
 ((0 ≤ mo) ∧
 (mo < ie) ∧
 aE HT fun tY mP =>
 rI Fi tY (mP + (Int.toNat mo)) fun BH =>
 rS Fi k1 0 fun A43 ym zq =>
 (0 ≤ mo) ∧
 (mo < ym) ∧
 aE A43 fun mV j9 =>
 rI Fi mV (j9 + (Int.toNat mo)) fun Fw =>
 aM (Fw != BH)
 (K (iV (-1)) Fi)
 (∃ nC : Nat, (nC < nP) ∧
 I34 nC [(iV (IntKind.wrap .i64 (mo + 1)))] Fi))
 (K (iV 0) Fi))) Kp)) Kp))) :
 ae Tryz.prog 85 #[.agg #[.slice iM iN iO, .slice iP iQ iR, .slice xk xl xm, .bool q0_3], .agg #[.int .i64 dS, .slice B1_1 m1_1 c1_1, .slice B1_2 m1_2 c1_2, .slice B1_3 m1_3 c1_3, .bool q1_4]] M K Kp := vw [(2000000, .loop [(40, .c (.int .i64))])] Tryz.func85 h
end Go.Proofs
