/- A part of proofs about one program. -/
import Derived.Test.YtnnlgknlialpmaaGreatProg
import Derived.Test.YtnnlgknlialpmaaGreatZTaperSumsStC
import Derived.Test.YtnnlgknlialpmaaGreatZTaperSumsMod
import Derived.Test.YtnnlgknlialpmaaGreatZTaperSumsWin2
set_option linter.unusedVariables false
namespace Go.Proofs
open Go.AF
noncomputable def Cx : Ctx := ⟨Tryz.prog, 255⟩
theorem good : Cx.Good := by
 refine ⟨?_, by kernel_rfl⟩
 have h : (List.range 253).all (fun g => pR Tryz.prog (g + 2)) = true := by kernel_rfl
 intro g hg
 have h1 : g < 255 := hg.2
 have := List.all_eq_true.1 h (g - 2) (List.mem_range.2 (by omega))
 have e : g - 2 + 2 = g := by omega
 simp only [e] at this
 exact this
def sy : List Nat → Ex → Ex
 | [], e => e
 | i :: l, e => .step i (sy l e)
abbrev aA (t : Nat) (A : Option Addr) (n c : Nat) (B : Option Addr) (m d : Nat) (M : Mem) (K : Value → Mem → Prop) (Kp : List PanicEntry → Mem → Prop) : Prop := aX Tryz.prog (Go.Builtin.append_ #[t, t] t #[.slice A n c, .slice B m d]) M K Kp
theorem vw {f : FuncId} {fn : Func} {args : List Value} {M : Mem} {K : Value → Mem → Prop} {Kp : List PanicEntry → Mem → Prop} (H : List (Nat × Hint)) (hf : Cx.P.funcs[f]? = some fn) {vc : Prop} (h : vc) (h1 : zK fn args.length = true := by kernel_rfl)
  (h2 : vc = dY Cx H Kp (fu fn) 0 (Mk Cx.P fn K) (gr args) M := by kernel_rfl) : aa Cx.P f args.toArray M K Kp := bV (C := Cx) good H hf h1 h2 h
end Go.Proofs
namespace Go.Proofs
open Go.AF
set_option maxRecDepth 100000
variable {M : Mem} {K : Value → Mem → Prop} {Kp : List PanicEntry → Mem → Prop}
theorem Ec {x0 : Int} (h :
aW M (cl [(iV (if (16 : Int) < (if (0 : Int) > x0 then 0 else x0) then 16 else (if (0 : Int) > x0 then 0 else x0))), (.slice none 0 0), (.slice none 0 0), (.slice none 0 0), (.bool false)] 305) fun k1 M2 =>
K (.pointer (some ⟨k1, 0, none⟩)) M2) :
 aa Tryz.prog 113 #[.int .i64 x0] M K Kp := vw [] Tryz.func113 h
theorem so {b0 o0 : Nat} (h :
aW M Ay fun k1 M2 =>
rS M2 b0 (o0 + 1) fun A3 k4 k5 =>
rS M2 b0 (o0 + 2) fun A6 k7 k8 =>
rS M2 b0 (o0 + 3) fun A9 c6 dL =>
rB M2 b0 (o0 + 4) fun t12 =>
aW M2 (cl [] 2) fun cY jM =>
(True) ∧
(True) ∧
aA 53 (some ⟨cY, 0, none⟩) 0 0 A3 k4 k5 jM (fun vK eB =>
az (some vK) fun Ed dx gZ =>
((Mem.ld eB ⟨b0, (o0 + 4), none⟩) = (some (.bool t12))) ∧
((Mem.ld eB ⟨b0, (o0 + 3), none⟩) = (some (.slice A9 c6 dL))) ∧
((Mem.ld eB ⟨b0, (o0 + 2), none⟩) = (some (.slice A6 k7 k8))) ∧
aW eB (cl [] 280) fun iM jG =>
(True) ∧
aA 195 (some ⟨iM, 0, none⟩) 0 0 A6 k7 k8 jG (fun AA gQ =>
az (some AA) fun ze nj lV =>
((Mem.ld gQ ⟨b0, (o0 + 4), none⟩) = (some (.bool t12))) ∧
((Mem.ld gQ ⟨b0, (o0 + 3), none⟩) = (some (.slice A9 c6 dL))) ∧
((Mem.ld gQ ⟨b0, (o0 + 2), none⟩) = (some (.slice A6 k7 k8))) ∧
aW gQ (cl [] 280) fun oT oU =>
aA 195 (some ⟨oT, 0, none⟩) 0 0 A9 c6 dL oU (fun IG kW =>
az (some IG) fun Db nO nQ =>
((Mem.ld kW ⟨b0, (o0 + 4), none⟩) = (some (.bool t12))) ∧
((Mem.ld kW ⟨b0, (o0 + 3), none⟩) = (some (.slice A9 c6 dL))) ∧
((Mem.ld kW ⟨b0, (o0 + 2), none⟩) = (some (.slice A6 k7 k8))) ∧
kB kW k1 (.slice Ed dx gZ) (.slice ze nj lV) (.slice Db nO nQ) (.bool t12) fun yG =>
((Mem.ld yG ⟨b0, (o0 + 4), none⟩) = (some (.bool t12))) ∧
((Mem.ld yG ⟨b0, (o0 + 3), none⟩) = (some (.slice A9 c6 dL))) ∧
((Mem.ld yG ⟨b0, (o0 + 2), none⟩) = (some (.slice A6 k7 k8))) ∧
KF yG k1 0 fun A38 rK xq Wf HQ nR A44 II Fe t47 =>
K (.agg #[(.slice A38 rK xq), (.slice Wf HQ nR), (.slice A44 II Fe), (.bool t47)]) yG) Kp) Kp) Kp) :
 aa Tryz.prog 137 #[.pointer (some ⟨b0, o0, none⟩)] M K Kp := vw [(1, .bQ [0, 0, 2, 6, 14, 31, 0, 0, 128, 384, 896, 2047, 0, 0, 8192, 24576, 57344, 131071, 0, 262144, 786432, 1835008, 4194303, 8388607] (sy [1, 2, 3, 7, 8, 9, 13, 14, 15, 18, 19, 20, 4] (.cE 10 (.cE 16 (.cE 21 (sy [0] (.late 5 (sy [6] (.late 11 (sy [12, 17, 22, 23] .done))))))))))] Tryz.func137 h
theorem ov {b0 o0 : Nat} {cQ : Int} {cR : Int} {cT : Int} (h :
aW M (cl [(iV cQ), (iV cR), (iV cT)] 280) fun k1 M2 =>
rS M2 b0 (o0 + 3) fun A3 k4 k5 =>
j9 M2 k1 0 fun n6 n7 n8 =>
aW M2 (cl [(iV n6), (iV n7), (iV n8)] 280) fun k9 fJ =>
aA 195 A3 k4 k5 (some ⟨k9, 0, none⟩) 1 1 fJ (fun v11 j0 =>
az (some v11) fun Dc eX gj =>
sT j0 b0 (o0 + 3) (.slice Dc eX gj) fun eB =>
K (.tuple #[]) eB) Kp) :
 aa Tryz.prog 235 #[.pointer (some ⟨b0, o0, none⟩), .agg #[.int .i64 cQ, .int .i64 cR, .int .i64 cT]] M K Kp := vw [(1, .bQ [0, 0, 2, 6, 14, 0, 32, 126, 255, 511, 1023] (sy [0, 1, 2, 3, 4, 5, 6, 7, 8, 9, 10] .done))] Tryz.func235 h
theorem ox {b0 o0 : Nat} {cQ : Int} {cR : Int} {cT : Int} (h :
aW M (cl [(iV cQ), (iV cR), (iV cT)] 280) fun k1 M2 =>
rS M2 b0 (o0 + 2) fun A3 k4 k5 =>
j9 M2 k1 0 fun n6 n7 n8 =>
aW M2 (cl [(iV n6), (iV n7), (iV n8)] 280) fun k9 fJ =>
aA 195 A3 k4 k5 (some ⟨k9, 0, none⟩) 1 1 fJ (fun v11 j0 =>
az (some v11) fun Dc eX gj =>
sT j0 b0 (o0 + 2) (.slice Dc eX gj) fun eB =>
K (.tuple #[]) eB) Kp) :
 aa Tryz.prog 236 #[.pointer (some ⟨b0, o0, none⟩), .agg #[.int .i64 cQ, .int .i64 cR, .int .i64 cT]] M K Kp := vw [(1, .bQ [0, 0, 2, 6, 14, 0, 32, 126, 255, 511, 1023] (sy [0, 1, 2, 3, 4, 5, 6, 7, 8, 9, 10] .done))] Tryz.func236 h
theorem uk {b0 o0 : Nat} {x1 : Int} (h :
aW M jy fun k1 M2 =>
rB M2 b0 (o0 + 4) fun t3 =>
aQ t3
 (sT M2 k1 0 (iV 0) fun M4 =>
 sT M4 k1 1 (iV 0) fun M5 =>
 sT M5 k1 2 (iV 0) fun M6 =>
 j9 M6 k1 0 fun n7 n8 n9 =>
 K (.tuple #[(.agg #[(iV n7), (iV n8), (iV n9)]), (.bool false), (iV 10)]) M6)
 (rS M2 b0 (o0 + 3) fun vg dL eU =>
 aQ (decide ((dL : Int) > 0))
 (aW M2 jy fun cY jM =>
 rS jM b0 (o0 + 3) fun nS dK dS =>
 aa Tryz.prog 250 #[(.slice nS dK dS)] jM (fun AB iN =>
 ∃ dZ jr mP : Int, ∃ HR : Option Addr, ∃ kC nj : Nat, (AB = (.tuple #[(.agg #[(iV dZ), (iV jr), (iV mP)]), (.slice HR kC nj)])) ∧
 FY iN cY (iV dZ) (iV jr) (iV mP) fun oU =>
 sT oU b0 (o0 + 3) (.slice HR kC nj) fun kf =>
 sT kf cY 2 (iV x1) fun kW =>
 j9 kW cY 0 fun tQ n32 rL =>
 FY kW k1 (iV tQ) (iV n32) (iV rL) fun Ee =>
 j9 Ee k1 0 fun KM Cc Ef =>
 K (.tuple #[(.agg #[(iV KM), (iV Cc), (iV Ef)]), (.bool true), (iV 0)]) Ee) Kp)
 (rS M2 b0 (o0 + 1) fun Zh AD HQ =>
 rI M2 b0 o0 fun BW =>
 aQ (decide ((AD : Int) < BW))
 (rS M2 b0 (o0 + 1) fun A44 II Fe =>
 aW M2 (cl [(iV x1)] 2) fun N7 Pd =>
 aA 53 A44 II Fe (some ⟨N7, 0, none⟩) 1 1 Pd (fun Mu zO =>
 az (some Mu) fun Wg um uo =>
 sT zO b0 (o0 + 1) (.slice Wg um uo) fun Ff =>
 FY Ff k1 (iV 0) (iV 0) (iV 0) fun Pe =>
 j9 Pe k1 0 fun KN F1 HS =>
 K (.tuple #[(.agg #[(iV KN), (iV F1), (iV HS)]), (.bool false), (iV 0)]) Pe) Kp)
 (sT M2 k1 0 (iV 0) fun Dd =>
 sT Dd k1 1 (iV 0) fun wS =>
 sT wS k1 2 (iV 0) fun zf =>
 j9 zf k1 0 fun n64 vL N8 =>
 K (.tuple #[(.agg #[(iV n64), (iV vL), (iV N8)]), (.bool false), (iV 6)]) zf)))) :
 aa Tryz.prog 237 #[.pointer (some ⟨b0, o0, none⟩), .int .i64 x1] M K Kp := vw [(8, .bQ [0, 1, 3, 7, 15, 0, 32, 96, 224, 511, 1023] (sy [0, 1, 2, 5, 6, 7, 3, 4, 8, 9, 10] .done))] Tryz.func237 h
theorem uq {b0 o0 : Nat} (h :
aW M ot fun k1 M2 =>
aW M2 ot fun k3 M4 =>
rS M4 b0 (o0 + 2) fun A5 k6 k7 =>
∃ J8 : List Value → Mem → Prop, (aQ (decide ((k6 : Int) > 0))
 (rS M4 b0 (o0 + 2) fun A9 c6 dL =>
 aa Tryz.prog 250 #[(.slice A9 c6 dL)] M4 (fun zL jl =>
 ∃ j5 gT jz : Int, ∃ Ed : Option Addr, ∃ dx gZ : Nat, (zL = (.tuple #[(.agg #[(iV j5), (iV gT), (iV jz)]), (.slice Ed dx gZ)])) ∧
 sT jl k3 2 (iV j5) fun kX =>
 sT kX k3 (2 + 1) (iV gT) fun jG =>
 sT jG k3 (2 + 2) (iV jz) fun cU =>
 sT cU b0 (o0 + 2) (.slice Ed dx gZ) fun gQ =>
 sT gQ k3 5 (.bool true) fun j6 =>
 rS j6 b0 (o0 + 1) fun SK lV oT =>
 rI j6 k3 (2 + 2) fun rM =>
 aW j6 (cl [(iV rM)] 2) fun nT kW =>
 aA 53 SK lV oT (some ⟨nT, 0, none⟩) 1 1 kW (fun SL nk =>
 az (some SL) fun F2 sq yH =>
 sT nk b0 (o0 + 1) (.slice F2 sq yH) fun Ee =>
 J8 [] Ee) Kp) Kp)
 (J8 [] M4)) ∧
∀ junk37 : Nat → Value, ∀ lW : Mem, (J8 [] lW) → rS lW b0 (o0 + 1) fun HT xq AD =>
aQ (decide ((xq : Int) > 0))
 (rS lW b0 (o0 + 1) fun Eg nR BX =>
 ((0 : Int) ≤ 0) ∧
 ((0 : Int) < nR) ∧
 aE Eg fun II Fe =>
 rI lW II (Fe + 0) fun wT =>
 sT2 lW k3 (iV wT) (.bool true) fun zg =>
 aW zg (cl [] 2) fun KO Pf =>
 rS Pf b0 (o0 + 1) fun A52 uo Pg =>
 ((0 : Int) ≤ Pg) ∧
 ((Pg : Int) ≤ Pg) ∧
 ((0 : Int) ≤ uo) ∧
 ((uo : Int) ≤ Pg) ∧
 ((0 : Int) ≤ 1) ∧
 ((1 : Int) ≤ uo) ∧
 aX Tryz.prog (Go.Builtin.append_ #[53, 53] 53 #[(.slice (some ⟨KO, 0, none⟩) 0 0), (.slice (kx A52 1 (Int.toNat (Pg : Int)) 1) ((Int.toNat (uo : Int)) - 1) ((Int.toNat (Pg : Int)) - 1))]) Pf (fun Wh U9 =>
 az (some Wh) fun Va BY F3 =>
 sT U9 b0 (o0 + 1) (.slice Va BY F3) fun F4 =>
 zM F4 k3 0 fun De t62 F5 n64 vL t66 =>
 sT6 F4 k1 (iV De) (.bool t62) (iV F5) (iV n64) (iV vL) (.bool t66) fun N9 =>
 zM N9 k1 0 fun Wi t74 SM F6 zh t78 =>
 K (.tuple #[(.agg #[(iV Wi), (.bool t74), (iV SM), (iV F6), (iV zh), (.bool t78)]), (iV 0)]) N9) Kp)
 (rB lW b0 (o0 + 4) fun t79 =>
 aQ t79
 (rI lW k3 0 fun RP =>
 rB lW k3 1 fun t81 =>
 rI lW k3 2 fun Oa =>
 rI lW k3 3 fun Vb =>
 rI lW k3 4 fun Ob =>
 rB lW k3 5 fun t85 =>
 sT6 lW k1 (iV RP) (.bool t81) (iV Oa) (iV Vb) (iV Ob) (.bool t85) fun my =>
 zM my k1 0 fun n92 t93 KP Fg HU t97 =>
 K (.tuple #[(.agg #[(iV n92), (.bool t93), (iV KP), (iV Fg), (iV HU), (.bool t97)]), (iV 0)]) my)
 (rI lW k3 0 fun Zi =>
 rB lW k3 1 fun t99 =>
 rI lW k3 2 fun vM =>
 rI lW k3 3 fun Ph =>
 rI lW k3 4 fun IJ =>
 rB lW k3 5 fun t103 =>
 sT6 lW k1 (iV Zi) (.bool t99) (iV vM) (iV Ph) (iV IJ) (.bool t103) fun vN =>
 zM vN k1 0 fun IK t111 xu IL Eh t115 =>
 K (.tuple #[(.agg #[(iV IK), (.bool t111), (iV xu), (iV IL), (iV Eh), (.bool t115)]), (iV 5)]) vN))) :
 aa Tryz.prog 239 #[.pointer (some ⟨b0, o0, none⟩)] M K Kp := vw [(3000010, .cut []), (5, .bQ [0, 0, 2, 6, 14, 0, 32, 96, 224, 510, 1023, 2047, 4095] (sy [0, 1, 2, 3, 5, 6, 4, 7, 8, 9, 10, 11, 12] .done))] Tryz.func239 h
theorem sr {b0 o0 : Nat} (h :
rB M b0 (o0 + 4) fun t1 =>
aQ t1
 (K (.tuple #[(.slice none 0 0), (.slice none 0 0), (iV 10)]) M)
 (rS M b0 (o0 + 3) fun A2 k3 k4 =>
 rS M b0 (o0 + 2) fun A5 k6 k7 =>
 sT M b0 (o0 + 4) (.bool true) fun M8 =>
 sT M8 b0 (o0 + 3) (.slice none 0 0) fun M9 =>
 sT M9 b0 (o0 + 2) (.slice none 0 0) fun fJ =>
 K (.tuple #[(.slice A2 k3 k4), (.slice A5 k6 k7), (iV 0)]) fJ)) :
 aa Tryz.prog 243 #[.pointer (some ⟨b0, o0, none⟩)] M K Kp := vw [(3, .bQ [0, 1, 3, 7, 0, 16, 48, 112, 15, 511] (sy [0, 1, 2, 4, 5, 6, 3, 8, 7, 9] .done))] Tryz.func243 h
theorem oZ {b0 o0 : Nat} (h :
rB M b0 (o0 + 4) fun t1 =>
aQ t1
 (K (.bool true) M)
 (rS M b0 (o0 + 2) fun A2 k3 k4 =>
 aQ (decide ((k3 : Int) > 0))
 (K (.bool true) M)
 (rS M b0 (o0 + 1) fun A5 k6 k7 =>
 K (.bool (decide ((k6 : Int) > 0))) M))) :
 aa Tryz.prog 248 #[.pointer (some ⟨b0, o0, none⟩)] M K Kp := vw [] Tryz.func248 h
theorem o5 {b0 o0 : Nat} (h :
rB M b0 (o0 + 4) fun t1 =>
aQ t1
 (K (.bool true) M)
 (rS M b0 (o0 + 3) fun A2 k3 k4 =>
 aQ (decide ((k3 : Int) > 0))
 (K (.bool true) M)
 (rS M b0 (o0 + 1) fun A5 k6 k7 =>
 rI M b0 o0 fun n8 =>
 K (.bool (decide ((k6 : Int) < n8))) M))) :
 aa Tryz.prog 249 #[.pointer (some ⟨b0, o0, none⟩)] M K Kp := vw [(1, .bQ [0, 1, 3, 7, 15, 31, 63, 127, 255, 511, 1023, 2047, 4095, 8191, 16383, 32767, 65535, 131071, 8191, 270335, 794623, 1843199, 4194303, 8388607, 16777215] (sy [0, 1, 2, 3, 4, 5, 6, 7, 8, 9, 10, 11, 12, 13, 14, 15, 18, 19, 20, 16, 17, 21, 22, 23, 24] .done))] Tryz.func249 h
theorem AE {B0 : Option Addr} {m0 c0 : Nat} (h :
aW M jy fun k1 M2 =>
((0 : Int) ≤ 0) ∧
((0 : Int) < m0) ∧
aE B0 fun k3 k4 =>
((0 : Int) ≤ c0) ∧
((c0 : Int) ≤ c0) ∧
((0 : Int) ≤ m0) ∧
((m0 : Int) ≤ c0) ∧
((0 : Int) ≤ 1) ∧
((1 : Int) ≤ m0) ∧
j9 M2 k3 (k4 + 0) fun n5 n6 n7 =>
aW M2 (cl [] 280) fun k8 M9 =>
aX Tryz.prog (Go.Builtin.append_ #[195, 195] 195 #[(.slice (some ⟨k8, 0, none⟩) 0 0), (.slice (kx B0 1 (Int.toNat (c0 : Int)) 3) ((Int.toNat (m0 : Int)) - 1) ((Int.toNat (c0 : Int)) - 1))]) M9 (fun v10 ir =>
az (some v10) fun ur cY eX =>
((Mem.gd ir ⟨k3, (k4 + 0), none⟩ 0 3) = some [(iV n5), (iV n6), (iV n7)]) ∧
FY ir k1 (iV n5) (iV n6) (iV n7) fun kY =>
((Mem.gd kY ⟨k3, (k4 + 0), none⟩ 0 3) = some [(iV n5), (iV n6), (iV n7)]) ∧
j9 kY k1 0 fun g9 lF dZ =>
K (.tuple #[(.agg #[(iV g9), (iV lF), (iV dZ)]), (.slice ur cY eX)]) kY) Kp) :
 aa Tryz.prog 250 #[.slice B0 m0 c0] M K Kp := vw [(1, .bQ [0, 1, 3, 0, 0, 16, 56, 127, 255] (sy [0, 1, 4, 5] (.cE 2 (sy [3, 6, 7, 8] .done))))] Tryz.func250 h
theorem uu {b0 o0 : Nat} {x1 : Int} (h :
rS M b0 (o0 + 2) fun A1 k2 k3 =>
(aa Tryz.prog 254 #[(.slice A1 k2 k3), (iV x1)] M (fun v4 M5 =>
 az (some v4) fun A6 k7 k8 =>
 rS M5 b0 (o0 + 3) fun A9 c6 dL =>
 aa Tryz.prog 254 #[(.slice A9 c6 dL), (iV x1)] M5 (fun zL jl =>
 az (some zL) fun jo gj dK =>
 sT jl b0 (o0 + 2) (.slice A6 k7 k8) fun kY =>
 sT kY b0 (o0 + 3) (.slice jo gj dK) fun nU =>
 K (.tuple #[]) nU) Kp) Kp) ∧
(rS M b0 (o0 + 3) fun Cd iM eG =>
 aa Tryz.prog 254 #[(.slice A1 k2 k3), (iV x1)] M (fun AA gQ =>
 az (some AA) fun ze nj lV =>
 aa Tryz.prog 254 #[(.slice Cd iM eG), (iV x1)] gQ (fun F7 oU =>
 az (some F7) fun RQ kZ lZ =>
 sT oU b0 (o0 + 2) (.slice ze nj lV) fun nk =>
 sT nk b0 (o0 + 3) (.slice RQ kZ lZ) fun xw =>
 K (.tuple #[]) xw) Kp) Kp) ∧
True) :
 aa Tryz.prog 253 #[.pointer (some ⟨b0, o0, none⟩), .int .i64 x1] M K Kp := vw [(0, .bQ [0, 0, 0, 4, 12, 28, 0, 124, 0, 256, 768, 1792, 0, 8188, 16381, 32765, 65533, 131071, 262143, 524287] (sy [0, 1, 2, 3, 4, 6, 8, 9, 10, 12, 5] (.fork 7 (sy [11, 13, 14, 15, 16, 17, 18, 19] .done) (.fork 11 (sy [7, 13, 14, 15, 16, 17, 18, 19] .done) .dead))))] Tryz.func253 h
theorem xy {B0 : Option Addr} {m0 c0 : Nat} {x1 : Int} (h :
∃ I1 : IT, (∃ k2, I1 k2 [(.slice none 0 0), (iV 0)] M) ∧
∀ (k3 : Nat) (_ : Nat → Value) (A5 : Option Addr) (k6 : Nat) (k7 : Nat) (n8 : Int) (M9 : Mem), (I1 k3 [(.slice A5 k6 k7), (iV n8)] M9) → aQ (decide (n8 < m0))
 ((0 ≤ n8) ∧
 (n8 < m0) ∧
 aE B0 fun c6 dL =>
 j9 M9 c6 (dL + ((Int.toNat n8) * 3)) fun gy hG j5 =>
 aW M9 jy fun gj eB =>
 FY eB gj (iV gy) (iV hG) (iV j5) fun iN =>
 rI iN gj 0 fun dZ =>
 aQ (dZ != x1)
 (rI iN gj 0 fun jr =>
 rI iN gj 1 fun mP =>
 rI iN gj 2 fun o6 =>
 aW iN (cl [(iV jr), (iV mP), (iV o6)] 280) fun kC wU =>
 aA 195 A5 k6 k7 (some ⟨kC, 0, none⟩) 1 1 wU (fun SN pN =>
 az (some SN) fun SO nT kZ =>
 ∃ lZ : Nat, (lZ < k3) ∧
 I1 lZ [(.slice SO nT kZ), (iV (IntKind.wrap .i64 (n8 + 1)))] pN) Kp)
 (∃ nO : Nat, (nO < k3) ∧
 I1 nO [(.slice A5 k6 k7), (iV (IntKind.wrap .i64 (n8 + 1)))] iN))
 (K (.slice A5 k6 k7) M9)) :
 aa Tryz.prog 254 #[.slice B0 m0 c0, .int .i64 x1] M K Kp := vw [(2000000, .loop [(5, .c .sl), (10, .c (.int .i64))])] Tryz.func254 h
end Go.Proofs
namespace Go.Proofs
open Go.AF
set_option maxRecDepth 100000
set_option maxHeartbeats 1000000
attribute [local irreducible] aK dH fz cv az fC aE aN aW aX bL aQ
theorem xz : bg Tryz.prog 53 2 1 8 [.int .i64 0] := bg.mk' (zv := .int .i64 0) (by kernel_rfl) (by kernel_rfl) rfl (by omega)
theorem rN : bg Tryz.prog 195 280 3 24 [.int .i64 0, .int .i64 0, .int .i64 0] := bg.mk' (zv := .agg #[.int .i64 0, .int .i64 0, .int .i64 0]) (by kernel_rfl) (by kernel_rfl) rfl (by omega)
abbrev iO (A : Option Addr) (c : Nat) (l : List Int) : HP := bE br 2 A c l
abbrev nm (A : Option Addr) (c : Nat) (l : List Wt) : HP := bE fA 280 A c l
abbrev iH (c : aZ) (Ab : Option Addr) (cb : Nat) (As : Option Addr) (cs : Nat) (Ar : Option Addr) (cr : Nat) : List Value :=
 [.int .i64 (c.room : Int), .slice Ab c.buf.length cb, .slice As c.snd.length cs, .slice Ar c.dy.length cr, .bool c.closed]
def bI : ug aZ := ⟨fun b c => exs fun Ab : Option Addr => exs fun cb : Nat => exs fun As : Option Addr => exs fun cs : Nat => exs fun Ar : Option Addr => exs fun cr : Nat =>
 sep [pt b (iH c Ab cb As cs Ar cr) 305, iO Ab cb c.buf, nm As cs c.snd, nm Ar cr c.dy]⟩
section
variable {R : Mem} {L L' : List HP} {M : Mem} {K : Value → Mem → Prop} {Kp : List PanicEntry → Mem → Prop} {b : Nat} {c : aZ}
theorem gU (h : Hp R L M) [o : bZ bI b L c L'] : ∃ Ab cb As cs Ar cr, Hp R (pt b (iH c Ab cb As cs Ar cr) 305 :: iO Ab cb c.buf :: nm As cs c.snd :: nm Ar cr c.dy :: L') M := by
 have := h.obj bI b
 simpa only [bI, Hp.dN, Hp.bk, List.cons_append, List.nil_append] using this
theorem KQ {Ab As Ar : Option Addr} {cb cs cr : Nat} (h : Hp R (pt b (iH c Ab cb As cs Ar cr) 305 :: iO Ab cb c.buf :: nm As cs c.snd :: nm Ar cr c.dy :: L) M) : Hp R (ax bI b c :: L) M := by
 refine Hp.xj ?_
 simp only [bI, Hp.dN, Hp.bk, List.cons_append, List.nil_append]
 exact ⟨_, _, _, _, _, _, h⟩
theorem dh {Ab As Ar : Option Addr} {nb cb ns cs nr cr room : Nat} {closed : Bool} {buf : List Int} {snd dy : List Wt} {L1 L2 L3 L4 : List HP} (h : Hp R L M) (b : Nat)
  [p : kL b L [.int .i64 (room : Int), .slice Ab nb cb, .slice As ns cs, .slice Ar nr cr, .bool closed] 305 L1] [p1 : cG Ab L1 Int br 2 cb buf L2] [p2 : cG As L2 Wt fA 280 cs snd L3] [p3 : cG Ar L3 Wt fA 280 cr dy L4]
  (e1 : nb = buf.length := by first | rfl | simp) (e2 : ns = snd.length := by first | rfl | simp) (e3 : nr = dy.length := by first | rfl | simp) : Hp R (ax bI b ⟨room, buf, snd, dy, closed⟩ :: L4) M := by
 subst e1; subst e2; subst e3
 exact KQ (h.sub (.cons p.pick (.cons p1.pick (.cons p2.pick (.cons p3.pick .refl)))))
theorem Df {room : Int} (h : Hp R L M) (k : ∀ b M', Hp R (ax bI b (.new room) :: L) M' → K (.pointer (some ⟨b, 0, none⟩)) M') :
  aa Tryz.prog 113 #[.int .i64 room] M K Kp := by
 refine Ec ?_
 rw [O2]
 refine aj h fun b M' h => k b M' (KQ ((((h.bR fA _).bR fA _).bR br _).sub bp))
theorem yI {B : Option Addr} {m c : Nat} {w : Wt} {r : List Wt} (h : Hp R L M) (hB : Src R L B (fA.cells (w :: r))) (hm : m = r.length + 1) (hc : m ≤ c) (hn : m ≤ 1000000000)
  (k : ∀ A' c' M', Hp R (nm A' c' r :: L) M' → K (.tuple #[.agg #[.int .i64 w.g, .int .i64 w.cs, .int .i64 w.v], .slice A' r.length c']) M') :
  aa Tryz.prog 250 #[.slice B m c] M K Kp := by
 refine AE ?_
 obtain ⟨b, o, rfl⟩ := hB.ie h (by simp) (by decide)
 repeat (first|(refine aj h ?_;clear h;intro kb M h)|(refine au h ?_;clear h;intro M h)|refine St.to h ?_|(apply Exists.intro;(repeat apply Exists.intro);refine And.intro rfl ?_)|refine av ?_|refine ae ?_|refine ai ?_)
 refine aR (hB.cons.at h (i := 0) (j := 0) rfl rfl (by omega)) ?_
 refine aR (hB.cons.at h (i := 0) (j := 1) rfl rfl (by omega)) ?_
 refine aR (hB.cons.at h (i := 0) (j := 2) rfl rfl (by omega)) ?_
 repeat (first|(refine aj h ?_;clear h;intro kb M h)|(refine au h ?_;clear h;intro M h)|refine St.to h ?_|(apply Exists.intro;(repeat apply Exists.intro);refine And.intro rfl ?_)|refine av ?_|refine ae ?_|refine ai ?_)
 have s2 := hB.drop (m := 1) (c := c) (by simp; omega)
 simp only [Int.toNat_natCast]
 refine h.fV fA rN r s2.cons.cons (by omega) (by omega) ?_
 clear h
 intro A' c' M h
 repeat (first|(refine aj h ?_;clear h;intro kb M h)|(refine au h ?_;clear h;intro M h)|refine St.to h ?_|(apply Exists.intro;(repeat apply Exists.intro);refine And.intro rfl ?_)|refine av ?_|refine ae ?_|refine ai ?_)
 refine ⟨hB.cons.cons.gd h (i := 0) rfl (by omega), ?_⟩
 repeat (first|(refine aj h ?_;clear h;intro kb M h)|(refine au h ?_;clear h;intro M h)|refine St.to h ?_|(apply Exists.intro;(repeat apply Exists.intro);refine And.intro rfl ?_)|refine av ?_|refine ae ?_|refine ai ?_)
 refine ⟨hB.cons.cons.gd h (i := 0) rfl (by omega), ?_⟩
 repeat (first|(refine aj h ?_;clear h;intro kb M h)|(refine au h ?_;clear h;intro M h)|refine St.to h ?_|(apply Exists.intro;(repeat apply Exists.intro);refine And.intro rfl ?_)|refine av ?_|refine ae ?_|refine ai ?_)
 exact k _ _ _ h.sk
theorem Ce (h : Hp R L M) [o : bZ bI b L c L'] (k : K (.bool c.vE) M) : aa Tryz.prog 249 #[.pointer (some ⟨b, 0, none⟩)] M K Kp := by
 refine o5 ?_
 have h' := gU h (b := b)
 clear h
 obtain ⟨Ab, cb, As, cs, Ar, cr, h⟩ := h'
 repeat (first|(refine aj h ?_;clear h;intro kb M h)|(refine au h ?_;clear h;intro M h)|refine St.to h ?_|(apply Exists.intro;(repeat apply Exists.intro);refine And.intro rfl ?_)|refine av ?_|refine ae ?_|refine ai ?_)
 refine gS.2 ⟨fun hc => ?_, fun hc => ?_⟩
 ·rwa [aZ.vE, hc] at k
 ·repeat (first|(refine aj h ?_;clear h;intro kb M h)|(refine au h ?_;clear h;intro M h)|refine St.to h ?_|(apply Exists.intro;(repeat apply Exists.intro);refine And.intro rfl ?_)|refine av ?_|refine ae ?_|refine ai ?_)
  refine aJ.2 ⟨fun hr => ?_, fun hr => ?_⟩
  ·have : c.dy.isEmpty = false := by cases hc : c.dy <;> simp_all
   rwa [aZ.vE, hc, this] at k
  ·repeat (first|(refine aj h ?_;clear h;intro kb M h)|(refine au h ?_;clear h;intro M h)|refine St.to h ?_|(apply Exists.intro;(repeat apply Exists.intro);refine And.intro rfl ?_)|refine av ?_|refine ae ?_|refine ai ?_)
   have : c.dy.isEmpty = true := by cases hc : c.dy <;> simp_all
   rw [aZ.vE, hc, this] at k
   simpa using k
theorem Cf (h : Hp R L M) [o : bZ bI b L c L'] (k : K (.bool c.vF) M) : aa Tryz.prog 248 #[.pointer (some ⟨b, 0, none⟩)] M K Kp := by
 refine oZ ?_
 have h' := gU h (b := b)
 clear h
 obtain ⟨Ab, cb, As, cs, Ar, cr, h⟩ := h'
 repeat (first|(refine aj h ?_;clear h;intro kb M h)|(refine au h ?_;clear h;intro M h)|refine St.to h ?_|(apply Exists.intro;(repeat apply Exists.intro);refine And.intro rfl ?_)|refine av ?_|refine ae ?_|refine ai ?_)
 refine gS.2 ⟨fun hc => ?_, fun hc => ?_⟩
 ·rwa [aZ.vF, hc] at k
 ·repeat (first|(refine aj h ?_;clear h;intro kb M h)|(refine au h ?_;clear h;intro M h)|refine St.to h ?_|(apply Exists.intro;(repeat apply Exists.intro);refine And.intro rfl ?_)|refine av ?_|refine ae ?_|refine ai ?_)
  refine aJ.2 ⟨fun hr => ?_, fun hr => ?_⟩
  ·have : c.snd.isEmpty = false := by cases hc : c.snd <;> simp_all
   rwa [aZ.vF, hc, this] at k
  ·repeat (first|(refine aj h ?_;clear h;intro kb M h)|(refine au h ?_;clear h;intro M h)|refine St.to h ?_|(apply Exists.intro;(repeat apply Exists.intro);refine And.intro rfl ?_)|refine av ?_|refine ae ?_|refine ai ?_)
   have : c.snd.isEmpty = true := by cases hc : c.snd <;> simp_all
   rw [aZ.vF, hc, this] at k
   have e : (!c.buf.isEmpty) = decide ((c.buf.length : Int) > 0) := by cases c.buf <;> simp
   rw [← e]; simpa using k
theorem qg {w : Wt} (h : Hp R L M) [o : bZ bI b L c L'] (hs : c.Small 1000000000) (k : ∀ M', Hp R (ax bI b { c with snd := c.snd ++ [w] } :: L') M' → K (.tuple #[]) M') :
  aa Tryz.prog 236 #[.pointer (some ⟨b, 0, none⟩), .agg #[.int .i64 w.g, .int .i64 w.cs, .int .i64 w.v]] M K Kp := by
 refine ox ?_
 have h' := gU h (b := b)
 clear h
 obtain ⟨Ab, cb, As, cs, Ar, cr, h⟩ := h'
 obtain ⟨h1, h2, h3⟩ := hs
 repeat (first|(refine aj h ?_;clear h;intro kb M h)|(refine au h ?_;clear h;intro M h)|refine St.to h ?_|(apply Exists.intro;(repeat apply Exists.intro);refine And.intro rfl ?_)|refine av ?_|refine ae ?_|refine ai ?_)
 refine h.bJ rN [w] rfl rfl (by simp; omega) ?_
 clear h
 intro A' c' M h
 repeat (first|(refine aj h ?_;clear h;intro kb M h)|(refine au h ?_;clear h;intro M h)|refine St.to h ?_|(apply Exists.intro;(repeat apply Exists.intro);refine And.intro rfl ?_)|refine av ?_|refine ae ?_|refine ai ?_)
 exact k _ (dh h b).cj
theorem qh {w : Wt} (h : Hp R L M) [o : bZ bI b L c L'] (hs : c.Small 1000000000) (k : ∀ M', Hp R (ax bI b { c with dy := c.dy ++ [w] } :: L') M' → K (.tuple #[]) M') :
  aa Tryz.prog 235 #[.pointer (some ⟨b, 0, none⟩), .agg #[.int .i64 w.g, .int .i64 w.cs, .int .i64 w.v]] M K Kp := by
 refine ov ?_
 have h' := gU h (b := b)
 clear h
 obtain ⟨Ab, cb, As, cs, Ar, cr, h⟩ := h'
 obtain ⟨h1, h2, h3⟩ := hs
 repeat (first|(refine aj h ?_;clear h;intro kb M h)|(refine au h ?_;clear h;intro M h)|refine St.to h ?_|(apply Exists.intro;(repeat apply Exists.intro);refine And.intro rfl ?_)|refine av ?_|refine ae ?_|refine ai ?_)
 refine h.bJ rN [w] rfl rfl (by simp; omega) ?_
 clear h
 intro A' c' M h
 repeat (first|(refine aj h ?_;clear h;intro kb M h)|(refine au h ?_;clear h;intro M h)|refine St.to h ?_|(apply Exists.intro;(repeat apply Exists.intro);refine And.intro rfl ?_)|refine av ?_|refine ae ?_|refine ai ?_)
 exact k _ (dh h b).cj
def Vc (x : Wt × Bool × Int) : Value := .tuple #[.agg #[.int .i64 x.1.g, .int .i64 x.1.cs, .int .i64 x.1.v], .bool x.2.1, .int .i64 x.2.2]
theorem IM {v : Int} (h : Hp R L M) [o : bZ bI b L c L'] (hs : c.Small 1000000000) (k : ∀ M', Hp R (ax bI b (c.send v).1 :: L') M' → K (Vc (c.send v).2) M') :
  aa Tryz.prog 237 #[.pointer (some ⟨b, 0, none⟩), .int .i64 v] M K Kp := by
 refine uk ?_
 obtain ⟨room, buf, snd, dy, closed⟩ := c
 obtain ⟨h1, h2, h3⟩ := hs
 have h' := gU h (b := b)
 clear h
 obtain ⟨Ab, cb, As, cs, Ar, cr, h⟩ := h'
 dsimp only [iH] at h1 h2 h3 h
 repeat (first|(refine aj h ?_;clear h;intro kb M h)|(refine au h ?_;clear h;intro M h)|refine St.to h ?_|(apply Exists.intro;(repeat apply Exists.intro);refine And.intro rfl ?_)|refine av ?_|refine ae ?_|refine ai ?_)
 refine gS.2 ⟨fun hc => ?_, fun hc => ?_⟩
 ·subst hc
  repeat (first|(refine aj h ?_;clear h;intro kb M h)|(refine au h ?_;clear h;intro M h)|refine St.to h ?_|(apply Exists.intro;(repeat apply Exists.intro);refine And.intro rfl ?_)|refine av ?_|refine ae ?_|refine ai ?_)
  exact k _ (dh h b).cj
 subst hc
 repeat (first|(refine aj h ?_;clear h;intro kb M h)|(refine au h ?_;clear h;intro M h)|refine St.to h ?_|(apply Exists.intro;(repeat apply Exists.intro);refine And.intro rfl ?_)|refine av ?_|refine ae ?_|refine ai ?_)
 refine aJ.2 ⟨fun hr => ?_, fun hr => ?_⟩
 ·cases dy with
  | nil => simp at hr
  | cons w r =>
   repeat (first|(refine aj h ?_;clear h;intro kb M h)|(refine au h ?_;clear h;intro M h)|refine St.to h ?_|(apply Exists.intro;(repeat apply Exists.intro);refine And.intro rfl ?_)|refine av ?_|refine ae ?_|refine ai ?_)
   refine yI h (h.src (A := Ar)) rfl (h.j8 Ar) (by simpa using h3) ?_
   clear h
   intro A' c' M h
   repeat (first|(refine aj h ?_;clear h;intro kb M h)|(refine au h ?_;clear h;intro M h)|refine St.to h ?_|(apply Exists.intro;(repeat apply Exists.intro);refine And.intro rfl ?_)|refine av ?_|refine ae ?_|refine ai ?_)
   exact k _ (dh h b).cj
 cases dy with
 | cons w r => simp at hr
 | nil =>
 simp only [aZ.send, Bool.false_eq_true, if_false] at k
 repeat (first|(refine aj h ?_;clear h;intro kb M h)|(refine au h ?_;clear h;intro M h)|refine St.to h ?_|(apply Exists.intro;(repeat apply Exists.intro);refine And.intro rfl ?_)|refine av ?_|refine ae ?_|refine ai ?_)
 refine aJ.2 ⟨fun hl => ?_, fun hl => ?_⟩
 ·rw [if_pos (by omega)] at k
  repeat (first|(refine aj h ?_;clear h;intro kb M h)|(refine au h ?_;clear h;intro M h)|refine St.to h ?_|(apply Exists.intro;(repeat apply Exists.intro);refine And.intro rfl ?_)|refine av ?_|refine ae ?_|refine ai ?_)
  refine h.bJ xz [v] rfl rfl (by simp; omega) ?_
  clear h
  intro A' c' M h
  repeat (first|(refine aj h ?_;clear h;intro kb M h)|(refine au h ?_;clear h;intro M h)|refine St.to h ?_|(apply Exists.intro;(repeat apply Exists.intro);refine And.intro rfl ?_)|refine av ?_|refine ae ?_|refine ai ?_)
  exact k _ (dh h b).cj
 ·rw [if_neg (by omega)] at k
  repeat (first|(refine aj h ?_;clear h;intro kb M h)|(refine au h ?_;clear h;intro M h)|refine St.to h ?_|(apply Exists.intro;(repeat apply Exists.intro);refine And.intro rfl ?_)|refine av ?_|refine ae ?_|refine ai ?_)
  exact k _ (dh h b).cj
def Vd (x : Int × Bool × Wt × Bool × Int) : Value := .tuple #[.agg #[.int .i64 x.1, .bool x.2.1, .int .i64 x.2.2.1.g, .int .i64 x.2.2.1.cs, .int .i64 x.2.2.1.v, .bool x.2.2.2.1], .int .i64 x.2.2.2.2]
theorem IN (h : Hp R L M) [o : bZ bI b L c L'] (hs : c.Small 1000000000) (k : ∀ M', Hp R (ax bI b c.recv.1 :: L') M' → K (Vd c.recv.2) M') :
  aa Tryz.prog 239 #[.pointer (some ⟨b, 0, none⟩)] M K Kp := by
 refine uq ?_
 obtain ⟨room, buf, snd, dy, closed⟩ := c
 obtain ⟨h1, h2, h3⟩ := hs
 have h' := gU h (b := b)
 clear h
 obtain ⟨Ab, cb, As, cs, Ar, cr, h⟩ := h'
 dsimp only [iH] at h1 h2 h3 h
 refine aj h ?_
 clear h
 intro kr M h
 refine aj h ?_
 clear h
 intro kg M h
 repeat (first|(refine aj h ?_;clear h;intro kb M h)|(refine au h ?_;clear h;intro M h)|refine St.to h ?_|(apply Exists.intro;(repeat apply Exists.intro);refine And.intro rfl ?_)|refine av ?_|refine ae ?_|refine ai ?_)
 refine ⟨fun vs M => vs = [] ∧ ∃ Ab cb As cs, Hp R (pt kr [.int .i64 0, .bool false, .int .i64 0, .int .i64 0, .int .i64 0, .bool false] 381 ::
  pt kg [.int .i64 0, .bool false, .int .i64 (snd.headD .zero).g, .int .i64 (snd.headD .zero).cs, .int .i64 (snd.headD .zero).v, .bool (!snd.isEmpty)] 381 ::
  pt b (iH ⟨room, aZ.all ⟨room, buf, snd, dy, closed⟩, snd.tail, dy, closed⟩ Ab cb As cs Ar cr) 305 :: iO Ab cb (aZ.all ⟨room, buf, snd, dy, closed⟩) :: nm As cs snd.tail :: nm Ar cr dy :: L') M, ?_, ?_⟩
 ·refine aJ.2 ⟨fun hr => ?_, fun hr => ?_⟩
  ·cases snd with
   | nil => simp at hr
   | cons w r =>
    repeat (first|(refine aj h ?_;clear h;intro kb M h)|(refine au h ?_;clear h;intro M h)|refine St.to h ?_|(apply Exists.intro;(repeat apply Exists.intro);refine And.intro rfl ?_)|refine av ?_|refine ae ?_|refine ai ?_)
    refine yI h (h.src (A := As)) rfl (h.j8 As) (by simpa using h2) ?_
    clear h
    intro A' c' M h
    repeat (first|(refine aj h ?_;clear h;intro kb M h)|(refine au h ?_;clear h;intro M h)|refine St.to h ?_|(apply Exists.intro;(repeat apply Exists.intro);refine And.intro rfl ?_)|refine av ?_|refine ae ?_|refine ai ?_)
    refine h.bJ xz [w.v] rfl rfl (by simp; omega) ?_
    clear h
    intro A2 c2 M h
    repeat (first|(refine aj h ?_;clear h;intro kb M h)|(refine au h ?_;clear h;intro M h)|refine St.to h ?_|(apply Exists.intro;(repeat apply Exists.intro);refine And.intro rfl ?_)|refine av ?_|refine ae ?_|refine ai ?_)
    exact ⟨A2, c2, A', c', h.sub bp⟩
  ·cases snd with
   | cons w r => simp at hr
   | nil => exact ⟨rfl, Ab, cb, As, cs, h.sub bp⟩
 clear h
 rintro _ M ⟨_, Ab, cb, As, cs, h⟩
 unfold aZ.recv at k
 dsimp only at k
 have iL : (aZ.all ⟨room, buf, snd, dy, closed⟩).length ≤ 1000000001 := by unfold aZ.all; split <;> simp <;> omega
 have Sz : aZ.all ⟨room, buf, snd, dy, closed⟩ = [] → snd = [] ∧ buf = [] := by unfold aZ.all; dsimp only; cases snd <;> simp
 generalize aZ.all ⟨room, buf, snd, dy, closed⟩ = all at h k iL Sz
 dsimp only [iH] at h
 repeat (first|(refine aj h ?_;clear h;intro kb M h)|(refine au h ?_;clear h;intro M h)|refine St.to h ?_|(apply Exists.intro;(repeat apply Exists.intro);refine And.intro rfl ?_)|refine av ?_|refine ae ?_|refine ai ?_)
 refine aJ.2 ⟨fun hr => ?_, fun hr => ?_⟩
 ·cases all with
  | nil => simp at hr
  | cons v l =>
   dsimp only at k
   repeat (first|(refine aj h ?_;clear h;intro kb M h)|(refine au h ?_;clear h;intro M h)|refine St.to h ?_|(apply Exists.intro;(repeat apply Exists.intro);refine And.intro rfl ?_)|refine av ?_|refine ae ?_|refine ai ?_)
   obtain ⟨x, rfl⟩ := h.bF (A := Ab) (by simp) (by decide)
   repeat (first|(refine aj h ?_;clear h;intro kb M h)|(refine au h ?_;clear h;intro M h)|refine St.to h ?_|(apply Exists.intro;(repeat apply Exists.intro);refine And.intro rfl ?_)|refine av ?_|refine ae ?_|refine ai ?_)
   refine aR ((h.src (A := some ⟨x, 0, none⟩)).at h (i := 0) (j := 0) rfl rfl (by omega)) ?_
   have hcap := h.j8 (some ⟨x, 0, none⟩)
   have hlen : l.length + 1 ≤ 1000000001 := by simpa using iL
   repeat (first|(refine aj h ?_;clear h;intro kb M h)|(refine au h ?_;clear h;intro M h)|refine St.to h ?_|(apply Exists.intro;(repeat apply Exists.intro);refine And.intro rfl ?_)|refine av ?_|refine ae ?_|refine ai ?_)
   simp only [Int.toNat_natCast]
   refine h.fV br xz l ((h.src (A := some ⟨x, 0, none⟩)).drop (m := 1) hcap) (by simp) (by omega) ?_
   clear h
   intro A' c' M h
   repeat (first|(refine aj h ?_;clear h;intro kb M h)|(refine au h ?_;clear h;intro M h)|refine St.to h ?_|(apply Exists.intro;(repeat apply Exists.intro);refine And.intro rfl ?_)|refine av ?_|refine ae ?_|refine ai ?_)
   exact k _ (dh h b).cj
 ·cases all with
  | cons v l => simp at hr
  | nil =>
  obtain ⟨rfl, rfl⟩ := Sz rfl
  repeat (first|(refine aj h ?_;clear h;intro kb M h)|(refine au h ?_;clear h;intro M h)|refine St.to h ?_|(apply Exists.intro;(repeat apply Exists.intro);refine And.intro rfl ?_)|refine av ?_|refine ae ?_|refine ai ?_)
  refine gS.2 ⟨fun hc => ?_, fun hc => ?_⟩
  ·subst hc
   repeat (first|(refine aj h ?_;clear h;intro kb M h)|(refine au h ?_;clear h;intro M h)|refine St.to h ?_|(apply Exists.intro;(repeat apply Exists.intro);refine And.intro rfl ?_)|refine av ?_|refine ae ?_|refine ai ?_)
   exact k _ (dh h b).cj
  ·subst hc
   repeat (first|(refine aj h ?_;clear h;intro kb M h)|(refine au h ?_;clear h;intro M h)|refine St.to h ?_|(apply Exists.intro;(repeat apply Exists.intro);refine And.intro rfl ?_)|refine av ?_|refine ae ?_|refine ai ?_)
   exact k _ (dh h b).cj
theorem F8 (h : Hp R L M) [o : bZ bI b L c L'] (hs : c.Small 1000000000)
  (k : ∀ A ca B cb D cd M', Hp R (ax bI b c :: nm D cd c.dy :: nm B cb c.snd :: iO A ca c.buf :: L') M' → K (.agg #[.slice A c.buf.length ca, .slice B c.snd.length cb, .slice D c.dy.length cd, .bool c.closed]) M') :
  aa Tryz.prog 137 #[.pointer (some ⟨b, 0, none⟩)] M K Kp := by
 refine so ?_
 have h' := gU h (b := b)
 clear h
 obtain ⟨Ab, cb, As, cs, Ar, cr, h⟩ := h'
 obtain ⟨h1, h2, h3⟩ := hs
 repeat (first|(refine aj h ?_;clear h;intro kb M h)|(refine au h ?_;clear h;intro M h)|refine St.to h ?_|(apply Exists.intro;(repeat apply Exists.intro);refine And.intro rfl ?_)|refine av ?_|refine ae ?_|refine ai ?_)
 refine h.fV br xz c.buf (h.src (A := Ab)) rfl (by omega) ?_
 clear h
 intro A ca M h
 repeat (first|(refine aj h ?_;clear h;intro kb M h)|(refine au h ?_;clear h;intro M h)|refine St.to h ?_|(apply Exists.intro;(repeat apply Exists.intro);refine And.intro rfl ?_)|refine av ?_|refine ae ?_|refine ai ?_)
 refine h.fV fA rN c.snd (h.src (A := As)) rfl (by omega) ?_
 clear h
 intro B cb' M h
 repeat (first|(refine aj h ?_;clear h;intro kb M h)|(refine au h ?_;clear h;intro M h)|refine St.to h ?_|(apply Exists.intro;(repeat apply Exists.intro);refine And.intro rfl ?_)|refine av ?_|refine ae ?_|refine ai ?_)
 refine h.fV fA rN c.dy (h.src (A := Ar)) rfl (by omega) ?_
 clear h
 intro D cd M h
 repeat (first|(refine aj h ?_;clear h;intro kb M h)|(refine au h ?_;clear h;intro M h)|refine St.to h ?_|(apply Exists.intro;(repeat apply Exists.intro);refine And.intro rfl ?_)|refine av ?_|refine ae ?_|refine ai ?_)
 exact k _ _ _ _ _ _ _ (dh h b).cj
theorem F9 (h : Hp R L M) [o : bZ bI b L c L']
  (k : ∀ A ca B cb M', Hp R (ax bI b c.close.1 :: nm B cb c.close.2.2.1 :: nm A ca c.close.2.1 :: L') M' → K (.tuple #[.slice A c.close.2.1.length ca, .slice B c.close.2.2.1.length cb, .int .i64 c.close.2.2.2]) M') :
  aa Tryz.prog 243 #[.pointer (some ⟨b, 0, none⟩)] M K Kp := by
 refine sr ?_
 obtain ⟨room, buf, snd, dy, closed⟩ := c
 have h' := gU h (b := b)
 clear h
 obtain ⟨Ab, cb, As, cs, Ar, cr, h⟩ := h'
 dsimp only [iH] at h
 repeat (first|(refine aj h ?_;clear h;intro kb M h)|(refine au h ?_;clear h;intro M h)|refine St.to h ?_|(apply Exists.intro;(repeat apply Exists.intro);refine And.intro rfl ?_)|refine av ?_|refine ae ?_|refine ai ?_)
 refine gS.2 ⟨fun hc => ?_, fun hc => ?_⟩
 ·subst hc
  have h := dh ((h.bR fA 280).bR fA 280) b
  exact k none 0 none 0 _ h
 ·subst hc
  repeat (first|(refine aj h ?_;clear h;intro kb M h)|(refine au h ?_;clear h;intro M h)|refine St.to h ?_|(apply Exists.intro;(repeat apply Exists.intro);refine And.intro rfl ?_)|refine av ?_|refine ae ?_|refine ai ?_)
  have h := (h.bR fA 280).bR fA 280
  exact k _ _ _ _ _ ((dh h b).sub bp)
theorem jH {B : Option Addr} {n cc : Nat} {g : Int} {l : List Wt} (h : Hp R L M) (hB : Src R L B (fA.cells l)) (hn : n = l.length) (hs : l.length ≤ 1000000000)
  (k : ∀ A' c' M', Hp R (nm A' c' (wo g l) :: L) M' → K (.slice A' (wo g l).length c') M') :
  aa Tryz.prog 254 #[.slice B n cc, .int .i64 g] M K Kp := by
 subst hn
 refine xy ⟨fun d vs M => ∃ i A c, vs = [.slice A (wo g (l.take i)).length c, .int .i64 (i : Int)] ∧ d = l.length - i ∧ i ≤ l.length ∧ Hp R (nm A c (wo g (l.take i)) :: L) M,
  ⟨_, 0, none, 0, rfl, rfl, by omega, h.bR _ _⟩, ?_⟩
 clear h
 rintro d _ A n c' ii M ⟨i, _, _, he, hd, hi, h⟩
 simp only [List.cons.injEq, Value.slice.injEq, Value.int.injEq, and_true, true_and] at he
 obtain ⟨⟨rfl, rfl, rfl⟩, rfl⟩ := he
 refine aJ.2 ⟨fun hlt => ?_, fun hge => ?_⟩
 ·obtain ⟨w, hw⟩ := aM (l := l) (i := i) (by omega)
  obtain ⟨b, o, rfl⟩ := hB.cons.ie h (by omega) (by decide)
  have e1 : IntKind.wrap .i64 ((i : Int) + 1) = ((i + 1 : Nat) : Int) := aP (by omega)
  have hl := IC g (l.take i)
  have kj := List.length_take_le i l
  rw [e1]
  repeat (first|(refine aj h ?_;clear h;intro kb M h)|(refine au h ?_;clear h;intro M h)|refine St.to h ?_|(apply Exists.intro;(repeat apply Exists.intro);refine And.intro rfl ?_)|refine av ?_|refine ae ?_|refine ai ?_)
  refine aR (hB.cons.at h (j := 0) hw rfl (by simp [fA])) ?_
  refine aR (hB.cons.at h (j := 1) hw rfl (by simp [fA]; omega)) ?_
  refine aR (hB.cons.at h (j := 2) hw rfl (by simp [fA]; omega)) ?_
  repeat (first|(refine aj h ?_;clear h;intro kb M h)|(refine au h ?_;clear h;intro M h)|refine St.to h ?_|(apply Exists.intro;(repeat apply Exists.intro);refine And.intro rfl ?_)|refine av ?_|refine ae ?_|refine ai ?_)
  refine fy.2 ⟨fun hne => ?_, fun heq => ?_⟩
  ·have e2 : wo g (l.take (i + 1)) = wo g (l.take i) ++ [w] := by rw [bu hw, O4]; simp [wo, hne]
   repeat (first|(refine aj h ?_;clear h;intro kb M h)|(refine au h ?_;clear h;intro M h)|refine St.to h ?_|(apply Exists.intro;(repeat apply Exists.intro);refine And.intro rfl ?_)|refine av ?_|refine ae ?_|refine ai ?_)
   refine h.bJ rN [w] rfl rfl (by simp; omega) ?_
   clear h
   intro A' c' M h
   repeat (first|(refine aj h ?_;clear h;intro kb M h)|(refine au h ?_;clear h;intro M h)|refine St.to h ?_|(apply Exists.intro;(repeat apply Exists.intro);refine And.intro rfl ?_)|refine av ?_|refine ae ?_|refine ai ?_)
   exact ⟨l.length - (i + 1), by omega, i + 1, A', c', by rw [e2], rfl, by omega, by rw [e2]; exact h.cj⟩
  ·have e2 : wo g (l.take (i + 1)) = wo g (l.take i) := by rw [bu hw, O4]; simp [wo, heq]
   exact ⟨l.length - (i + 1), by omega, i + 1, A, c', by rw [e2], rfl, by omega, by rw [e2]; exact h.sk⟩
 ·have : i = l.length := by omega
  subst this
  rw [List.take_length] at h ⊢
  exact k _ _ _ h
theorem IP {g : Int} (h : Hp R L M) [o : bZ bI b L c L'] (hs : c.Small 1000000000) (k : ∀ M', Hp R (ax bI b (c.drop g) :: L') M' → K (.tuple #[]) M') :
  aa Tryz.prog 253 #[.pointer (some ⟨b, 0, none⟩), .int .i64 g] M K Kp := by
 refine uu ?_
 have h' := gU h (b := b)
 clear h
 obtain ⟨Ab, cb, As, cs, Ar, cr, h⟩ := h'
 obtain ⟨h1, h2, h3⟩ := hs
 repeat (first|(refine aj h ?_;clear h;intro kb M h)|(refine au h ?_;clear h;intro M h)|refine St.to h ?_|(apply Exists.intro;(repeat apply Exists.intro);refine And.intro rfl ?_)|refine av ?_|refine ae ?_|refine ai ?_)
 refine ⟨?_, ?_, trivial⟩
 ·refine jH h (h.src (A := As)) rfl h2 ?_
  clear h
  intro A' c' M h
  repeat (first|(refine aj h ?_;clear h;intro kb M h)|(refine au h ?_;clear h;intro M h)|refine St.to h ?_|(apply Exists.intro;(repeat apply Exists.intro);refine And.intro rfl ?_)|refine av ?_|refine ae ?_|refine ai ?_)
  refine jH h (h.src (A := Ar)) rfl h3 ?_
  clear h
  intro B' d' M h
  repeat (first|(refine aj h ?_;clear h;intro kb M h)|(refine au h ?_;clear h;intro M h)|refine St.to h ?_|(apply Exists.intro;(repeat apply Exists.intro);refine And.intro rfl ?_)|refine av ?_|refine ae ?_|refine ai ?_)
  exact k _ (dh h b).cj
 ·repeat (first|(refine aj h ?_;clear h;intro kb M h)|(refine au h ?_;clear h;intro M h)|refine St.to h ?_|(apply Exists.intro;(repeat apply Exists.intro);refine And.intro rfl ?_)|refine av ?_|refine ae ?_|refine ai ?_)
  refine jH h (h.src (A := As)) rfl h2 ?_
  clear h
  intro A' c' M h
  repeat (first|(refine aj h ?_;clear h;intro kb M h)|(refine au h ?_;clear h;intro M h)|refine St.to h ?_|(apply Exists.intro;(repeat apply Exists.intro);refine And.intro rfl ?_)|refine av ?_|refine ae ?_|refine ai ?_)
  refine jH h (h.src (A := Ar)) rfl h3 ?_
  clear h
  intro B' d' M h
  repeat (first|(refine aj h ?_;clear h;intro kb M h)|(refine au h ?_;clear h;intro M h)|refine St.to h ?_|(apply Exists.intro;(repeat apply Exists.intro);refine And.intro rfl ?_)|refine av ?_|refine ae ?_|refine ai ?_)
  exact k _ (dh h b).cj
end
end Go.Proofs
namespace Go.AF
theorem oy {α β γ : Type} {f : α → β → γ} : ∀ {l : List α} {m : List β} {i : Nat} {a : α} {b : β}, l[i]? = some a → (List.zipWith f l m).set i (f a b) = List.zipWith f l (m.set i b)
 | [], _, _, _, _, h => by simp at h
 | x :: l, [], i, a, b, h => by simp
 | x :: l, y :: m, 0, a, b, h => by simp at h; subst h; rfl
 | x :: l, y :: m, i + 1, a, b, h => by
  have := oy (f := f) (m := m) (b := b) (show l[i]? = some a from by simpa using h)
  simp [this]
theorem IQ {α β γ : Type} {f : α → β → γ} : ∀ {l : List α} {m : List β} {i : Nat} {a : α} {b : β}, l[i]? = some a → m[i]? = some b → (List.zipWith f l m)[i]? = some (f a b)
 | [], _, _, _, _, h, _ => by simp at h
 | x :: l, [], i, a, b, h, g => by simp at g
 | x :: l, y :: m, 0, a, b, h, g => by simp at h g; subst h; subst g; rfl
 | x :: l, y :: m, i + 1, a, b, h, g => by simpa using IQ (f := f) (show l[i]? = some a from by simpa using h) (show m[i]? = some b from by simpa using g)
theorem cW.past {P : HP} {L : List HP} : ∀ (l : List HP), cW (l ++ P :: L) P (l ++ L)
 | [] => .here
 | Q :: l => .there (cW.past l)
section
variable {α : Type} {r : ug α} {R : Mem} {L L' om : List HP} {M : Mem} {bs : List Nat} {cs : List α} {b i : Nat} {c : α}
def bl (r : ug α) (bs : List Nat) (cs : List α) : HP := sep (List.zipWith (ax r) bs cs)
def mz (r : ug α) (bs : List Nat) (cs : List α) (i : Nat) : HP := sep ((List.zipWith (ax r) bs cs).eraseIdx i)
class fX (r : ug α) (L : List HP) (bs : outParam (List Nat)) (cs : outParam (List α)) (L' : outParam (List HP)) : Prop where
 pick : cW L (bl r bs cs) L'
instance fX.here : fX r (bl r bs cs :: L) bs cs L := ⟨.here⟩
instance (priority := low) fX.there {P : HP} [h : fX r L bs cs L'] : fX r (P :: L) bs cs (P :: L') := ⟨.there h.pick⟩
class yJ (r : ug α) (L : List HP) (bs : outParam (List Nat)) (cs : outParam (List α)) (i : outParam Nat) (L' : outParam (List HP)) : Prop where
 pick : cW L (mz r bs cs i) L'
instance yJ.here : yJ r (mz r bs cs i :: L) bs cs i L := ⟨.here⟩
instance (priority := low) yJ.there {P : HP} [h : yJ r L bs cs i L'] : yJ r (P :: L) bs cs i (P :: L') := ⟨.there h.pick⟩
theorem Hp.oz (h : Hp R L M) (r : ug α) {bs : List Nat} {cs : List α} [o : fX r L bs cs L'] : Hp R (bl r bs cs :: L') M := h.pick o.pick
theorem Hp.vO (h : Hp R L M) (r : ug α) : Hp R (bl r [] [] :: L) M := Hp.bk.2 h
theorem Hp.cH (h : Hp R L M) (r : ug α) {bs : List Nat} {cs : List α} [o : fX r L bs cs L'] (hb : bs[i]? = some b) (hc : cs[i]? = some c) : Hp R (ax r b c :: mz r bs cs i :: L') M :=
 (h.pick o.pick).focus (IQ hb hc)
theorem Hp.eA (h : Hp R L M) (r : ug α) (b : Nat) {bs : List Nat} {cs : List α} {i : Nat} {c : α} [o : bZ r b L c L'] [x : yJ r L' bs cs i om] (hb : bs[i]? = some b) (hc : i < cs.length) : Hp R (bl r bs (cs.set i c) :: om) M := by
 have h1 : Hp R (ax r b c :: mz r bs cs i :: om) M := (h.pick o.pick).map fun _ hs => hs.tail (fun _ => ck.pick x.pick)
 have h2 := Hp.SG (ls := List.zipWith (ax r) bs cs) h1 (by rw [List.length_zipWith]; have := (List.getElem?_eq_some_iff.1 hb).1; omega)
 rw [oy hb] at h2
 exact h2
theorem Hp.lg (h : Hp R L M) (r : ug α) (b : Nat) {bs : List Nat} {cs : List α} {i : Nat} {c : α} [o : bZ r b L c L'] [x : yJ r L' bs cs i om] (hb : bs[i]? = some b) (hc : cs[i]? = some c) : Hp R (bl r bs cs :: om) M := by
 have := h.eA r b hb (List.getElem?_eq_some_iff.1 hc).1
 obtain ⟨hi, rfl⟩ := List.getElem?_eq_some_iff.1 hc
 rwa [List.set_getElem_self] at this
theorem Hp.lj (h : Hp R L M) (r : ug α) (b : Nat) {bs : List Nat} {cs : List α} {c : α} [o : bZ r b L c L'] [x : fX r L' bs cs om] (hl : bs.length = cs.length) : Hp R (bl r (bs ++ [b]) (cs ++ [c]) :: om) M := by
 have h1 : Hp R (ax r b c :: bl r bs cs :: om) M := (h.pick o.pick).map fun _ hs => hs.tail (fun _ => ck.pick x.pick)
 refine Hp.bk.2 ?_
 rw [List.zipWith_append hl, List.append_assoc]
 refine Hp.oh (P := ax r b c) ?_ (cW.past _)
 exact h1.map fun _ hs => hs.tail fun _ hb => ck.bk.1 hb
end
end Go.AF
namespace Go.Proofs
open Go.AF
set_option maxRecDepth 100000
variable {M : Mem} {K : Value → Mem → Prop} {Kp : List PanicEntry → Mem → Prop}
theorem xA {B0 : Option Addr} {m0 c0 : Nat} {B1 : Option Addr} {m1 c1 : Nat} (h :
∃ I1 : IT, (∃ k2, I1 k2 [(.slice none 0 0), (iV 0)] M) ∧
∀ (k3 : Nat) (_ : Nat → Value) (A5 : Option Addr) (k6 : Nat) (k7 : Nat) (n8 : Int) (M9 : Mem), (I1 k3 [(.slice A5 k6 k7), (iV n8)] M9) → aQ (decide (n8 < m0))
 ((0 ≤ n8) ∧
 (n8 < m0) ∧
 aE B0 fun c6 dL =>
 j9 M9 c6 (dL + ((Int.toNat n8) * 3)) fun gy hG j5 =>
 aW M9 rJ fun gj eB =>
 FY eB gj (iV gy) (iV hG) (iV j5) fun iN =>
 j9 iN gj 0 fun dZ jr mP =>
 aa Tryz.prog 234 #[(.agg #[(iV dZ), (iV jr), (iV mP)]), (.slice B1 m1 c1)] iN (fun Wj j6 =>
 dH (some Wj) fun t25 =>
 aQ t25
 (aW j6 (cl [(iV n8)] 3) fun lV pN =>
 aA 36 A5 k6 k7 (some ⟨lV, 0, none⟩) 1 1 pN (fun Pj kf =>
 az (some Pj) fun RR lZ nO =>
 ∃ nQ : Nat, (nQ < k3) ∧
 I1 nQ [(.slice RR lZ nO), (iV (IntKind.wrap .i64 (n8 + 1)))] kf) Kp)
 (∃ sq : Nat, (sq < k3) ∧
 I1 sq [(.slice A5 k6 k7), (iV (IntKind.wrap .i64 (n8 + 1)))] j6)) Kp)
 (K (.slice A5 k6 k7) M9)) :
 aa Tryz.prog 205 #[.slice B0 m0 c0, .slice B1 m1 c1] M K Kp := vw [(2000000, .loop [(5, .c .sl), (10, .c (.int .i64))])] Tryz.func205 h
theorem Cg {B0 : Option Addr} {m0 c0 : Nat} (h :
∃ I1 : IT, (∃ k2, I1 k2 [(iV 0)] M) ∧
∀ (k3 : Nat) (_ : Nat → Value) (n5 : Int) (M6 : Mem), (I1 k3 [(iV n5)] M6) → aQ (decide (n5 < m0))
 ((0 ≤ n5) ∧
 (n5 < m0) ∧
 aE B0 fun k7 k8 =>
 j9 M6 k7 (k8 + ((Int.toNat n5) * 3)) fun n9 jN eO =>
 aW M6 rJ fun eU jl =>
 FY jl eU (iV n9) (iV jN) (iV eO) fun eB =>
 rI eB eU 0 fun fK =>
 aQ (fK == 2)
 (K (.tuple #[(iV n5), (.bool true)]) eB)
 (∃ dx : Nat, (dx < k3) ∧
 I1 dx [(iV (IntKind.wrap .i64 (n5 + 1)))] eB))
 (K (.tuple #[(iV 0), (.bool false)]) M6)) :
 aa Tryz.prog 206 #[.slice B0 m0 c0] M K Kp := vw [(2000000, .loop [(8, .c (.int .i64))])] Tryz.func206 h
theorem Ch {x0 : Int} {B1 : Option Addr} {m1 c1 : Nat} {B2 : Option Addr} {m2 c2 : Nat} {B3 : Option Addr} {m3 c3 : Nat} (h :
∃ I1 : IT, (∃ k2, I1 k2 [(iV 0)] M) ∧
∀ (k3 : Nat) (_ : Nat → Value) (n5 : Int) (M6 : Mem), (I1 k3 [(iV n5)] M6) → aQ (decide (n5 < m1))
 ((0 ≤ n5) ∧
 (n5 < m1) ∧
 aE B1 fun k7 k8 =>
 j9 M6 k7 (k8 + ((Int.toNat n5) * 3)) fun n9 jN eO =>
 aW M6 rJ fun eU jl =>
 FY jl eU (iV n9) (iV jN) (iV eO) fun eB =>
 rI eB eU 0 fun fK =>
 aQ (fK == 0)
 (rI eB eU 1 fun g9 =>
 (0 ≤ g9) ∧
 (g9 < m3) ∧
 aE B3 fun gZ iM =>
 rP eB gZ (iM + (Int.toNat g9)) fun xB =>
 aa Tryz.prog 235 #[(.pointer xB), (.agg #[(iV x0), (iV n5), (iV 0)])] eB (fun AA gQ =>
 (AA = (.tuple #[])) ∧
 ∃ kC : Nat, (kC < k3) ∧
 I1 kC [(iV (IntKind.wrap .i64 (n5 + 1)))] gQ) Kp)
 (aQ (fK == 1)
 (rI eB eU 1 fun oA =>
 (0 ≤ oA) ∧
 (oA < m3) ∧
 aE B3 fun lV oT =>
 rP eB lV (oT + (Int.toNat oA)) fun SO =>
 rI eB eU 2 fun qi =>
 (0 ≤ qi) ∧
 (qi < m2) ∧
 aE B2 fun kZ lZ =>
 rI eB kZ (lZ + (Int.toNat qi)) fun n32 =>
 aa Tryz.prog 236 #[(.pointer SO), (.agg #[(iV x0), (iV n5), (iV n32)])] eB (fun v33 pb =>
 (v33 = (.tuple #[])) ∧
 ∃ yH : Nat, (yH < k3) ∧
 I1 yH [(iV (IntKind.wrap .i64 (n5 + 1)))] pb) Kp)
 (∃ Ga : Nat, (Ga < k3) ∧
 I1 Ga [(iV (IntKind.wrap .i64 (n5 + 1)))] eB)))
 (K (.tuple #[]) M6)) :
 aa Tryz.prog 207 #[.int .i64 x0, .slice B1 m1 c1, .slice B2 m2 c2, .slice B3 m3 c3] M K Kp := vw [(2000000, .loop [(12, .c (.int .i64))]), (7, .bQ [0, 0, 2, 7, 15, 0, 0, 0, 0, 256, 896, 1920, 4064, 8191] (sy [0, 1, 5, 6, 7, 8, 2, 3, 4, 9, 10, 11, 12, 13] .done))] Tryz.func207 h
theorem vP {nq : Int} {AG : Int} {gk : Int} {B1 : Option Addr} {m1 c1 : Nat} (h :
aW M (cl [(iV nq), (iV AG), (iV gk)] 165) fun k1 M2 =>
rI M2 k1 0 fun n3 =>
aQ (n3 == 0)
 (rI M2 k1 1 fun n4 =>
 (0 ≤ n4) ∧
 (n4 < m1) ∧
 aE B1 fun k5 k6 =>
 rP M2 k5 (k6 + (Int.toNat n4)) fun A7 =>
 aa Tryz.prog 248 #[(.pointer A7)] M2 (fun v8 M9 =>
 dH (some v8) fun t10 =>
 K (.bool t10) M9) Kp)
 (aQ (n3 == 1)
 (rI M2 k1 1 fun eO =>
 (0 ≤ eO) ∧
 (eO < m1) ∧
 aE B1 fun eU cY =>
 rP M2 eU (cY + (Int.toNat eO)) fun jo =>
 aa Tryz.prog 249 #[(.pointer jo)] M2 (fun vK eB =>
 dH (some vK) fun t17 =>
 K (.bool t17) eB) Kp)
 (K (.bool false) M2))) :
 aa Tryz.prog 234 #[.agg #[.int .i64 nq, .int .i64 AG, .int .i64 gk], .slice B1 m1 c1] M K Kp := vw [] Tryz.func234 h
theorem AH {x0 : Int} {B1 : Option Addr} {m1 c1 : Nat} (h :
∃ I1 : IT, (∃ k2, I1 k2 [(iV 0)] M) ∧
∀ (k3 : Nat) (_ : Nat → Value) (n5 : Int) (M6 : Mem), (I1 k3 [(iV n5)] M6) → aQ (decide (n5 < m1))
 ((0 ≤ n5) ∧
 (n5 < m1) ∧
 aE B1 fun k7 k8 =>
 rP M6 k7 (k8 + (Int.toNat n5)) fun A9 =>
 aa Tryz.prog 253 #[(.pointer A9), (iV x0)] M6 (fun v10 ir =>
 (v10 = (.tuple #[])) ∧
 ∃ eU : Nat, (eU < k3) ∧
 I1 eU [(iV (IntKind.wrap .i64 (n5 + 1)))] ir) Kp)
 (K (.tuple #[]) M6)) :
 aa Tryz.prog 252 #[.int .i64 x0, .slice B1 m1 c1] M K Kp := vw [(2000000, .loop [(8, .c (.int .i64))])] Tryz.func252 h
end Go.Proofs
namespace Go.Proofs
open Go.AF
set_option maxRecDepth 100000
set_option maxHeartbeats 1000000
attribute [local irreducible] aK dH fz cv az fC aE aN aW aX bL aQ
structure oV where
 way : Int
 ch : Int
 bQ : Int
 deriving DecidableEq
def iu : fP oV := ⟨3, fun w => [.int .i64 w.way, .int .i64 w.ch, .int .i64 w.bQ], fun _ => rfl, fun w v hv => by
 simp only [List.mem_cons, List.not_mem_nil, or_false] at hv; obtain rfl | rfl | rfl := hv <;> rfl⟩
def oV.Ok (n : Nat) (c : oV) : Prop := 0 ≤ c.way ∧ c.way ≤ 2 ∧ (c.way ≠ 2 → 0 ≤ c.ch ∧ c.ch < n ∧ 0 ≤ c.bQ ∧ c.bQ < 8)
instance (n : Nat) (c : oV) : Decidable (c.Ok n) := by unfold oV.Ok; infer_instance
def cZ (cs : List aZ) (k : Int) : aZ := cs.getD k.toNat ⟨0, [], [], [], false⟩
def can (cs : List aZ) (c : oV) : Bool := if c.way = 0 then (cZ cs c.ch).vF else if c.way = 1 then (cZ cs c.ch).vE else false
def Pk (cases : List oV) (cs : List aZ) (j : Nat) : Bool := match cases[j]? with
 | some c => can cs c
 | none => false
def Ei (cases : List oV) (cs : List aZ) (i : Nat) : List Int := ((List.range i).filter (Pk cases cs)).map Int.ofNat
def enabled (cases : List oV) (cs : List aZ) : List Int := Ei cases cs cases.length
theorem Gb (cases : List oV) (cs : List aZ) (i : Nat) : (Ei cases cs i).length ≤ i := by
 unfold Ei; rw [List.length_map]; exact Nat.le_trans (List.length_filter_le ..) (by simp)
theorem Dg {cases : List oV} {cs : List aZ} {i : Nat} {c : oV} (h : cases[i]? = some c) : Ei cases cs (i + 1) = Ei cases cs i ++ (if can cs c then [(i : Int)] else []) := by
 unfold Ei
 rw [List.range_succ, List.filter_append, List.map_append]
 simp only [List.filter_cons, Pk, h, List.filter_nil]
 split <;> simp_all
def els (cases : List oV) : Option Nat := cases.findIdx? (fun c => c.way == 2)
def kM (g : Int) (fY : List Int) (i : Nat) (c : oV) (cs : List aZ) : List aZ :=
 if c.way = 0 then cs.set c.ch.toNat { cZ cs c.ch with dy := (cZ cs c.ch).dy ++ [⟨g, i, 0⟩] }
 else if c.way = 1 then cs.set c.ch.toNat { cZ cs c.ch with snd := (cZ cs c.ch).snd ++ [⟨g, i, fY.getD c.bQ.toNat 0⟩] } else cs
def eH (g : Int) (fY : List Int) (cases : List oV) (cs : List aZ) : Nat → List aZ
 | 0 => cs
 | i + 1 => match cases[i]? with
  | some c => kM g fY i c (eH g fY cases cs i)
  | none => eH g fY cases cs i
theorem Gc (g : Int) (fY : List Int) (i : Nat) (c : oV) (cs : List aZ) : (kM g fY i c cs).length = cs.length := by
 unfold kM; split
 ·simp
 ·split <;> simp
theorem lG (g : Int) (fY : List Int) (cases : List oV) (cs : List aZ) : ∀ i, (eH g fY cases cs i).length = cs.length
 | 0 => rfl
 | i + 1 => by
  unfold eH; split
  ·rw [Gc, lG _ _ _ _ i]
  ·exact lG _ _ _ _ i
theorem mem_set {α : Type} {l : List α} {i : Nat} {x y : α} (h : y ∈ l.set i x) : y ∈ l ∨ y = x := by
 rcases List.mem_or_eq_of_mem_set h with h | h
 ·exact .inl h
 ·exact .inr h
theorem vQ {cs : List aZ} {k : Int} (h0 : 0 ≤ k) (h : k < cs.length) : cZ cs k ∈ cs := by
 unfold cZ; rw [List.getD_eq_getElem?_getD, List.getElem?_eq_getElem (by omega)]; exact List.getElem_mem _
theorem Ci {g : Int} {fY : List Int} {i : Nat} {c : oV} {cs : List aZ} {N : Nat} (hs : ∀ x ∈ cs, x.Small N) (hc : c.Ok cs.length) : ∀ x ∈ kM g fY i c cs, x.Small (N + 1) := by
 obtain ⟨_, _, kk⟩ := hc
 intro x hm
 unfold kM at hm
 split at hm
 ·rename_i hw
  have hx := hs _ (vQ (kk (by omega)).1 (kk (by omega)).2.1)
  rcases mem_set hm with h | rfl
  ·exact (hs x h).mono (by omega)
  ·exact hx.wr _
 split at hm
 ·rename_i hw
  have hx := hs _ (vQ (kk (by omega)).1 (kk (by omega)).2.1)
  rcases mem_set hm with h | rfl
  ·exact (hs x h).mono (by omega)
  ·exact hx.ws _
 ·exact (hs x hm).mono (by omega)
theorem oB {g : Int} {fY : List Int} {cases : List oV} {cs : List aZ} {N : Nat} (hs : ∀ x ∈ cs, x.Small N) (hok : ∀ c ∈ cases, c.Ok cs.length) : ∀ i, ∀ x ∈ eH g fY cases cs i, x.Small (N + i)
 | 0 => hs
 | i + 1 => by
  unfold eH; split
  ·rename_i c hc
   exact Ci (oB hs hok i) (by rw [lG]; exact hok c (List.mem_of_getElem? hc))
  ·exact fun x hx => (oB hs hok i x hx).mono (by omega)
section
variable {R : Mem} {L L' : List HP} {M : Mem} {K : Value → Mem → Prop} {Kp : List PanicEntry → Mem → Prop} {bs : List Nat} {cs : List aZ}
theorem qj : bg Tryz.prog 36 3 1 8 [.int .i64 0] := bg.mk' (zv := .int .i64 0) (by kernel_rfl) (by kernel_rfl) rfl (by omega)
theorem Pm {cases : List oV} {i : Nat} {c : oV} (hc : cases[i]? = some c) (hw : c.way = 2) (hp : ∀ j c, j < i → cases[j]? = some c → c.way ≠ 2) : els cases = some i := by
 obtain ⟨hi, e⟩ := List.getElem?_eq_some_iff.1 hc
 refine List.findIdx?_eq_some_iff_getElem.2 ⟨hi, by rw [e]; simpa using hw, fun j hj => ?_⟩
 have := hp j _ hj (List.getElem?_eq_getElem (by omega))
 simpa using this
theorem Pn {cases : List oV} (hp : ∀ j c, j < cases.length → cases[j]? = some c → c.way ≠ 2) : els cases = none := by
 refine List.findIdx?_eq_none_iff.2 fun c hc => ?_
 obtain ⟨j, hj, e⟩ := List.getElem_of_mem hc
 have := hp j c hj (by rw [← e]; exact List.getElem?_eq_getElem hj)
 simpa using this
theorem IS {B : Option Addr} {m cc : Nat} {cases : List oV} (h : Hp R L M) (hB : Src R L B (iu.cells cases)) (hm : m = cases.length) (hb : cases.length ≤ 1000000000)
  (k : ∀ M', Hp R L M' → K (.tuple #[.int .i64 (match els cases with | some i => (i : Int) | none => 0), .bool (els cases).isSome]) M') :
  aa Tryz.prog 206 #[.slice B m cc] M K Kp := by
 subst hm
 refine Cg ⟨fun d ws M => ∃ i : Nat, ws = [.int .i64 (i : Int)] ∧ d = cases.length - i ∧ i ≤ cases.length ∧ (∀ j c, j < i → cases[j]? = some c → c.way ≠ 2) ∧ Hp R L M, ⟨_, 0, rfl, rfl, by omega, fun j c hj => by omega, h⟩, ?_⟩
 clear h
 rintro d _ ii M ⟨i, he, hd, hi, hp, h⟩
 simp only [List.cons.injEq, Value.int.injEq, and_true, true_and] at he
 subst he
 refine aJ.2 ⟨fun hlt => ?_, fun hge => ?_⟩
 ·obtain ⟨c, hc⟩ := aM (l := cases) (i := i) (by omega)
  obtain ⟨b, o, rfl⟩ := hB.ie h (by omega) (by decide)
  repeat (first|(refine aj h ?_;clear h;intro kb M h)|(refine au h ?_;clear h;intro M h)|refine St.to h ?_|(apply Exists.intro;(repeat apply Exists.intro);refine And.intro rfl ?_)|refine av ?_|refine ae ?_|refine ai ?_)
  simp only [Int.toNat_natCast]
  refine aR (hB.at h (i := i) (j := 0) hc rfl rfl) ?_
  refine aR (hB.at h (i := i) (j := 1) hc rfl rfl) ?_
  refine aR (hB.at h (i := i) (j := 2) hc rfl rfl) ?_
  repeat (first|(refine aj h ?_;clear h;intro kb M h)|(refine au h ?_;clear h;intro M h)|refine St.to h ?_|(apply Exists.intro;(repeat apply Exists.intro);refine And.intro rfl ?_)|refine av ?_|refine ae ?_|refine ai ?_)
  refine aV.2 ⟨fun e => ?_, fun e => ?_⟩
  ·have := Pm hc e hp
   rw [this] at k
   exact k _ h.sk
  ·rw [aP (by omega)]
   refine ⟨cases.length - (i + 1), by omega, i + 1, rfl, rfl, by omega, fun j c' hj HV => ?_, h.sk⟩
   rcases Nat.lt_or_ge j i with jZ | jZ
   ·exact hp j c' jZ HV
   ·obtain rfl : j = i := by omega
    rw [hc] at HV; cases HV; exact e
 ·obtain rfl : i = cases.length := by omega
  rw [Pn hp] at k
  exact k _ h
theorem Mv {c : oV} {B : Option Addr} {m cc : Nat} (h : Hp R L M) [o : fX bI L bs cs L'] (hB : Src R L' B (mO.cells bs)) (hm : m = bs.length) (hl : bs.length = cs.length) (hc : c.way ≠ 2 → 0 ≤ c.ch ∧ c.ch < cs.length) (IU : 0 ≤ c.way ∧ c.way ≤ 2)
  (k : ∀ M', Hp R (bl bI bs cs :: L') M' → K (.bool (can cs c)) M') : aa Tryz.prog 234 #[.agg #[.int .i64 c.way, .int .i64 c.ch, .int .i64 c.bQ], .slice B m cc] M K Kp := by
 subst hm
 replace h := h.oz bI
 obtain ⟨way, ch, bQ⟩ := c
 dsimp only at *
 by_cases hwe : way = 2
 ·subst hwe
  refine vP ?_
  repeat (first|(refine aj h ?_;clear h;intro kb M h)|(refine au h ?_;clear h;intro M h)|refine St.to h ?_|(apply Exists.intro;(repeat apply Exists.intro);refine And.intro rfl ?_)|refine av ?_|refine ae ?_|refine ai ?_)
  exact k _ h.sk
 replace hc := hc hwe
 obtain ⟨q, rfl⟩ := Int.eq_ofNat_of_zero_le hc.1
 obtain ⟨x, hx⟩ := aM (l := cs) (i := q) (by omega)
 obtain ⟨b, hb⟩ := aM (l := bs) (i := q) (by omega)
 have hxx : cZ cs (q : Int) = x := by simp [cZ, hx]
 obtain ⟨b0, o0, rfl⟩ := hB.cons.ie h (by omega) (by decide)
 simp only [can, hxx] at k
 refine vP ?_
 repeat (first|(refine aj h ?_;clear h;intro kb M h)|(refine au h ?_;clear h;intro M h)|refine St.to h ?_|(apply Exists.intro;(repeat apply Exists.intro);refine And.intro rfl ?_)|refine av ?_|refine ae ?_|refine ai ?_)
 refine aV.2 ⟨fun e => ?_, fun e => ?_⟩
 ·rw [if_pos e] at k
  repeat (first|(refine aj h ?_;clear h;intro kb M h)|(refine au h ?_;clear h;intro M h)|refine St.to h ?_|(apply Exists.intro;(repeat apply Exists.intro);refine And.intro rfl ?_)|refine av ?_|refine ae ?_|refine ai ?_)
  refine gH (hB.cons.cons.at h (i := q) (j := 0) hb rfl (by simp [mO])) ?_
  replace h := h.cH bI hb hx
  refine Cf h ?_
  repeat (first|(refine aj h ?_;clear h;intro kb M h)|(refine au h ?_;clear h;intro M h)|refine St.to h ?_|(apply Exists.intro;(repeat apply Exists.intro);refine And.intro rfl ?_)|refine av ?_|refine ae ?_|refine ai ?_)
  exact k _ (h.lg bI b hb hx).cj
 rw [if_neg e] at k
 refine aV.2 ⟨fun e => ?_, fun e => ?_⟩
 ·rw [if_pos e] at k
  repeat (first|(refine aj h ?_;clear h;intro kb M h)|(refine au h ?_;clear h;intro M h)|refine St.to h ?_|(apply Exists.intro;(repeat apply Exists.intro);refine And.intro rfl ?_)|refine av ?_|refine ae ?_|refine ai ?_)
  refine gH (hB.cons.cons.at h (i := q) (j := 0) hb rfl (by simp [mO])) ?_
  replace h := h.cH bI hb hx
  refine Ce h ?_
  repeat (first|(refine aj h ?_;clear h;intro kb M h)|(refine au h ?_;clear h;intro M h)|refine St.to h ?_|(apply Exists.intro;(repeat apply Exists.intro);refine And.intro rfl ?_)|refine av ?_|refine ae ?_|refine ai ?_)
  exact k _ (h.lg bI b hb hx).cj
 ·rw [if_neg e] at k
  exact k _ h.sk
theorem Cj {B A : Option Addr} {m cc n ca : Nat} {cases : List oV} (h : Hp R L M) [o : fX bI L bs cs L'] (hB : Src R L' B (iu.cells cases)) (hA : Src R L' A (mO.cells bs)) (hm : m = cases.length) (hn : n = bs.length)
  (hb : cases.length ≤ 1000000000) (hl : bs.length = cs.length) (hok : ∀ c ∈ cases, c.Ok cs.length)
  (k : ∀ A' c' M', Hp R (bE br 3 A' c' (enabled cases cs) :: bl bI bs cs :: L') M' → K (.slice A' (enabled cases cs).length c') M') :
  aa Tryz.prog 205 #[.slice B m cc, .slice A n ca] M K Kp := by
 subst hm
 replace h := h.oz bI
 refine xA ⟨fun d ws M => ∃ (i : Nat) (X : Option Addr) (cx : Nat), ws = [.slice X (Ei cases cs i).length cx, .int .i64 (i : Int)] ∧ d = cases.length - i ∧ i ≤ cases.length ∧ Hp R (bE br 3 X cx (Ei cases cs i) :: bl bI bs cs :: L') M, ⟨_, 0, none, 0, rfl, rfl, by omega, h.bR br _⟩, ?_⟩
 clear h
 rintro d _ X n1 cx ii M ⟨i, _, _, he, hd, hi, h⟩
 simp only [List.cons.injEq, Value.int.injEq, Value.slice.injEq, and_true, true_and] at he
 obtain ⟨⟨rfl, rfl, rfl⟩, rfl⟩ := he
 refine aJ.2 ⟨fun hlt => ?_, fun hge => ?_⟩
 ·obtain ⟨c, hc⟩ := aM (l := cases) (i := i) (by omega)
  obtain ⟨b, o, rfl⟩ := hB.cons.cons.ie h (by omega) (by decide)
  repeat (first|(refine aj h ?_;clear h;intro kb M h)|(refine au h ?_;clear h;intro M h)|refine St.to h ?_|(apply Exists.intro;(repeat apply Exists.intro);refine And.intro rfl ?_)|refine av ?_|refine ae ?_|refine ai ?_)
  simp only [Int.toNat_natCast]
  refine aR (hB.cons.cons.at h (i := i) (j := 0) hc rfl rfl) ?_
  refine aR (hB.cons.cons.at h (i := i) (j := 1) hc rfl rfl) ?_
  refine aR (hB.cons.cons.at h (i := i) (j := 2) hc rfl rfl) ?_
  repeat (first|(refine aj h ?_;clear h;intro kb M h)|(refine au h ?_;clear h;intro M h)|refine St.to h ?_|(apply Exists.intro;(repeat apply Exists.intro);refine And.intro rfl ?_)|refine av ?_|refine ae ?_|refine ai ?_)
  have hco := hok c (List.mem_of_getElem? hc)
  obtain ⟨w1, w2, k1⟩ := hco
  refine Mv (c := c) h hA.cons.cons hn hl (fun e => ⟨(k1 e).1, (k1 e).2.1⟩) ⟨w1, w2⟩ ?_
  clear h
  intro M h
  repeat (first|(refine aj h ?_;clear h;intro kb M h)|(refine au h ?_;clear h;intro M h)|refine St.to h ?_|(apply Exists.intro;(repeat apply Exists.intro);refine And.intro rfl ?_)|refine av ?_|refine ae ?_|refine ai ?_)
  have hlen := Gb cases cs i
  refine gS.2 ⟨fun hb => ?_, fun hb => ?_⟩
  ·have e := Dg (cs := cs) hc
   rw [if_pos hb] at e
   repeat (first|(refine aj h ?_;clear h;intro kb M h)|(refine au h ?_;clear h;intro M h)|refine St.to h ?_|(apply Exists.intro;(repeat apply Exists.intro);refine And.intro rfl ?_)|refine av ?_|refine ae ?_|refine ai ?_)
   refine h.bJ qj [(i : Int)] rfl rfl (by simp; omega) ?_
   clear h
   intro A' c' M h
   repeat (first|(refine aj h ?_;clear h;intro kb M h)|(refine au h ?_;clear h;intro M h)|refine St.to h ?_|(apply Exists.intro;(repeat apply Exists.intro);refine And.intro rfl ?_)|refine av ?_|refine ae ?_|refine ai ?_)
   rw [aP (by omega)]
   rw [← e] at h
   refine ⟨cases.length - (i + 1), by omega, i + 1, A', c', ?_, rfl, by omega, h.cj⟩
   rw [e]
  ·have e := Dg (cs := cs) hc
   rw [if_neg (by simp [hb]), List.append_nil] at e
   rw [aP (by omega)]
   refine ⟨cases.length - (i + 1), by omega, i + 1, X, cx, by rw [e], rfl, by omega, ?_⟩
   rw [e]; exact h.sub bp
 ·obtain rfl : i = cases.length := by omega
  exact k _ _ _ h
theorem Gd {g : Int} {A : Option Addr} {n ca : Nat} (h : Hp R L M) [o : fX bI L bs cs L'] (hA : Src R L' A (mO.cells bs)) (hn : n = bs.length) (hb : bs.length ≤ 1000000000) (hl : bs.length = cs.length) (hs : ∀ c ∈ cs, c.Small 1000000000)
  (k : ∀ M', Hp R (bl bI bs (cs.map (·.drop g)) :: L') M' → K (.tuple #[]) M') :
  aa Tryz.prog 252 #[.int .i64 g, .slice A n ca] M K Kp := by
 subst hn
 replace h := h.oz bI
 refine AH ⟨fun d ws M => ∃ (i : Nat), ws = [.int .i64 (i : Int)] ∧ d = bs.length - i ∧ i ≤ bs.length ∧ Hp R (bl bI bs ((cs.take i).map (·.drop g) ++ cs.drop i) :: L') M, ⟨_, 0, rfl, rfl, by omega, h⟩, ?_⟩
 clear h
 rintro d _ ii M ⟨i, he, hd, hi, h⟩
 simp only [List.cons.injEq, Value.int.injEq, and_true, true_and] at he
 subst he
 refine aJ.2 ⟨fun hlt => ?_, fun hge => ?_⟩
 ·obtain ⟨c, hc⟩ := aM (l := cs) (i := i) (by omega)
  obtain ⟨b, BV⟩ := aM (l := bs) (i := i) (by omega)
  obtain ⟨b0, o0, rfl⟩ := hA.cons.ie h (by omega) (by decide)
  have RT : ((cs.take i).map (·.drop g) ++ cs.drop i)[i]? = some c := by
   rw [List.getElem?_append_right (by simp; omega)]; simp [List.length_take, Nat.min_eq_left (show i ≤ cs.length by omega), hc]
  repeat (first|(refine aj h ?_;clear h;intro kb M h)|(refine au h ?_;clear h;intro M h)|refine St.to h ?_|(apply Exists.intro;(repeat apply Exists.intro);refine And.intro rfl ?_)|refine av ?_|refine ae ?_|refine ai ?_)
  refine gH (hA.cons.at h (i := i) (j := 0) BV rfl (by simp [mO])) ?_
  replace h := h.cH bI BV RT
  refine IP h (hs c (List.mem_of_getElem? hc)) ?_
  clear h
  intro M h
  repeat (first|(refine aj h ?_;clear h;intro kb M h)|(refine au h ?_;clear h;intro M h)|refine St.to h ?_|(apply Exists.intro;(repeat apply Exists.intro);refine And.intro rfl ?_)|refine av ?_|refine ae ?_|refine ai ?_)
  rw [aP (by omega)]
  refine ⟨bs.length - (i + 1), by omega, i + 1, rfl, rfl, by omega, ?_⟩
  have := (h.eA bI b BV (by simp; omega)).cj (T := L')
  rw [List.set_append_right _ _ (by simp; omega)] at this
  rw [bu hc, List.map_append, List.append_assoc]
  have e : (cs.drop i).set (i - ((cs.take i).map (·.drop g)).length) (c.drop g) = [c.drop g] ++ cs.drop (i + 1) := by
   rw [show i - ((cs.take i).map (·.drop g)).length = 0 from by simp; omega]
   obtain ⟨hi', e'⟩ := List.getElem?_eq_some_iff.1 hc
   rw [List.drop_eq_getElem_cons hi']; rfl
  rw [e] at this
  exact this
 ·obtain rfl : i = bs.length := by omega
  rw [hl, List.take_length, List.drop_length, List.append_nil] at h
  exact k _ h
theorem IV {g : Int} {B A D : Option Addr} {m cc n ca r cr : Nat} {cases : List oV} {fY : List Int} (h : Hp R L M) [o : fX bI L bs cs L'] (hB : Src R L' B (iu.cells cases)) (hA : Src R L' A (mO.cells bs)) (hD : Src R L' D (br.cells fY))
  (hm : m = cases.length) (hn : n = bs.length) (hr : r = 8) (hr8 : fY.length = 8) (hb : cases.length ≤ 1000000) (hl : bs.length = cs.length) (hok : ∀ c ∈ cases, c.Ok cs.length) (hs : ∀ c ∈ cs, c.Small 1000000)
  (k : ∀ M', Hp R (bl bI bs (eH g fY cases cs cases.length) :: L') M' → K (.tuple #[]) M') :
  aa Tryz.prog 207 #[.int .i64 g, .slice B m cc, .slice D r cr, .slice A n ca] M K Kp := by
 subst hm
 subst hn
 subst hr
 replace h := h.oz bI
 refine Ch ⟨fun d ws M => ∃ (i : Nat), ws = [.int .i64 (i : Int)] ∧ d = cases.length - i ∧ i ≤ cases.length ∧ Hp R (bl bI bs (eH g fY cases cs i) :: L') M, ⟨_, 0, rfl, rfl, by omega, h⟩, ?_⟩
 clear h
 rintro d _ ii M ⟨i, he, hd, hi, h⟩
 simp only [List.cons.injEq, Value.int.injEq, and_true, true_and] at he
 subst he
 refine aJ.2 ⟨fun hlt => ?_, fun hge => ?_⟩
 ·obtain ⟨c, hc⟩ := aM (l := cases) (i := i) (by omega)
  obtain ⟨w1, w2, kk⟩ := hok c (List.mem_of_getElem? hc)
  obtain ⟨b, o, rfl⟩ := hB.cons.ie h (by omega) (by decide)
  by_cases hwe : c.way = 2
  ·have e : eH g fY cases cs (i + 1) = eH g fY cases cs i := by
    rw [eH, hc]; dsimp only; unfold kM; rw [if_neg (by omega), if_neg (by omega)]
   repeat (first|(refine aj h ?_;clear h;intro kb M h)|(refine au h ?_;clear h;intro M h)|refine St.to h ?_|(apply Exists.intro;(repeat apply Exists.intro);refine And.intro rfl ?_)|refine av ?_|refine ae ?_|refine ai ?_)
   simp only [Int.toNat_natCast]
   refine aR (hB.cons.at h (i := i) (j := 0) hc rfl rfl) ?_
   refine aR (hB.cons.at h (i := i) (j := 1) hc rfl rfl) ?_
   refine aR (hB.cons.at h (i := i) (j := 2) hc rfl rfl) ?_
   repeat (first|(refine aj h ?_;clear h;intro kb M h)|(refine au h ?_;clear h;intro M h)|refine St.to h ?_|(apply Exists.intro;(repeat apply Exists.intro);refine And.intro rfl ?_)|refine av ?_|refine ae ?_|refine ai ?_)
   refine aV.2 ⟨fun e => by omega, fun _ => ?_⟩
   refine aV.2 ⟨fun e => by omega, fun _ => ?_⟩
   rw [aP (by omega)]
   refine ⟨cases.length - (i + 1), by omega, i + 1, rfl, rfl, by omega, ?_⟩
   rw [e]
   exact h.sk
  obtain ⟨k1, k2, k3, k4⟩ := kk hwe
  obtain ⟨b2, o2, rfl⟩ := hA.cons.ie h (by omega) (by decide)
  obtain ⟨b3, o3, rfl⟩ := hD.cons.ie h (by omega) (by decide)
  have hlen := lG g fY cases cs i
  have zi := oB (g := g) (fY := fY) hs hok i
  have e : eH g fY cases cs (i + 1) = kM g fY i c (eH g fY cases cs i) := by rw [eH, hc]
  generalize hw : eH g fY cases cs i = ws at h hlen zi e
  obtain ⟨way, ch, bQ⟩ := c
  dsimp only at k1 k2 k3 k4
  obtain ⟨q, rfl⟩ := Int.eq_ofNat_of_zero_le k1
  obtain ⟨q2, rfl⟩ := Int.eq_ofNat_of_zero_le k3
  obtain ⟨b1, BV⟩ := aM (l := bs) (i := q) (by omega)
  obtain ⟨x, hx⟩ := aM (l := ws) (i := q) (by omega)
  obtain ⟨v, hv⟩ := aM (l := fY) (i := q2) (by omega)
  have hxx : cZ ws (q : Int) = x := by simp [cZ, hx]
  have hvv : fY.getD q2 0 = v := by simp [hv]
  have hxs := zi x (List.mem_of_getElem? hx)
  simp only [kM, hxx, Int.toNat_natCast, hvv] at e
  repeat (first|(refine aj h ?_;clear h;intro kb M h)|(refine au h ?_;clear h;intro M h)|refine St.to h ?_|(apply Exists.intro;(repeat apply Exists.intro);refine And.intro rfl ?_)|refine av ?_|refine ae ?_|refine ai ?_)
  simp only [Int.toNat_natCast]
  refine aR (hB.cons.at h (i := i) (j := 0) hc rfl rfl) ?_
  refine aR (hB.cons.at h (i := i) (j := 1) hc rfl rfl) ?_
  refine aR (hB.cons.at h (i := i) (j := 2) hc rfl rfl) ?_
  dsimp only
  repeat (first|(refine aj h ?_;clear h;intro kb M h)|(refine au h ?_;clear h;intro M h)|refine St.to h ?_|(apply Exists.intro;(repeat apply Exists.intro);refine And.intro rfl ?_)|refine av ?_|refine ae ?_|refine ai ?_)
  refine aV.2 ⟨fun hw => ?_, fun hw => ?_⟩
  ·rw [if_pos hw] at e
   repeat (first|(refine aj h ?_;clear h;intro kb M h)|(refine au h ?_;clear h;intro M h)|refine St.to h ?_|(apply Exists.intro;(repeat apply Exists.intro);refine And.intro rfl ?_)|refine av ?_|refine ae ?_|refine ai ?_)
   refine gH (hA.cons.cons.at h (i := q) (j := 0) BV rfl (by simp [mO])) ?_
   have N5 := BV
   replace h := h.pick (.there .here)
   replace h := h.cH bI BV hx
   refine qh (w := ⟨g, i, 0⟩) h (hxs.mono (by omega)) ?_
   clear h
   intro M h
   repeat (first|(refine aj h ?_;clear h;intro kb M h)|(refine au h ?_;clear h;intro M h)|refine St.to h ?_|(apply Exists.intro;(repeat apply Exists.intro);refine And.intro rfl ?_)|refine av ?_|refine ae ?_|refine ai ?_)
   rw [aP (by omega)]
   refine ⟨cases.length - (i + 1), by omega, i + 1, rfl, rfl, by omega, ?_⟩
   rw [e]
   exact (h.eA bI b1 BV (by omega)).cj
  rw [if_neg hw] at e
  refine aV.2 ⟨fun hw => ?_, fun hw => ?_⟩
  ·rw [if_pos hw] at e
   repeat (first|(refine aj h ?_;clear h;intro kb M h)|(refine au h ?_;clear h;intro M h)|refine St.to h ?_|(apply Exists.intro;(repeat apply Exists.intro);refine And.intro rfl ?_)|refine av ?_|refine ae ?_|refine ai ?_)
   refine gH (hA.cons.cons.at h (i := q) (j := 0) BV rfl (by simp [mO])) ?_
   repeat (first|(refine aj h ?_;clear h;intro kb M h)|(refine au h ?_;clear h;intro M h)|refine St.to h ?_|(apply Exists.intro;(repeat apply Exists.intro);refine And.intro rfl ?_)|refine av ?_|refine ae ?_|refine ai ?_)
   refine aR (hD.cons.cons.at h (i := q2) (j := 0) hv rfl (by simp [br])) ?_
   replace h := h.pick (.there .here)
   replace h := h.cH bI BV hx
   refine qg (w := ⟨g, i, v⟩) h (hxs.mono (by omega)) ?_
   clear h
   intro M h
   repeat (first|(refine aj h ?_;clear h;intro kb M h)|(refine au h ?_;clear h;intro M h)|refine St.to h ?_|(apply Exists.intro;(repeat apply Exists.intro);refine And.intro rfl ?_)|refine av ?_|refine ae ?_|refine ai ?_)
   rw [aP (by omega)]
   refine ⟨cases.length - (i + 1), by omega, i + 1, rfl, rfl, by omega, ?_⟩
   rw [e]
   exact (h.eA bI b1 BV (by omega)).cj
  ·rw [if_neg hw] at e
   rw [aP (by omega)]
   refine ⟨cases.length - (i + 1), by omega, i + 1, rfl, rfl, by omega, ?_⟩
   rw [e]
   exact h.sk
 ·obtain rfl : i = cases.length := by omega
  exact k _ h
end
end Go.Proofs
namespace Go.Proofs
open Go.AF
structure cN where
 op : Int
 a : Int
 b : Int
 c : Int
 deriving DecidableEq
def cN.zero : cN := ⟨0, 0, 0, 0⟩
def jq : fP cN := ⟨4, fun x => [.int .i64 x.op, .int .i64 x.a, .int .i64 x.b, .int .i64 x.c], fun _ => rfl, fun w v hv => by
 simp only [List.mem_cons, List.not_mem_nil, or_false] at hv; obtain rfl | rfl | rfl | rfl := hv <;> rfl⟩
structure gV where
 fn : Int
 pc : Int
 r : List Int
 pe : Int
 deriving DecidableEq
def gV.bQ (f : gV) (q : Int) : Int := f.r.getD q.toNat 0
def gV.set (f : gV) (q v : Int) : gV := { f with r := (List.range 8).map fun i => if i = q.toNat then v else f.r.getD i 0 }
def gV.next (f : gV) : gV := { f with pc := f.pc + 1 }
def gV.begin (fn v : Int) : gV := ⟨fn, 0, [v, 0, 0, 0, 0, 0, 0, 0], 0⟩
def Po (f : gV) : List Value := [.int .i64 f.fn, .int .i64 f.pc, .int .i64 (f.r.getD 0 0), .int .i64 (f.r.getD 1 0), .int .i64 (f.r.getD 2 0), .int .i64 (f.r.getD 3 0), .int .i64 (f.r.getD 4 0), .int .i64 (f.r.getD 5 0), .int .i64 (f.r.getD 6 0), .int .i64 (f.r.getD 7 0), .int .i64 f.pe]
def fQ : fP gV := ⟨11, Po, fun _ => rfl, fun w v hv => by
 simp only [Po, List.mem_cons, List.not_mem_nil, or_false] at hv
 obtain rfl | rfl | rfl | rfl | rfl | rfl | rfl | rfl | rfl | rfl | rfl := hv <;> rfl⟩
theorem reg8 {q : Int} (h0 : 0 ≤ q) (h8 : q < 8) : q = 0 ∨ q = 1 ∨ q = 2 ∨ q = 3 ∨ q = 4 ∨ q = 5 ∨ q = 6 ∨ q = 7 := by omega
theorem Wl {f : gV} {q : Int} (h0 : 0 ≤ q) (h8 : q < 8) : (fQ.f f)[2 + q.toNat]? = some (.int .i64 (f.bQ q)) := by
 obtain rfl | rfl | rfl | rfl | rfl | rfl | rfl | rfl := reg8 h0 h8 <;> rfl
theorem SP {f : gV} {q v : Int} (h0 : 0 ≤ q) (h8 : q < 8) : (fQ.f f).set (2 + q.toNat) (.int .i64 v) = fQ.f (f.set q v) := by
 obtain rfl | rfl | rfl | rfl | rfl | rfl | rfl | rfl := reg8 h0 h8 <;> rfl
theorem Wm {f : gV} {v : Int} : (fQ.f f).set 1 (.int .i64 v) = fQ.f { f with pc := v } := rfl
def gV.pure (f : gV) (x : cN) : gV :=
 if x.op = 0 then f
 else if x.op = 1 then f.set x.a x.b
 else if x.op = 2 then f.set x.a (f.bQ x.b)
 else if x.op = 3 then f.set x.a (IntKind.wrap .i64 (f.bQ x.b + f.bQ x.c))
 else if x.op = 4 then f.set x.a (IntKind.wrap .i64 (f.bQ x.b - f.bQ x.c))
 else if x.op = 5 then f.set x.a (IntKind.wrap .i64 (f.bQ x.b * f.bQ x.c))
 else if x.op = 6 then f.set x.a (if f.bQ x.b < f.bQ x.c then 1 else 0)
 else if x.op = 7 then { f with pc := x.a }
 else if f.bQ x.a ≠ 0 then { f with pc := x.b } else f
def be (q : Int) : Prop := 0 ≤ q ∧ q < 8
instance (q : Int) : Decidable (be q) := by unfold be; infer_instance
def cN.cC (x : cN) : Prop :=
 (x.op ∈ [1, 8] → be x.a) ∧ (x.op = 2 → be x.a ∧ be x.b) ∧ (x.op ∈ [3, 4, 5, 6] → be x.a ∧ be x.b ∧ be x.c)
instance (x : cN) : Decidable x.cC := by unfold cN.cC; infer_instance
structure js where
 st : Int
 fs : List gV
 wt : cN
 deriving DecidableEq
structure Lk where
 owner : Int
 waits : List Int
 deriving DecidableEq
structure bz where
 t : Int
 seq : Int
 id : Int
 deriving DecidableEq
def lH : fP bz := ⟨3, fun x => [.int .u64 x.t, .int .u64 x.seq, .int .i64 x.id], fun _ => rfl, fun w v hv => by
 simp only [List.mem_cons, List.not_mem_nil, or_false] at hv; obtain rfl | rfl | rfl := hv <;> rfl⟩
structure cu where
 funcs : List (List cN)
 dU : List Int
 aI : Int
 cases : List oV
structure Wd where
 gs : List js
 clock : Int
 aB : List aZ
 aI : List Lk
 hl : List bz
 mQ : Int
 out : List Int
 end_ : Int
 code : Int
 ready : List Int
 deriving DecidableEq
def aq (x : Wd) (g : Int) : js := x.gs.getD g.toNat ⟨0, [], .zero⟩
def Wd.bG (x : Wd) (g : Int) (y : js) : Wd := { x with gs := x.gs.set g.toNat y }
def js.top (y : js) : gV := y.fs.getD (y.fs.length - 1) ⟨0, 0, [], 0⟩
def js.cV (y : js) (f : gV) : js := { y with fs := y.fs.set (y.fs.length - 1) f }
def Wd.bA (x : Wd) (g q v : Int) : Wd := x.bG g ((aq x g).cV ((aq x g).top.set q v))
def Wd.fF (x : Wd) (g : Int) : Wd := { x.bG g { aq x g with st := 1 } with ready := x.ready ++ [g] }
def Wd.block (x : Wd) (g : Int) (i : cN) : Wd := x.bG g { aq x g with st := 2, wt := i }
def Wd.leave (x : Wd) (g : Int) : Wd := { x with aB := x.aB.map fun c => c.drop g }
def Wd.gI (x : Wd) (g k : Int) : Wd := (x.bA g (aq x g).wt.c k).leave g
def qk (p : cu) (k : Int) : oV := p.cases.getD k.toNat ⟨0, 0, 0⟩
def Wd.received (p : cu) (x : Wd) (v : Wt) (some : Int) : Wd :=
 let i := (aq x v.g).wt
 (if i.op = 16 then ((x.bA v.g (qk p (i.a + v.cs)).bQ v.v).gI v.g v.cs)
  else (x.bA v.g i.b v.v).bA v.g i.c some).fF v.g
def Wd.sent (x : Wd) (v : Wt) : Wd := (if (aq x v.g).wt.op = 16 then x.gI v.g v.cs else x).fF v.g
inductive Out (α : Type) where
 | on (a : α)
 | eV (code : Int) (x : Wd)
 | dF (l : List PanicEntry) (x : Wd)
def Wd.cw (x : Wd) (k : Int) (c : aZ) : Wd := { x with aB := x.aB.set k.toNat c }
def Wd.put (p : cu) (x : Wd) (k v : Int) : Out (Wd × Bool) :=
 let s := (cZ x.aB k).send v
 if s.2.2.2 = 10 then .eV (-1) (x.cw k s.1)
 else .on ((if s.2.2.1 then (x.cw k s.1).received p s.2.1 1 else x.cw k s.1), s.2.2.2 == 0)
def Wd.get (x : Wd) (k : Int) : Wd × Int × Int × Bool :=
 let s := (cZ x.aB k).recv
 let y := if s.2.2.2.2.1 then (x.cw k s.1).sent s.2.2.2.1 else x.cw k s.1
 if s.2.2.1 then (y, s.2.1, 1, true) else (y, 0, 0, s.2.2.2.2.2 == 0)
def bn (x : Wd) (g : Int) : Prop := 0 ≤ g ∧ g < x.gs.length ∧ 0 < (aq x g).fs.length ∧ (aq x g).fs.length ≤ 1000
instance (x : Wd) (g : Int) : Decidable (bn x g) := by unfold bn; infer_instance
def ql (p : cu) (x : Wd) (v : Wt) : Prop := bn x v.g ∧
 if (aq x v.g).wt.op = 16 then 0 ≤ (aq x v.g).wt.a + v.cs ∧ (aq x v.g).wt.a + v.cs < p.cases.length ∧ p.cases.length ≤ 1000 ∧ be (qk p ((aq x v.g).wt.a + v.cs)).bQ ∧ be (aq x v.g).wt.c
 else be (aq x v.g).wt.b ∧ be (aq x v.g).wt.c
instance (p : cu) (x : Wd) (v : Wt) : Decidable (ql p x v) := by unfold ql; infer_instance
def yK (x : Wd) (v : Wt) : Prop := bn x v.g ∧ ((aq x v.g).wt.op = 16 → be (aq x v.g).wt.c)
instance (x : Wd) (v : Wt) : Decidable (yK x v) := by unfold yK; infer_instance
def Wd.Sm (x : Wd) : Prop := (∀ c ∈ x.aB, c.Small 1000000) ∧ x.aB.length ≤ 1000 ∧ x.gs.length ≤ 1000 ∧ x.ready.length ≤ 1000000 ∧ x.out.length ≤ 1000000 ∧ (∀ l ∈ x.aI, l.waits.length ≤ 1000000) ∧ x.aI.length ≤ 1000 ∧ x.hl.length ≤ 1000000
instance (x : Wd) : Decidable x.Sm := by unfold Wd.Sm; infer_instance
theorem gW {x : Wd} {g : Int} {y : js} (h0 : 0 ≤ g) (hg : g < x.gs.length) : aq (x.bG g y) g = y := by
 have : g.toNat < x.gs.length := by omega
 simp [aq, Wd.bG, this]
end Go.Proofs
namespace Go.Proofs
open Go.AF
set_option maxRecDepth 100000
variable {M : Mem} {K : Value → Mem → Prop} {Kp : List PanicEntry → Mem → Prop}
theorem qm {b0 o0 : Nat} {x1 : Int} (h :
aQ (decide ((x1 : Int) < 0))
 (K (.slice none 0 0) M)
 (rS M b0 (o0 + 4) fun A1 k2 k3 =>
 aQ (decide ((x1 : Int) ≥ k2))
 (K (.slice none 0 0) M)
 (rS M b0 (o0 + 4) fun A4 k5 k6 =>
 ((0 : Int) ≤ x1) ∧
 ((x1 : Int) < k5) ∧
 aE A4 fun k7 k8 =>
 rP M k7 (k8 + (Int.toNat x1)) fun A9 =>
 aE A9 fun c6 dL =>
 rS M c6 (dL + 1) fun ur cY eX =>
 aa Tryz.prog 163 #[(.slice ur cY eX)] M (fun vK eB =>
 az (some vK) fun Ed dx gZ =>
 K (.slice Ed dx gZ) eB) Kp))) :
 aa Tryz.prog 132 #[.pointer (some ⟨b0, o0, none⟩), .int .i64 x1] M K Kp := vw [] Tryz.func132 h
theorem uv {B0 : Option Addr} {m0 c0 : Nat} (h :
aQ ((m0 : Int) == 0)
 (K (.pointer none) M)
 (((0 : Int) ≤ (IntKind.wrap .i64 ((m0 : Int) - 1))) ∧
 (((IntKind.wrap .i64 ((m0 : Int) - 1)) : Int) < (m0 : Int)) ∧
 aE B0 fun k1 k2 =>
 K (.pointer (some ⟨k1, (k2 + ((Int.toNat (IntKind.wrap .i64 ((m0 : Int) - 1))) * 11)), none⟩)) M)) :
 aa Tryz.prog 189 #[.slice B0 m0 c0] M K Kp := vw [] Tryz.func189 h
theorem su {b0 o0 : Nat} {x1 : Int} (h :
aW M Ay fun k1 M2 =>
aQ (decide ((x1 : Int) < 0))
 (sT M2 k1 0 (.slice none 0 0) fun M3 =>
 sT M3 k1 1 (.slice none 0 0) fun M4 =>
 sT M4 k1 2 (.slice none 0 0) fun M5 =>
 sT M5 k1 3 (.bool false) fun M6 =>
 KF M6 k1 0 fun A7 k8 k9 vg dL eU Dc eX gj t16 =>
 K (.agg #[(.slice A7 k8 k9), (.slice vg dL eU), (.slice Dc eX gj), (.bool t16)]) M6)
 (rS M2 b0 (o0 + 6) fun Ed dx gZ =>
 aQ (decide ((x1 : Int) ≥ dx))
 (sT M2 k1 0 (.slice none 0 0) fun kX =>
 sT kX k1 1 (.slice none 0 0) fun jG =>
 sT jG k1 2 (.slice none 0 0) fun cU =>
 sT cU k1 3 (.bool false) fun gQ =>
 KF gQ k1 0 fun ze nj lV Mw ko nT RR lZ nO t33 =>
 K (.agg #[(.slice ze nj lV), (.slice Mw ko nT), (.slice RR lZ nO), (.bool t33)]) gQ)
 (rS M2 b0 (o0 + 6) fun Ve yH Ga =>
 ((0 : Int) ≤ x1) ∧
 ((x1 : Int) < yH) ∧
 aE Ve fun pg gm =>
 rP M2 pg (gm + (Int.toNat x1)) fun HT =>
 aa Tryz.prog 137 #[(.pointer HT)] M2 (fun Ge uw =>
 ∃ Eg : Option Addr, ∃ nR BX : Nat, ∃ Zj : Option Addr, ∃ Fe N7 : Nat, ∃ Oc : Option Addr, ∃ RU KO : Nat, ∃ t51 : Bool, (Ge = (.agg #[(.slice Eg nR BX), (.slice Zj Fe N7), (.slice Oc RU KO), (.bool t51)])) ∧
 kB uw k1 (.slice Eg nR BX) (.slice Zj Fe N7) (.slice Oc RU KO) (.bool t51) fun l8 =>
 KF l8 k1 0 fun Pp AI BY A59 KR k61 A62 HW k64 t65 =>
 K (.agg #[(.slice Pp AI BY), (.slice A59 KR k61), (.slice A62 HW k64), (.bool t65)]) l8) Kp))) :
 aa Tryz.prog 89 #[.pointer (some ⟨b0, o0, none⟩), .int .i64 x1] M K Kp := vw [] Tryz.func89 h
theorem pn {b0 o0 : Nat} {x1 : Int} (h :
aQ (decide ((x1 : Int) < 0))
 (K (.int .i64 0) M)
 (az (Mem.ld M ⟨b0, (o0 + 4), none⟩) fun A1 k2 k3 =>
 aQ (decide ((x1 : Int) ≥ ((k2 : Nat) : Int)))
  (K (.int .i64 0) M)
  (az (Mem.ld M ⟨b0, (o0 + 4), none⟩) fun A4 k5 k6 =>
  ((0 : Int) ≤ x1) ∧
  ((x1 : Int) < ((k5 : Nat) : Int)) ∧
  aE A4 fun k7 k8 =>
  cv (Mem.ld M ⟨k7, (k8 + (Int.toNat x1)), none⟩) fun A9 =>
  aE A9 fun c6 dL =>
  aK (Mem.ld M ⟨c6, dL, none⟩) .i64 fun gy =>
  K (.int .i64 gy) M))) :
 aa Tryz.prog 119 ([.pointer (some ⟨b0, o0, none⟩), .int .i64 x1] : List Value).toArray M K Kp :=
 bV (C := Cx) good [] Tryz.func119 (by kernel_rfl) (by kernel_rfl) h
theorem ux {b0 o0 : Nat} (h :
rS M b0 (o0 + 4) fun A1 k2 k3 =>
K (iV (k2 : Int)) M) :
 aa Tryz.prog 73 #[.pointer (some ⟨b0, o0, none⟩)] M K Kp := vw [] Tryz.func73 h
theorem uy {b0 o0 : Nat} (h :
rI M b0 (o0 + 11) fun n1 =>
rI M b0 (o0 + 12) fun n2 =>
K (.tuple #[(iV n1), (iV n2)]) M) :
 aa Tryz.prog 28 #[.pointer (some ⟨b0, o0, none⟩)] M K Kp := vw [(1, .bQ [0, 1, 3, 7, 0, 16, 48, 112, 15, 511] (sy [0, 1, 2, 4, 5, 6, 3, 8, 7, 9] .done))] Tryz.func28 h
theorem sw {b0 o0 : Nat} (h :
aK (Mem.ld M ⟨b0, (o0 + 11), none⟩) .i64 fun n1 =>
aQ (n1 != 0)
 (K (.slice none 0 0) M)
 (aK (Mem.ld M ⟨b0, (o0 + 5), none⟩) .u64 fun n2 =>
 aN M ⟨b0, (o0 + 5), none⟩ (.int .u64 (IntKind.wrap .u64 (n2 + 1))) fun M3 =>
 aN M3 ⟨b0, (o0 + 13), none⟩ (.slice none 0 0) fun M4 =>
 aK (Mem.ld M4 ⟨b0, (o0 + 5), none⟩) .u64 fun n5 =>
 aa Tryz.prog 157 #[(.pointer (some ⟨b0, (o0 + 8), none⟩)), (.int .u64 n5)] M4 (fun v6 M7 =>
 az (some v6) fun A8 k9 c6 =>
 ∃ Vf : Nat → List Value → Mem → Prop, (∃ eU : Nat, Vf eU [(.int .i64 0)] M7) ∧
 ∀ cY : Nat, ∀ junk14 : Nat → Value, ∀ gT : Int, ∀ eB : Mem, (Vf cY [(.int .i64 gT)] eB) → aQ (decide ((gT : Int) < ((k9 : Nat) : Int)))
  (((0 : Int) ≤ gT) ∧
  ((gT : Int) < ((k9 : Nat) : Int)) ∧
  aE A8 fun dS dx =>
  aK (Mem.ld eB ⟨dS, (dx + ((Int.toNat gT) * 3)), none⟩) .u64 fun lF =>
  aK (Mem.ld eB ⟨dS, ((dx + ((Int.toNat gT) * 3)) + 1), none⟩) .u64 fun dZ =>
  aK (Mem.ld eB ⟨dS, ((dx + ((Int.toNat gT) * 3)) + 2), none⟩) .i64 fun jr =>
  aW eB (.cells #[(.int .u64 0), (.int .u64 0), (.int .i64 0)] 203 (0, 0)) fun g6 gQ =>
  aN gQ ⟨g6, 0, none⟩ (.int .u64 lF) fun j6 =>
  aN j6 ⟨g6, (0 + 1), none⟩ (.int .u64 dZ) fun wU =>
  aN wU ⟨g6, (0 + 2), none⟩ (.int .i64 jr) fun vj =>
  aK (Mem.ld vj ⟨g6, (0 + 2), none⟩) .i64 fun xC =>
  aa Tryz.prog 158 #[(.pointer (some ⟨b0, o0, none⟩)), (.int .i64 xC)] vj (fun Pj kf =>
  (Pj = (.tuple #[])) ∧
  ∃ kZ : Nat, (kZ < cY) ∧
  Vf kZ [(.int .i64 (IntKind.wrap .i64 (gT + 1)))] kf) Kp)
  (az (Mem.ld eB ⟨b0, (o0 + 13), none⟩) fun Db nO nQ =>
  K (.slice Db nO nQ) eB)) Kp)) :
 aa Tryz.prog 120 ([.pointer (some ⟨b0, o0, none⟩)] : List Value).toArray M K Kp :=
 bV (C := Cx) good [(5, .bQ [0, 1, 3, 0, 8, 24, 56, 127, 255, 0] (.step 0 (.step 1 (.step 2 (.step 3 (.step 4 (.step 5 (.step 9 (.step 6 (.step 7 (.step 8 .done))))))))))), (2000000, .loop [(29, .c (.int .i64))])] Tryz.func120 (by kernel_rfl) (by kernel_rfl) h
theorem uz {b0 o0 : Nat} (h :
aW M (cl [] 2) fun k1 M2 =>
rS M2 b0 (o0 + 10) fun A3 k4 k5 =>
aA 53 (some ⟨k1, 0, none⟩) 0 0 A3 k4 k5 M2 (fun v6 M7 =>
az (some v6) fun A8 k9 c6 =>
K (.slice A8 k9 c6) M7) Kp) :
 aa Tryz.prog 23 #[.pointer (some ⟨b0, o0, none⟩)] M K Kp := vw [] Tryz.func23 h
theorem nt {b0 o0 : Nat} (h :
aa Tryz.prog 63 #[(.pointer (some ⟨b0, (o0 + 8), none⟩))] M (fun v1 M2 =>
az (some v1) fun A3 k4 k5 =>
K (.slice A3 k4 k5) M2) Kp) :
 aa Tryz.prog 19 #[.pointer (some ⟨b0, o0, none⟩)] M K Kp := vw [] Tryz.func19 h
theorem AJ {x0 : Int} {x1 : Int} (h :
aW M (cl [(iV x0), (iV 0), (iV x1), (iV 0), (iV 0), (iV 0), (iV 0), (iV 0), (iV 0), (iV 0), (iV 0)] 275) fun k1 M2 =>
K (.slice (some ⟨k1, 0, none⟩) 1 1) M2) :
 aa Tryz.prog 112 #[.int .i64 x0, .int .i64 x1] M K Kp := vw [] Tryz.func112 h
theorem Ej  (h :
aW M (cl [(iV (-1)), (.slice none 0 0)] 307) fun k1 M2 =>
K (.pointer (some ⟨k1, 0, none⟩)) M2) :
 aa Tryz.prog 114 #[] M K Kp := vw [] Tryz.func114 h
theorem qn {B0 : Option Addr} {m0 c0 : Nat} (h :
aA 226 none 0 0 B0 m0 c0 M (fun v1 M2 =>
az (some v1) fun A3 k4 k5 =>
K (.slice A3 k4 k5) M2) Kp) :
 aa Tryz.prog 163 #[.slice B0 m0 c0] M K Kp := vw [] Tryz.func163 h
theorem vR {b0 o0 : Nat} {x1 : Int} (h :
∃ I1 : Nat → List Value → Mem → Prop, (∃ k2 : Nat, I1 k2 [(.slice none 0 0)] M) ∧
∀ k3 : Nat, ∀ Vg : Nat → Value, ∀ A5 : Option Addr, ∀ k6 : Nat, ∀ k7 : Nat, ∀ M8 : Mem, (I1 k3 [(.slice A5 k6 k7)] M8) → az (Mem.ld M8 ⟨b0, o0, none⟩) fun A9 c6 dL =>
aQ (decide ((((c6 : Nat) : Int) : Int) > 0))
 (az (Mem.ld M8 ⟨b0, o0, none⟩) fun ur cY eX =>
 ((0 : Int) ≤ 0) ∧
 ((0 : Int) < ((cY : Nat) : Int)) ∧
 aE ur fun gj dK =>
 aK (Mem.ld M8 ⟨gj, (dK + 0), none⟩) .u64 fun fK =>
 aQ (decide ((fK : Int) ≤ x1))
  (aa Tryz.prog 117 #[(.pointer (some ⟨b0, o0, none⟩)), (.int .i64 0)] M8 (fun AB iN =>
  ∃ dZ : Int, ∃ jr : Int, ∃ mP : Int, (AB = (.agg #[(.int .u64 dZ), (.int .u64 jr), (.int .i64 mP)])) ∧
  aW iN (.cells #[(.int .u64 dZ), (.int .u64 jr), (.int .i64 mP)] 203 (0, 0)) fun iI j6 =>
  aX Tryz.prog (Go.Builtin.append_ #[46, 46] 46 #[(.slice A5 k6 k7), (.slice (some ⟨iI, 0, none⟩) 1 1)]) j6 (fun Mx vj =>
  az (some Mx) fun Mw ko nT =>
  ∃ kZ : Nat, (kZ < k3) ∧
  I1 kZ [(.slice Mw ko nT)] vj) Kp) Kp)
  (K (.slice A5 k6 k7) M8))
 (K (.slice A5 k6 k7) M8)) :
 aa Tryz.prog 157 ([.pointer (some ⟨b0, o0, none⟩), .int .u64 x1] : List Value).toArray M K Kp :=
 bV (C := Cx) good [(2000000, .loop [(5, .c .sl)])] Tryz.func157 (by kernel_rfl) (by kernel_rfl) h
theorem sC {b0 o0 : Nat} {x1 : Int} (h :
rS M b0 (o0 + 4) fun A1 k2 k3 =>
((0 : Int) ≤ x1) ∧
((x1 : Int) < k2) ∧
aE A1 fun k4 k5 =>
rP M k4 (k5 + (Int.toNat x1)) fun A6 =>
aE A6 fun k7 k8 =>
sT M k7 k8 (iV 1) fun M9 =>
rS M9 b0 (o0 + 13) fun vg dL eU =>
aW M9 (cl [(iV x1)] 3) fun cY jM =>
aA 36 vg dL eU (some ⟨cY, 0, none⟩) 1 1 jM (fun vK eB =>
az (some vK) fun Ed dx gZ =>
sT eB b0 (o0 + 13) (.slice Ed dx gZ) fun kX =>
K (.tuple #[]) kX) Kp) :
 aa Tryz.prog 158 #[.pointer (some ⟨b0, o0, none⟩), .int .i64 x1] M K Kp := vw [] Tryz.func158 h
theorem vS {b0 o0 : Nat} (h :
aW M (.cells #[] 203 (0, 0)) fun k1 M2 =>
az (Mem.ld M2 ⟨b0, o0, none⟩) fun A3 k4 k5 =>
aX Tryz.prog (Go.Builtin.append_ #[46, 46] 46 #[(.slice (some ⟨k1, 0, none⟩) 0 0), (.slice A3 k4 k5)]) M2 (fun v6 M7 =>
az (some v6) fun A8 k9 c6 =>
aW M7 (.cells #[(.slice none 0 0), (.int .u64 0)] 159 (0, 0)) fun dL j0 =>
aN j0 ⟨dL, 0, none⟩ (.slice A8 k9 c6) fun jl =>
aN jl ⟨dL, (0 + 1), none⟩ (.int .u64 0) fun jM =>
∃ I15 : Nat → List Value → Mem → Prop, (∃ dK : Nat, I15 dK [(.slice none 0 0)] jM) ∧
∀ dS : Nat, ∀ junk18 : Nat → Value, ∀ Cd : Option Addr, ∀ iM : Nat, ∀ eG : Nat, ∀ cU : Mem, (I15 dS [(.slice Cd iM eG)] cU) → az (Mem.ld cU ⟨dL, 0, none⟩) fun HR kC nj =>
aQ (decide ((((kC : Nat) : Int) : Int) > 0))
 (aa Tryz.prog 117 #[(.pointer (some ⟨dL, 0, none⟩)), (.int .i64 0)] cU (fun SN pN =>
 ∃ rM : Int, ∃ qi : Int, ∃ vT : Int, (SN = (.agg #[(.int .u64 rM), (.int .u64 qi), (.int .i64 vT)])) ∧
 aW pN (.cells #[(.int .u64 rM), (.int .u64 qi), (.int .i64 vT)] 203 (0, 0)) fun lZ nk =>
 aX Tryz.prog (Go.Builtin.append_ #[46, 46] 46 #[(.slice Cd iM eG), (.slice (some ⟨lZ, 0, none⟩) 1 1)]) nk (fun v33 pb =>
 az (some v33) fun Zk Ga pg =>
 ∃ gm : Nat, (gm < dS) ∧
 I15 gm [(.slice Zk Ga pg)] pb) Kp) Kp)
 (K (.slice Cd iM eG) cU)) Kp) :
 aa Tryz.prog 63 ([.pointer (some ⟨b0, o0, none⟩)] : List Value).toArray M K Kp :=
 bV (C := Cx) good [(2000000, .loop [(4, .c .sl)])] Tryz.func63 (by kernel_rfl) (by kernel_rfl) h
theorem sE {b0 o0 : Nat} {cQ : Int} {cR : Int} {cT : Int} {eJ : Int} (h :
aW M (cl [(iV cQ), (iV cR), (iV cT), (iV eJ)] 27) fun k1 M2 =>
rI M2 k1 0 fun n3 =>
aa Tryz.prog 203 #[] M2 (fun v4 M5 =>
eI M5 k1 0 n3 ∧
aX Tryz.prog (Go.Instr.lookup 361 v4 (iV n3) true) M5 (fun v6 M7 =>
∃ v8 : Value, ∃ t9 : Bool, (v6 = (.tuple #[v8, (.bool t9)])) ∧
eI M7 k1 0 n3 ∧
aQ t9
 (rI M7 b0 (o0 + 1) fun jN =>
 sT M7 b0 (o0 + 1) (iV (IntKind.wrap .i64 (jN + 1))) fun ir =>
 bN ir k1 0 fun gy hG j5 gT =>
 gf Cx v8 [(.pointer (some ⟨b0, o0, none⟩)), (.agg #[(iV gy), (iV hG), (iV j5), (iV gT)])] ir (fun My kY =>
 (My = (.tuple #[])) ∧
 K (.bool t9) kY) Kp)
 (K (.bool t9) M7)) Kp) Kp) :
 aa Tryz.prog 190 #[.pointer (some ⟨b0, o0, none⟩), .agg #[.int .i64 cQ, .int .i64 cR, .int .i64 cT, .int .i64 eJ]] M K Kp := vw [(1, .bQ [0, 0, 2, 7, 15, 31, 31, 63, 255] (sy [1] (.cE 2 (sy [0, 3, 4, 5, 6, 7, 8] .done))))] Tryz.func190 h
theorem po {b0 o0 : Nat} {x1 : Int} {b2 o2 : Nat} {e7 : Int} {e8 : Int} {fa : Int} {fh : Int} (h :
aW M (cl [(iV e7), (iV e8), (iV fa), (iV fh)] 27) fun k1 M2 =>
bN M2 k1 0 fun n3 n4 n5 n6 =>
aa Tryz.prog 204 #[(.pointer (some ⟨b0, o0, none⟩)), (.agg #[(iV n3), (iV n4), (iV n5), (iV n6)])] M2 (fun v7 M8 =>
az (some v7) fun A9 c6 dL =>
rS M8 b0 (o0 + 6) fun ur cY eX =>
aa Tryz.prog 205 #[(.slice A9 c6 dL), (.slice ur cY eX)] M8 (fun vK eB =>
az (some vK) fun Ed dx gZ =>
aQ ((dx : Int) == 0)
 (rI eB b2 (o2 + 1) fun dZ =>
 sT eB b2 (o2 + 1) (iV (IntKind.wrap .i64 (dZ + 1))) fun jG =>
 aa Tryz.prog 206 #[(.slice A9 c6 dL)] jG (fun AA gQ =>
 ∃ Fh : Int, ∃ t25 : Bool, (AA = (.tuple #[(iV Fh), (.bool t25)])) ∧
 aQ t25
 (rI gQ k1 3 fun lX =>
 (0 ≤ lX) ∧
 (lX < 8) ∧
 sT gQ b2 ((o2 + 2) + (Int.toNat lX)) (iV Fh) fun pN =>
 K (.tuple #[]) pN)
 (((0 : Int) ≤ 8) ∧
 ((8 : Int) ≤ 8) ∧
 ((0 : Int) ≤ 8) ∧
 ((8 : Int) ≤ 8) ∧
 ((0 : Int) ≤ 0) ∧
 ((0 : Int) ≤ 8) ∧
 rS gQ b0 (o0 + 6) fun SO nT kZ =>
 aa Tryz.prog 207 #[(iV x1), (.slice A9 c6 dL), (.slice (kx (some ⟨b2, (o2 + 2), none⟩) 0 8 1) 8 8), (.slice SO nT kZ)] gQ (fun SL nk =>
 (SL = (.tuple #[])) ∧
 bN nk k1 0 fun rL KS Ek zj =>
 aa Tryz.prog 208 #[(.pointer (some ⟨b0, o0, none⟩)), (iV x1), (.agg #[(iV rL), (iV KS), (iV Ek), (iV zj)])] nk (fun v37 lW =>
 (v37 = (.tuple #[])) ∧
 K (.tuple #[]) lW) Kp) Kp)) Kp)
 (fC (Mem.ld eB ⟨b0, (o0 + 14), none⟩) fun v39 =>
 gf Cx v39 [(iV 3), (iV (dx : Int))] eB (fun Ge uw =>
 aK (some Ge) .i64 fun Dh =>
 (0 ≤ Dh) ∧
 (Dh < dx) ∧
 aE Ed fun nR BX =>
 rI uw nR (BX + (Int.toNat Dh)) fun vU =>
 rI uw b2 (o2 + 1) fun BZ =>
 sT uw b2 (o2 + 1) (iV (IntKind.wrap .i64 (BZ + 1))) fun sF =>
 (0 ≤ vU) ∧
 (vU < c6) ∧
 aE A9 fun Od RU =>
 j9 sF Od (RU + ((Int.toNat vU) * 3)) fun Pq Fi RV =>
 aW sF rJ fun uo Ff =>
 FY Ff uo (iV Pq) (iV Fi) (iV RV) fun Pe =>
 rI Pe uo 0 fun KN =>
 aQ (KN == 1)
 (rI Pe uo 1 fun F1 =>
 rI Pe uo 2 fun HS =>
 (0 ≤ HS) ∧
 (HS < 8) ∧
 rI Pe b2 ((o2 + 2) + (Int.toNat HS)) fun De =>
 aa Tryz.prog 209 #[(.pointer (some ⟨b0, o0, none⟩)), (iV F1), (iV De)] Pe (fun Pr zf =>
 dH (some Pr) fun t64 =>
 rI zf k1 3 fun vL =>
 (0 ≤ vL) ∧
 (vL < 8) ∧
 sT zf b2 ((o2 + 2) + (Int.toNat vL)) (iV vU) fun Vh =>
 K (.tuple #[]) Vh) Kp)
 (rI Pe uo 1 fun RW =>
 rI Pe uo 2 fun IW =>
 aa Tryz.prog 210 #[(.pointer (some ⟨b0, o0, none⟩)), (iV RW)] Pe (fun v69 KT =>
 ∃ Zl Wn : Int, ∃ t73 : Bool, (v69 = (.tuple #[(iV Zl), (iV Wn), (.bool t73)])) ∧
 eI KT uo 2 IW ∧
 (0 ≤ IW) ∧
 (IW < 8) ∧
 sT KT b2 ((o2 + 2) + (Int.toNat IW)) (iV Zl) fun Gf =>
 eI Gf uo 2 IW ∧
 rI Gf k1 3 fun SM =>
 (0 ≤ SM) ∧
 (SM < 8) ∧
 sT Gf b2 ((o2 + 2) + (Int.toNat SM)) (iV vU) fun Zm =>
 K (.tuple #[]) Zm) Kp)) Kp)) Kp) Kp) :
 aa Tryz.prog 191 #[.pointer (some ⟨b0, o0, none⟩), .int .i64 x1, .pointer (some ⟨b2, o2, none⟩), .agg #[.int .i64 e7, .int .i64 e8, .int .i64 fa, .int .i64 fh]] M K Kp := vw [(7, .bQ [0, 0, 2, 0, 1, 17, 63, 127] (sy [0, 1, 3, 4, 5, 2, 6, 7] .done)), (8, .bQ [0, 0, 0, 4, 12, 28, 0, 64, 192, 448, 1023] (sy [0, 1, 2, 3, 4, 5, 6, 7, 8, 9, 10] .done)), (14, .bQ [0, 0, 2, 0, 0, 16, 8, 72, 248, 504, 1023] (sy [0, 1, 3, 4, 6, 7, 2, 5, 8, 9, 10] .done)), (15, .bQ [0, 0, 2, 0, 0, 16, 56, 120, 248, 248, 248, 1, 2049, 6655, 14847] (sy [0, 1, 3, 4, 11, 12, 5] (.cE 2 (sy [6, 7, 8, 9, 10, 13, 14] .done)))), (16, .bQ [0, 0, 2, 0, 1, 17, 63, 127] (sy [0, 1, 3, 4, 5, 2, 6, 7] .done))] Tryz.func191 h
theorem sG {b0 o0 : Nat} {x1 : Int} {b2 o2 : Nat} {e7 : Int} {e8 : Int} {fa : Int} {fh : Int} (h :
aW M (cl [(iV e7), (iV e8), (iV fa), (iV fh)] 27) fun k1 M2 =>
fC (Mem.ld M2 ⟨b0, (o0 + 14), none⟩) fun v3 =>
rI M2 k1 2 fun n4 =>
gf Cx v3 [(iV 4), (iV n4)] M2 (fun v5 M6 =>
aK (some v5) .i64 fun n7 =>
rI M6 b2 (o2 + 1) fun n8 =>
sT M6 b2 (o2 + 1) (iV (IntKind.wrap .i64 (n8 + 1))) fun M9 =>
rI M9 k1 1 fun jN =>
(0 ≤ jN) ∧
(jN < 8) ∧
sT M9 b2 ((o2 + 2) + (Int.toNat jN)) (iV n7) fun ir =>
K (.tuple #[]) ir) Kp) :
 aa Tryz.prog 192 #[.pointer (some ⟨b0, o0, none⟩), .int .i64 x1, .pointer (some ⟨b2, o2, none⟩), .agg #[.int .i64 e7, .int .i64 e8, .int .i64 fa, .int .i64 fh]] M K Kp := vw [(1, .bQ [0, 1, 3, 7, 0, 16, 63, 127] (sy [0, 1, 2, 4, 3, 5, 6, 7] .done)), (3, .bQ [0, 0, 2, 0, 1, 17, 63, 127] (sy [0, 1, 3, 4, 5, 2, 6, 7] .done))] Tryz.func192 h
theorem AK  (h :
aW M (.map #[] 0) fun k1 M2 =>
bL Tryz.prog (Go.Instr.mapUpdate 345 (.map (some k1)) (iV 9) (.func (.func 211) #[] #[])) M2 (fun M3 =>
bL Tryz.prog (Go.Instr.mapUpdate 345 (.map (some k1)) (iV 10) (.func (.func 212) #[] #[])) M3 (fun M4 =>
bL Tryz.prog (Go.Instr.mapUpdate 345 (.map (some k1)) (iV 11) (.func (.func 213) #[] #[])) M4 (fun M5 =>
bL Tryz.prog (Go.Instr.mapUpdate 345 (.map (some k1)) (iV 12) (.func (.func 214) #[] #[])) M5 (fun M6 =>
bL Tryz.prog (Go.Instr.mapUpdate 345 (.map (some k1)) (iV 13) (.func (.func 215) #[] #[])) M6 (fun M7 =>
bL Tryz.prog (Go.Instr.mapUpdate 345 (.map (some k1)) (iV 14) (.func (.func 216) #[] #[])) M7 (fun M8 =>
bL Tryz.prog (Go.Instr.mapUpdate 345 (.map (some k1)) (iV 15) (.func (.func 217) #[] #[])) M8 (fun M9 =>
bL Tryz.prog (Go.Instr.mapUpdate 345 (.map (some k1)) (iV 17) (.func (.func 218) #[] #[])) M9 (fun fJ =>
bL Tryz.prog (Go.Instr.mapUpdate 345 (.map (some k1)) (iV 18) (.func (.func 219) #[] #[])) fJ (fun ir =>
bL Tryz.prog (Go.Instr.mapUpdate 345 (.map (some k1)) (iV 19) (.func (.func 220) #[] #[])) ir (fun j0 =>
bL Tryz.prog (Go.Instr.mapUpdate 345 (.map (some k1)) (iV 20) (.func (.func 221) #[] #[])) j0 (fun jl =>
bL Tryz.prog (Go.Instr.mapUpdate 345 (.map (some k1)) (iV 22) (.func (.func 222) #[] #[])) jl (fun jM =>
K (.map (some k1)) jM) Kp) Kp) Kp) Kp) Kp) Kp) Kp) Kp) Kp) Kp) Kp) Kp) :
 aa Tryz.prog 193 #[] M K Kp := vw [] Tryz.func193 h
theorem sH {b0 o0 : Nat} {x1 : Int} (h :
aW M (.cells #[(.int .u64 0), (.int .u64 0), (.int .i64 0)] 203 (0, 0)) fun k1 M2 =>
az (Mem.ld M2 ⟨b0, o0, none⟩) fun A3 k4 k5 =>
((0 : Int) ≤ x1) ∧
((x1 : Int) < ((k4 : Nat) : Int)) ∧
aE A3 fun k6 k7 =>
aK (Mem.ld M2 ⟨k6, (k7 + ((Int.toNat x1) * 3)), none⟩) .u64 fun n8 =>
aK (Mem.ld M2 ⟨k6, ((k7 + ((Int.toNat x1) * 3)) + 1), none⟩) .u64 fun n9 =>
aK (Mem.ld M2 ⟨k6, ((k7 + ((Int.toNat x1) * 3)) + 2), none⟩) .i64 fun jN =>
aW M2 (.cells #[(.int .u64 0), (.int .u64 0), (.int .i64 0)] 203 (0, 0)) fun dL j0 =>
aN j0 ⟨dL, 0, none⟩ (.int .u64 n8) fun jl =>
aN jl ⟨dL, (0 + 1), none⟩ (.int .u64 n9) fun jM =>
aN jM ⟨dL, (0 + 2), none⟩ (.int .i64 jN) fun rO =>
az (Mem.ld rO ⟨b0, o0, none⟩) fun KU dS dx =>
aa Tryz.prog 154 #[(.pointer (some ⟨b0, o0, none⟩)), (.int .i64 x1), (.int .i64 (IntKind.wrap .i64 (((dS : Nat) : Int) - 1)))] rO (fun Gg kX =>
(Gg = (.tuple #[])) ∧
az (Mem.ld kX ⟨b0, o0, none⟩) fun xB g6 iI =>
((0 : Int) ≤ ((iI : Nat) : Int)) ∧
((((iI : Nat) : Int) : Int) ≤ ((iI : Nat) : Int)) ∧
((0 : Int) ≤ (IntKind.wrap .i64 (((dS : Nat) : Int) - 1))) ∧
(((IntKind.wrap .i64 (((dS : Nat) : Int) - 1)) : Int) ≤ ((iI : Nat) : Int)) ∧
((0 : Int) ≤ 0) ∧
((0 : Int) ≤ (IntKind.wrap .i64 (((dS : Nat) : Int) - 1))) ∧
aN kX ⟨b0, o0, none⟩ (.slice (kx xB 0 (Int.toNat ((iI : Nat) : Int)) 3) ((Int.toNat (IntKind.wrap .i64 (((dS : Nat) : Int) - 1))) - 0) ((Int.toNat ((iI : Nat) : Int)) - 0)) fun j6 =>
aQ (decide ((x1 : Int) < (IntKind.wrap .i64 (((dS : Nat) : Int) - 1))))
 (aa Tryz.prog 155 #[(.pointer (some ⟨b0, o0, none⟩)), (.int .i64 x1)] j6 (fun Mx vj =>
 (Mx = (.tuple #[])) ∧
 aa Tryz.prog 156 #[(.pointer (some ⟨b0, o0, none⟩)), (.int .i64 x1)] vj (fun F7 oU =>
 (F7 = (.tuple #[])) ∧
 aK (Mem.ld oU ⟨dL, 0, none⟩) .u64 fun qi =>
 aK (Mem.ld oU ⟨dL, (0 + 1), none⟩) .u64 fun vT =>
 aK (Mem.ld oU ⟨dL, (0 + 2), none⟩) .i64 fun tQ =>
 aN oU ⟨k1, 0, none⟩ (.int .u64 qi) fun nk =>
 aN nk ⟨k1, (0 + 1), none⟩ (.int .u64 vT) fun xw =>
 aN xw ⟨k1, (0 + 2), none⟩ (.int .i64 tQ) fun pb =>
 aK (Mem.ld pb ⟨k1, 0, none⟩) .u64 fun Ek =>
 aK (Mem.ld pb ⟨k1, (0 + 1), none⟩) .u64 fun zj =>
 aK (Mem.ld pb ⟨k1, (0 + 2), none⟩) .i64 fun KM =>
 K (.agg #[(.int .u64 Ek), (.int .u64 zj), (.int .i64 KM)]) pb) Kp) Kp)
 (aK (Mem.ld j6 ⟨dL, 0, none⟩) .u64 fun Cc =>
 aK (Mem.ld j6 ⟨dL, (0 + 1), none⟩) .u64 fun Ef =>
 aK (Mem.ld j6 ⟨dL, (0 + 2), none⟩) .i64 fun IX =>
 aN j6 ⟨k1, 0, none⟩ (.int .u64 Cc) fun uw =>
 aN uw ⟨k1, (0 + 1), none⟩ (.int .u64 Ef) fun SQ =>
 aN SQ ⟨k1, (0 + 2), none⟩ (.int .i64 IX) fun zP =>
 aK (Mem.ld zP ⟨k1, 0, none⟩) .u64 fun Di =>
 aK (Mem.ld zP ⟨k1, (0 + 1), none⟩) .u64 fun vU =>
 aK (Mem.ld zP ⟨k1, (0 + 2), none⟩) .i64 fun BZ =>
 K (.agg #[(.int .u64 Di), (.int .u64 vU), (.int .i64 BZ)]) zP)) Kp) :
 aa Tryz.prog 117 ([.pointer (some ⟨b0, o0, none⟩), .int .i64 x1] : List Value).toArray M K Kp :=
 bV (C := Cx) good [] Tryz.func117 (by kernel_rfl) (by kernel_rfl) h
theorem AM  (h :
aW M (.map #[] 0) fun k1 M2 =>
bL Tryz.prog (Go.Instr.mapUpdate 361 (.map (some k1)) (iV 0) (.func (.func 225) #[] #[])) M2 (fun M3 =>
bL Tryz.prog (Go.Instr.mapUpdate 361 (.map (some k1)) (iV 1) (.func (.func 226) #[] #[])) M3 (fun M4 =>
bL Tryz.prog (Go.Instr.mapUpdate 361 (.map (some k1)) (iV 2) (.func (.func 227) #[] #[])) M4 (fun M5 =>
bL Tryz.prog (Go.Instr.mapUpdate 361 (.map (some k1)) (iV 3) (.func (.func 228) #[] #[])) M5 (fun M6 =>
bL Tryz.prog (Go.Instr.mapUpdate 361 (.map (some k1)) (iV 4) (.func (.func 229) #[] #[])) M6 (fun M7 =>
bL Tryz.prog (Go.Instr.mapUpdate 361 (.map (some k1)) (iV 5) (.func (.func 230) #[] #[])) M7 (fun M8 =>
bL Tryz.prog (Go.Instr.mapUpdate 361 (.map (some k1)) (iV 6) (.func (.func 231) #[] #[])) M8 (fun M9 =>
bL Tryz.prog (Go.Instr.mapUpdate 361 (.map (some k1)) (iV 7) (.func (.func 232) #[] #[])) M9 (fun fJ =>
bL Tryz.prog (Go.Instr.mapUpdate 361 (.map (some k1)) (iV 8) (.func (.func 233) #[] #[])) fJ (fun ir =>
K (.map (some k1)) ir) Kp) Kp) Kp) Kp) Kp) Kp) Kp) Kp) Kp) :
 aa Tryz.prog 203 #[] M K Kp := vw [] Tryz.func203 h
theorem qo {b0 o0 : Nat} {cQ : Int} {cR : Int} {cT : Int} {eJ : Int} (h :
aW M (cl [(iV cQ), (iV cR), (iV cT), (iV eJ)] 27) fun k1 M2 =>
rS M2 b0 (o0 + 3) fun A3 k4 k5 =>
rI M2 k1 1 fun n6 =>
rI M2 k1 1 fun n7 =>
rI M2 k1 2 fun n8 =>
((0 : Int) ≤ k5) ∧
((k5 : Int) ≤ k5) ∧
((0 : Int) ≤ (IntKind.wrap .i64 (n7 + n8))) ∧
(((IntKind.wrap .i64 (n7 + n8)) : Int) ≤ (k5 : Int)) ∧
(0 ≤ n6) ∧
((n6 : Int) ≤ (IntKind.wrap .i64 (n7 + n8))) ∧
K (.slice (kx A3 (Int.toNat n6) (Int.toNat (k5 : Int)) 3) ((Int.toNat (IntKind.wrap .i64 (n7 + n8))) - (Int.toNat n6)) ((Int.toNat (k5 : Int)) - (Int.toNat n6))) M2) :
 aa Tryz.prog 204 #[.pointer (some ⟨b0, o0, none⟩), .agg #[.int .i64 cQ, .int .i64 cR, .int .i64 cT, .int .i64 eJ]] M K Kp := vw [(1, .bQ [0, 1, 3, 7, 15, 0, 32, 0, 128, 0, 512, 1920, 4095, 8191] (sy [0, 1, 2, 3, 5, 7, 9, 4, 6, 8, 10, 11, 12, 13] .done))] Tryz.func204 h
theorem qp {b0 o0 : Nat} {x1 : Int} {Ps : Int} {Pt : Int} {Pu : Int} {Pv : Int} (h :
aW M (cl [(iV Ps), (iV Pt), (iV Pu), (iV Pv)] 27) fun k1 M2 =>
rS M2 b0 (o0 + 4) fun A3 k4 k5 =>
((0 : Int) ≤ x1) ∧
((x1 : Int) < k4) ∧
aE A3 fun k6 k7 =>
rP M2 k6 (k7 + (Int.toNat x1)) fun A8 =>
rS M2 b0 (o0 + 4) fun A9 c6 dL =>
((0 : Int) ≤ x1) ∧
((x1 : Int) < c6) ∧
aE A9 fun eU cY =>
rP M2 eU (cY + (Int.toNat x1)) fun jo =>
aE A8 fun gj dK =>
bN M2 k1 0 fun fK g9 lF dZ =>
sT M2 gj dK (iV 2) fun jG =>
((Mem.gd jG ⟨k1, 0, none⟩ 0 4) = some [(iV fK), (iV g9), (iV lF), (iV dZ)]) ∧
aE jo fun g6 iI =>
sT jG g6 (iI + 2) (iV fK) fun j6 =>
sT j6 g6 ((iI + 2) + 1) (iV g9) fun wU =>
sT wU g6 ((iI + 2) + 2) (iV lF) fun vj =>
sT vj g6 ((iI + 2) + 3) (iV dZ) fun pN =>
((Mem.gd pN ⟨k1, 0, none⟩ 0 4) = some [(iV fK), (iV g9), (iV lF), (iV dZ)]) ∧
K (.tuple #[]) pN) :
 aa Tryz.prog 208 #[.pointer (some ⟨b0, o0, none⟩), .int .i64 x1, .agg #[.int .i64 Ps, .int .i64 Pt, .int .i64 Pu, .int .i64 Pv]] M K Kp := vw [(1, .bQ [0, 1, 3, 7, 0, 31, 63, 0, 128, 384, 896, 0, 3968, 8064, 0, 16383, 49151, 114687, 262143, 524287, 1048575] (sy [0, 1, 2, 4, 7, 8, 9, 11, 3, 5, 6, 10, 12, 13, 15, 16] (.cE 14 (sy [17, 18, 19, 20] .done))))] Tryz.func208 h
theorem uA {b0 o0 : Nat} {x1 : Int} {x2 : Int} (h :
rS M b0 (o0 + 6) fun A1 k2 k3 =>
((0 : Int) ≤ x1) ∧
((x1 : Int) < k2) ∧
aE A1 fun k4 k5 =>
rP M k4 (k5 + (Int.toNat x1)) fun A6 =>
aa Tryz.prog 237 #[(.pointer A6), (iV x2)] M (fun v7 M8 =>
∃ n9 jN eO : Int, ∃ t12 : Bool, ∃ hG : Int, (v7 = (.tuple #[(.agg #[(iV n9), (iV jN), (iV eO)]), (.bool t12), (iV hG)])) ∧
aW M8 jy fun eX rO =>
FY rO eX (iV n9) (iV jN) (iV eO) fun nU =>
aQ (hG == 10)
 (Kp [{ v := (.iface 340 (iV (-1))), recovered := false }] nU)
 (aQ t12
 (rI nU eX 0 fun lF =>
 rI nU eX 1 fun dZ =>
 rI nU eX 2 fun jr =>
 aa Tryz.prog 238 #[(.pointer (some ⟨b0, o0, none⟩)), (.agg #[(iV lF), (iV dZ), (iV jr)]), (iV 1)] nU (fun AA gQ =>
 (AA = (.tuple #[])) ∧
 K (.bool (hG == 0)) gQ) Kp)
 (K (.bool (hG == 0)) nU))) Kp) :
 aa Tryz.prog 209 #[.pointer (some ⟨b0, o0, none⟩), .int .i64 x1, .int .i64 x2] M K Kp := vw [] Tryz.func209 h
theorem uB {b0 o0 : Nat} {x1 : Int} (h :
rS M b0 (o0 + 6) fun A1 k2 k3 =>
((0 : Int) ≤ x1) ∧
((x1 : Int) < k2) ∧
aE A1 fun k4 k5 =>
rP M k4 (k5 + (Int.toNat x1)) fun A6 =>
aa Tryz.prog 239 #[(.pointer A6)] M (fun v7 M8 =>
∃ n9 : Int, ∃ t10 : Bool, ∃ eO gy hG : Int, ∃ t14 : Bool, ∃ gT : Int, (v7 = (.tuple #[(.agg #[(iV n9), (.bool t10), (iV eO), (iV gy), (iV hG), (.bool t14)]), (iV gT)])) ∧
aW M8 ot fun dK kY =>
sT6 kY dK (iV n9) (.bool t10) (iV eO) (iV gy) (iV hG) (.bool t14) fun gQ =>
rB gQ dK 5 fun t24 =>
aQ t24
 (rI gQ dK 2 fun oA =>
 rI gQ dK (2 + 1) fun lX =>
 rI gQ dK (2 + 2) fun xC =>
 aa Tryz.prog 240 #[(.pointer (some ⟨b0, o0, none⟩)), (.agg #[(iV oA), (iV lX), (iV xC)])] gQ (fun Pj kf =>
 (Pj = (.tuple #[])) ∧
 rB kf dK 1 fun t30 =>
 aQ t30
 (rI kf dK 0 fun tQ =>
 K (.tuple #[(iV tQ), (iV 1), (.bool true)]) kf)
 (K (.tuple #[(iV 0), (iV 0), (.bool (gT == 0))]) kf)) Kp)
 (rB gQ dK 1 fun t32 =>
 aQ t32
 (rI gQ dK 0 fun rL =>
 K (.tuple #[(iV rL), (iV 1), (.bool true)]) gQ)
 (K (.tuple #[(iV 0), (iV 0), (.bool (gT == 0))]) gQ))) Kp) :
 aa Tryz.prog 210 #[.pointer (some ⟨b0, o0, none⟩), .int .i64 x1] M K Kp := vw [] Tryz.func210 h
theorem sI {b0 o0 : Nat} {x1 : Int} {b2 o2 : Nat} {e7 : Int} {e8 : Int} {fa : Int} {fh : Int} (h :
aW M (cl [(iV e7), (iV e8), (iV fa), (iV fh)] 27) fun k1 M2 =>
rS M2 b0 (o0 + 4) fun A3 k4 k5 =>
((0 : Int) ≤ x1) ∧
((x1 : Int) < k4) ∧
aE A3 fun k6 k7 =>
rP M2 k6 (k7 + (Int.toNat x1)) fun A8 =>
aE A8 fun k9 c6 =>
rS M2 k9 (c6 + 1) fun wV eU cY =>
rI M2 k1 1 fun j5 =>
rI M2 k1 2 fun gT =>
(0 ≤ gT) ∧
(gT < 8) ∧
rI M2 b2 ((o2 + 2) + (Int.toNat gT)) fun jz =>
rI M2 k1 3 fun fK =>
aa Tryz.prog 241 #[(.slice wV eU cY), (iV j5), (iV jz), (iV fK)] M2 (fun AB iN =>
∃ Wo : Option Addr, ∃ eG g6 : Nat, ∃ t23 : Bool, (AB = (.tuple #[(.slice Wo eG g6), (.bool t23)])) ∧
aQ (!t23)
 (Kp [{ v := (.iface 340 (iV (-4))), recovered := false }] iN)
 (rS iN b0 (o0 + 4) fun ze nj lV =>
 ((0 : Int) ≤ x1) ∧
 ((x1 : Int) < nj) ∧
 aE ze fun oT ko =>
 rP iN oT (ko + (Int.toNat x1)) fun RQ =>
 aE RQ fun kZ lZ =>
 sT iN kZ (lZ + 1) (.slice Wo eG g6) fun nk =>
 K (.tuple #[]) nk)) Kp) :
 aa Tryz.prog 211 #[.pointer (some ⟨b0, o0, none⟩), .int .i64 x1, .pointer (some ⟨b2, o2, none⟩), .agg #[.int .i64 e7, .int .i64 e8, .int .i64 fa, .int .i64 fh]] M K Kp := vw [(1, .bQ [0, 1, 3, 7, 0, 31, 63, 127, 255, 511, 0, 1024, 0, 0, 8192, 4096, 36864, 126976, 258048, 0, 524288, 2097151, 4194303, 8388607, 8388607, 16777215, 67108863] (sy [0, 1, 2, 4, 10, 12, 13, 15, 16, 19, 3, 5, 6, 7, 8, 9, 11, 14, 17, 18, 20, 21, 22, 23, 24, 25, 26] .done))] Tryz.func211 h
theorem sJ {b0 o0 : Nat} {x1 : Int} {b2 o2 : Nat} {e7 : Int} {e8 : Int} {fa : Int} {fh : Int} (h :
aW M (cl [(iV e7), (iV e8), (iV fa), (iV fh)] 27) fun k1 M2 =>
rS M2 b0 (o0 + 4) fun A3 k4 k5 =>
((0 : Int) ≤ x1) ∧
((x1 : Int) < k4) ∧
aE A3 fun k6 k7 =>
rP M2 k6 (k7 + (Int.toNat x1)) fun A8 =>
aE A8 fun k9 c6 =>
rS M2 k9 (c6 + 1) fun wV eU cY =>
rI M2 k1 1 fun j5 =>
(0 ≤ j5) ∧
(j5 < 8) ∧
rI M2 b2 ((o2 + 2) + (Int.toNat j5)) fun gT =>
aa Tryz.prog 242 #[(.slice wV eU cY), (iV gT)] M2 (fun My kY =>
∃ Ck : Option Addr, ∃ gZ iM : Nat, ∃ t21 : Bool, (My = (.tuple #[(.slice Ck gZ iM), (.bool t21)])) ∧
aQ t21
 (rS kY b0 (o0 + 4) fun Mz iI kC =>
 ((0 : Int) ≤ x1) ∧
 ((x1 : Int) < iI) ∧
 aE Mz fun nj lV =>
 rP kY nj (lV + (Int.toNat x1)) fun Mw =>
 aE Mw fun ko nT =>
 sT kY ko (nT + 1) (.slice Ck gZ iM) fun kW =>
 K (.tuple #[]) kW)
 (rS kY b0 (o0 + 4) fun Db nO nQ =>
 ((0 : Int) ≤ x1) ∧
 ((x1 : Int) < nO) ∧
 aE Db fun sq yH =>
 rP kY sq (yH + (Int.toNat x1)) fun Fj =>
 aE Fj fun pg gm =>
 sT kY pg gm (iV 4) fun Zn =>
 aQ (x1 == 0)
 (sT Zn b0 (o0 + 11) (iV 1) fun Wp =>
 K (.tuple #[]) Wp)
 (K (.tuple #[]) Zn))) Kp) :
 aa Tryz.prog 212 #[.pointer (some ⟨b0, o0, none⟩), .int .i64 x1, .pointer (some ⟨b2, o2, none⟩), .agg #[.int .i64 e7, .int .i64 e8, .int .i64 fa, .int .i64 fh]] M K Kp := vw [(1, .bQ [0, 1, 3, 7, 0, 31, 63, 127, 255, 511, 0, 0, 2048, 1024, 9216, 31744, 64512, 131071, 262143, 524287, 524287, 1048575, 4194303] (sy [0, 1, 2, 4, 10, 11, 13, 14, 3, 5, 6, 7, 8, 9, 12, 15, 16, 17, 18, 19, 20, 21, 22] .done))] Tryz.func212 h
theorem qq {b0 o0 : Nat} {x1 : Int} {b2 o2 : Nat} {e7 : Int} {e8 : Int} {fa : Int} {fh : Int} (h :
aW M (cl [(iV e7), (iV e8), (iV fa), (iV fh)] 27) fun k1 M2 =>
rS M2 b0 (o0 + 4) fun A3 k4 k5 =>
aQ (decide ((k4 : Int) ≥ 100))
 (Kp [{ v := (.iface 340 (iV (-5))), recovered := false }] M2)
 (rS M2 b0 (o0 + 4) fun A6 k7 k8 =>
 ∃ J9 : List Value → Mem → Prop, (rI M2 k1 1 fun jN =>
 rI M2 k1 2 fun eO =>
 (0 ≤ eO) ∧
 (eO < 8) ∧
 rI M2 b2 ((o2 + 2) + (Int.toNat eO)) fun gy =>
 (rS M2 b0 (o0 + 4) fun Dc eX gj =>
 aa Tryz.prog 112 #[(iV jN), (iV gy)] M2 (fun My kY =>
 az (some My) fun Ck gZ iM =>
 aW kY (cl [(iV 0), (.slice Ck gZ iM), (iV 0), (iV 0), (iV 0), (iV 0)] 229) fun eG cU =>
 aW cU (cl [(.pointer (some ⟨eG, 0, none⟩))] 224) fun iI j6 =>
 aA 155 Dc eX gj (some ⟨iI, 0, none⟩) 1 1 j6 (fun Mx vj =>
 az (some Mx) fun Mw ko nT =>
 sT vj b0 (o0 + 4) (.slice Mw ko nT) fun kW =>
 J9 [] kW) Kp) Kp) ∧
 (aa Tryz.prog 112 #[(iV jN), (iV gy)] M2 (fun SL nk =>
 az (some SL) fun F2 sq yH =>
 rS nk b0 (o0 + 4) fun Fj pg gm =>
 aW nk (cl [(iV 0), (.slice F2 sq yH), (iV 0), (iV 0), (iV 0), (iV 0)] 229) fun rK Wp =>
 aW Wp (cl [(.pointer (some ⟨rK, 0, none⟩))] 224) fun AD SQ =>
 aA 155 Fj pg gm (some ⟨AD, 0, none⟩) 1 1 SQ (fun v43 zk =>
 az (some v43) fun Zj Fe N7 =>
 sT zk b0 (o0 + 4) (.slice Zj Fe N7) fun Pd =>
 J9 [] Pd) Kp) Kp) ∧
 True) ∧
 ∀ junk49 : Nat → Value, ∀ zO : Mem, (J9 [] zO) → aa Tryz.prog 158 #[(.pointer (some ⟨b0, o0, none⟩)), (iV (k7 : Int))] zO (fun v51 M52 =>
 (v51 = (.tuple #[])) ∧
 rI M52 k1 3 fun IY =>
 (0 ≤ IY) ∧
 (IY < 8) ∧
 sT M52 b2 ((o2 + 2) + (Int.toNat IY)) (iV (k7 : Int)) fun Ff =>
 K (.tuple #[]) Ff) Kp)) :
 aa Tryz.prog 213 #[.pointer (some ⟨b0, o0, none⟩), .int .i64 x1, .pointer (some ⟨b2, o2, none⟩), .agg #[.int .i64 e7, .int .i64 e8, .int .i64 fa, .int .i64 fh]] M K Kp := vw [(4, .It [0, 0, 2, 6, 14, 0, 32, 0, 0, 256, 128, 1152, 3968, 8064, 16352, 32736, 65504, 131040, 262142, 524287, 1048575, 2097151] (sy [0, 1, 2, 3, 5, 7, 8, 10, 11, 6, 9, 12, 13] (.fork 4 (sy [14, 15, 16, 17, 18, 19, 20, 21] .done) (.fork 14 (sy [15, 4, 16, 17, 18, 19, 20, 21] .done) .dead))) []), (6, .bQ [0, 0, 2, 0, 1, 17, 63, 127] (sy [0, 1, 3, 4, 5, 2, 6, 7] .done))] Tryz.func213 h
theorem qt {b0 o0 : Nat} {x1 : Int} {b2 o2 : Nat} {e7 : Int} {e8 : Int} {fa : Int} {fh : Int} (h :
aW M (cl [(iV e7), (iV e8), (iV fa), (iV fh)] 27) fun k1 M2 =>
K (.tuple #[]) M2) :
 aa Tryz.prog 214 #[.pointer (some ⟨b0, o0, none⟩), .int .i64 x1, .pointer (some ⟨b2, o2, none⟩), .agg #[.int .i64 e7, .int .i64 e8, .int .i64 fa, .int .i64 fh]] M K Kp := vw [] Tryz.func214 h
theorem sK {b0 o0 : Nat} {x1 : Int} {b2 o2 : Nat} {e7 : Int} {e8 : Int} {fa : Int} {fh : Int} (h :
aW M (cl [(iV e7), (iV e8), (iV fa), (iV fh)] 27) fun k1 M2 =>
rI M2 k1 1 fun n3 =>
rI M2 k1 2 fun n4 =>
(0 ≤ n4) ∧
(n4 < 8) ∧
rI M2 b2 ((o2 + 2) + (Int.toNat n4)) fun n5 =>
aa Tryz.prog 209 #[(.pointer (some ⟨b0, o0, none⟩)), (iV n3), (iV n5)] M2 (fun v6 M7 =>
dH (some v6) fun t8 =>
aQ (!t8)
 (rS M7 b0 (o0 + 6) fun A9 c6 dL =>
 rI M7 k1 1 fun gy =>
 (0 ≤ gy) ∧
 (gy < c6) ∧
 aE A9 fun cY eX =>
 rP M7 cY (eX + (Int.toNat gy)) fun nS =>
 rI M7 k1 2 fun jz =>
 (0 ≤ jz) ∧
 (jz < 8) ∧
 rI M7 b2 ((o2 + 2) + (Int.toNat jz)) fun fK =>
 aa Tryz.prog 236 #[(.pointer nS), (.agg #[(iV x1), (iV 0), (iV fK)])] M7 (fun AB iN =>
 (AB = (.tuple #[])) ∧
 bN iN k1 0 fun dZ jr mP o6 =>
 aa Tryz.prog 208 #[(.pointer (some ⟨b0, o0, none⟩)), (iV x1), (.agg #[(iV dZ), (iV jr), (iV mP), (iV o6)])] iN (fun MA wU =>
 (MA = (.tuple #[])) ∧
 K (.tuple #[]) wU) Kp) Kp)
 (K (.tuple #[]) M7)) Kp) :
 aa Tryz.prog 215 #[.pointer (some ⟨b0, o0, none⟩), .int .i64 x1, .pointer (some ⟨b2, o2, none⟩), .agg #[.int .i64 e7, .int .i64 e8, .int .i64 fa, .int .i64 fh]] M K Kp := vw [(1, .bQ [0, 0, 2, 0, 0, 16, 8, 72, 248, 504, 1023, 2047] (sy [0, 1, 3, 4, 6, 7, 2, 5, 8, 9, 10, 11] .done)), (2, .bQ [0, 1, 3, 7, 0, 16, 63, 127, 0, 0, 0, 1024, 512, 4608, 15872, 32256, 65280, 131071] (sy [0, 1, 2, 4, 8, 9, 10, 12, 13, 3, 5, 6, 7, 11, 14, 15, 16, 17] .done))] Tryz.func215 h
theorem sL {b0 o0 : Nat} {x1 : Int} {b2 o2 : Nat} {e7 : Int} {e8 : Int} {fa : Int} {fh : Int} (h :
aW M (cl [(iV e7), (iV e8), (iV fa), (iV fh)] 27) fun k1 M2 =>
rI M2 k1 1 fun n3 =>
aa Tryz.prog 210 #[(.pointer (some ⟨b0, o0, none⟩)), (iV n3)] M2 (fun v4 M5 =>
∃ n6 n7 : Int, ∃ t8 : Bool, (v4 = (.tuple #[(iV n6), (iV n7), (.bool t8)])) ∧
aQ (!t8)
 (rS M5 b0 (o0 + 6) fun A9 c6 dL =>
 rI M5 k1 1 fun gy =>
 (0 ≤ gy) ∧
 (gy < c6) ∧
 aE A9 fun cY eX =>
 rP M5 cY (eX + (Int.toNat gy)) fun nS =>
 aa Tryz.prog 235 #[(.pointer nS), (.agg #[(iV x1), (iV 0), (iV 0)])] M5 (fun My kY =>
 (My = (.tuple #[])) ∧
 bN kY k1 0 fun g9 lF dZ jr =>
 aa Tryz.prog 208 #[(.pointer (some ⟨b0, o0, none⟩)), (iV x1), (.agg #[(iV g9), (iV lF), (iV dZ), (iV jr)])] kY (fun AA gQ =>
 (AA = (.tuple #[])) ∧
 K (.tuple #[]) gQ) Kp) Kp)
 (rI M5 k1 2 fun Fh =>
 (0 ≤ Fh) ∧
 (Fh < 8) ∧
 rI M5 k1 3 fun oA =>
 sT M5 b2 ((o2 + 2) + (Int.toNat Fh)) (iV n6) fun vj =>
 eI vj k1 3 oA ∧
 (0 ≤ oA) ∧
 (oA < 8) ∧
 sT vj b2 ((o2 + 2) + (Int.toNat oA)) (iV n7) fun pN =>
 eI pN k1 3 oA ∧
 K (.tuple #[]) pN)) Kp) :
 aa Tryz.prog 216 #[.pointer (some ⟨b0, o0, none⟩), .int .i64 x1, .pointer (some ⟨b2, o2, none⟩), .agg #[.int .i64 e7, .int .i64 e8, .int .i64 fa, .int .i64 fh]] M K Kp := vw [(3, .bQ [0, 1, 3, 7, 0, 16, 63, 127, 0, 256, 1023] (sy [0, 1, 2, 4, 8, 9, 3, 5, 6, 7, 10] .done)), (5, .bQ [0, 0, 2, 0, 0, 16, 0, 0, 1, 257, 839, 1863, 8, 4104, 16383, 32767] (sy [0, 1, 3, 4, 6, 7, 8, 9, 12, 13, 2, 10] (.cE 5 (sy [11, 14, 15] .done))))] Tryz.func216 h
theorem sM {b0 o0 : Nat} {x1 : Int} {b2 o2 : Nat} {e7 : Int} {e8 : Int} {fa : Int} {fh : Int} (h :
aW M (cl [(iV e7), (iV e8), (iV fa), (iV fh)] 27) fun k1 M2 =>
rS M2 b0 (o0 + 6) fun A3 k4 k5 =>
rI M2 k1 1 fun n6 =>
(0 ≤ n6) ∧
(n6 < k4) ∧
aE A3 fun k7 k8 =>
rP M2 k7 (k8 + (Int.toNat n6)) fun A9 =>
aa Tryz.prog 243 #[(.pointer A9)] M2 (fun v10 ir =>
∃ ur : Option Addr, ∃ cY eX : Nat, ∃ nS : Option Addr, ∃ dK dS : Nat, ∃ g9 : Int, (v10 = (.tuple #[(.slice ur cY eX), (.slice nS dK dS), (iV g9)])) ∧
aQ (g9 != 0)
 (Kp [{ v := (.iface 340 (iV (-2))), recovered := false }] ir)
 (aQ (decide ((dK : Int) > 0))
 (Kp [{ v := (.iface 340 (iV (-1))), recovered := false }] ir)
 (∃ I19 : IT, (∃ iM, I19 iM [(iV 0)] ir) ∧
 ∀ (eG : Nat) (_ : Nat → Value) (o6 : Int) (j6 : Mem), (I19 eG [(iV o6)] j6) → aQ (decide (o6 < cY))
 ((0 ≤ o6) ∧
 (o6 < cY) ∧
 aE ur fun nj lV =>
 j9 j6 nj (lV + ((Int.toNat o6) * 3)) fun xC rM qi =>
 aW j6 jy fun kZ KV =>
 FY KV kZ (iV xC) (iV rM) (iV qi) fun pb =>
 rS pb b0 (o0 + 4) fun Zk Ga pg =>
 rI pb kZ 0 fun Cc =>
 (0 ≤ Cc) ∧
 (Cc < Ga) ∧
 aE Zk fun rK xq =>
 rP pb rK (xq + (Int.toNat Cc)) fun Wf =>
 aE Wf fun HQ nR =>
 rI pb HQ nR fun Di =>
 aQ (Di == 2)
 (sT pb kZ 2 (iV 0) fun vk =>
 j9 vk kZ 0 fun BZ wT Cl =>
 aa Tryz.prog 238 #[(.pointer (some ⟨b0, o0, none⟩)), (.agg #[(iV BZ), (iV wT), (iV Cl)]), (iV 0)] vk (fun Mu zO =>
 (Mu = (.tuple #[])) ∧
 ∃ IZ : Nat, (IZ < eG) ∧
 I19 IZ [(iV (IntKind.wrap .i64 (o6 + 1)))] zO) Kp)
 (∃ um : Nat, (um < eG) ∧
 I19 um [(iV (IntKind.wrap .i64 (o6 + 1)))] pb))
 (K (.tuple #[]) j6)))) Kp) :
 aa Tryz.prog 217 #[.pointer (some ⟨b0, o0, none⟩), .int .i64 x1, .pointer (some ⟨b2, o2, none⟩), .agg #[.int .i64 e7, .int .i64 e8, .int .i64 fa, .int .i64 fh]] M K Kp := vw [(1, .bQ [0, 1, 3, 7, 0, 16, 63, 127, 255, 511, 1023, 1023, 1023, 2047, 12287, 32767] (sy [0, 1, 2, 4, 3, 5, 6, 7, 8, 9, 10, 11, 12, 13, 14, 15] .done)), (2000001, .loop [(37, .c (.int .i64))]), (9, .bQ [0, 1, 3, 7, 0, 16, 63, 127, 255, 511, 1023, 2047] (sy [0, 1, 2, 4, 3, 5, 6, 7, 8, 9, 10, 11] .done))] Tryz.func217 h
theorem qu {b0 o0 : Nat} {x1 : Int} {b2 o2 : Nat} {e7 : Int} {e8 : Int} {fa : Int} {fh : Int} (h :
aW M (cl [(iV e7), (iV e8), (iV fa), (iV fh)] 27) fun k1 M2 =>
rI M2 k1 1 fun n3 =>
(0 ≤ n3) ∧
(n3 < 8) ∧
rI M2 b2 ((o2 + 2) + (Int.toNat n3)) fun n4 =>
aQ (decide (((if (1048576 : Int) < n4 then 1048576 else n4) : Int) > 0))
 (rU M2 b0 (o0 + 5) fun n5 =>
 aa Tryz.prog 244 #[(.pointer (some ⟨b0, (o0 + 8), none⟩)), (.int .u64 (IntKind.wrap .u64 (n5 + (IntKind.wrap .u64 (if (1048576 : Int) < n4 then 1048576 else n4))))), (iV x1)] M2 (fun v6 M7 =>
 aK (some v6) .u64 fun n8 =>
 rS M7 b0 (o0 + 4) fun A9 c6 dL =>
 ((0 : Int) ≤ x1) ∧
 ((x1 : Int) < c6) ∧
 aE A9 fun eU cY =>
 rP M7 eU (cY + (Int.toNat x1)) fun jo =>
 aE jo fun gj dK =>
 sT M7 gj dK (iV 3) fun kY =>
 K (.tuple #[]) kY) Kp)
 (K (.tuple #[]) M2)) :
 aa Tryz.prog 218 #[.pointer (some ⟨b0, o0, none⟩), .int .i64 x1, .pointer (some ⟨b2, o2, none⟩), .agg #[.int .i64 e7, .int .i64 e8, .int .i64 fa, .int .i64 fh]] M K Kp := vw [(1, .bQ [0, 0, 2, 1, 9, 31, 63, 127, 255] (sy [0, 1, 3, 4, 2, 5, 6, 7, 8] .done)), (3, .bQ [0, 1, 3, 0, 8, 24, 56, 0, 128, 504, 0, 2047] (sy [0, 1, 2, 3, 4, 5, 7, 8, 10, 6, 9, 11] .done))] Tryz.func218 h
theorem sN {b0 o0 : Nat} {x1 : Int} {b2 o2 : Nat} {e7 : Int} {e8 : Int} {fa : Int} {fh : Int} (h :
aW M (cl [(iV e7), (iV e8), (iV fa), (iV fh)] 27) fun k1 M2 =>
rS M2 b0 (o0 + 7) fun A3 k4 k5 =>
rI M2 k1 1 fun n6 =>
(0 ≤ n6) ∧
(n6 < k4) ∧
aE A3 fun k7 k8 =>
rP M2 k7 (k8 + (Int.toNat n6)) fun A9 =>
aa Tryz.prog 245 #[(.pointer A9), (iV x1)] M2 (fun v10 ir =>
dH (some v10) fun t12 =>
aQ (!t12)
 (rI ir k1 0 fun hG =>
 rI ir k1 1 fun j5 =>
 rI ir k1 2 fun gT =>
 rI ir k1 3 fun jz =>
 aa Tryz.prog 208 #[(.pointer (some ⟨b0, o0, none⟩)), (iV x1), (.agg #[(iV hG), (iV j5), (iV gT), (iV jz)])] ir (fun Wq nU =>
 (Wq = (.tuple #[])) ∧
 K (.tuple #[]) nU) Kp)
 (K (.tuple #[]) ir)) Kp) :
 aa Tryz.prog 219 #[.pointer (some ⟨b0, o0, none⟩), .int .i64 x1, .pointer (some ⟨b2, o2, none⟩), .agg #[.int .i64 e7, .int .i64 e8, .int .i64 fa, .int .i64 fh]] M K Kp := vw [(1, .bQ [0, 1, 3, 7, 0, 16, 63, 127, 0, 511, 1023] (sy [0, 1, 2, 4, 8, 3, 5, 6, 7, 9, 10] .done))] Tryz.func219 h
theorem pq {b0 o0 : Nat} {x1 : Int} {b2 o2 : Nat} {e7 : Int} {e8 : Int} {fa : Int} {fh : Int} (h :
aW M (cl [(iV e7), (iV e8), (iV fa), (iV fh)] 27) fun k1 M2 =>
rS M2 b0 (o0 + 7) fun A3 k4 k5 =>
rI M2 k1 1 fun n6 =>
(0 ≤ n6) ∧
(n6 < k4) ∧
aE A3 fun k7 k8 =>
rP M2 k7 (k8 + (Int.toNat n6)) fun A9 =>
aa Tryz.prog 246 #[(.pointer A9), (iV x1)] M2 (fun v10 ir =>
∃ gy hG : Int, (v10 = (.tuple #[(iV gy), (iV hG)])) ∧
aQ (hG != 0)
 (Kp [{ v := (.iface 340 (iV (-3))), recovered := false }] ir)
 (aQ (gy != (-1))
 (aa Tryz.prog 158 #[(.pointer (some ⟨b0, o0, none⟩)), (iV gy)] ir (fun Wr rO =>
 (Wr = (.tuple #[])) ∧
 K (.tuple #[]) rO) Kp)
 (K (.tuple #[]) ir))) Kp) :
 aa Tryz.prog 220 #[.pointer (some ⟨b0, o0, none⟩), .int .i64 x1, .pointer (some ⟨b2, o2, none⟩), .agg #[.int .i64 e7, .int .i64 e8, .int .i64 fa, .int .i64 fh]] M K Kp := vw [(1, .bQ [0, 1, 3, 7, 0, 16, 63, 127, 0, 511, 1023, 2047, 2047, 4095, 16383] (sy [0, 1, 2, 4, 8, 3, 5, 6, 7, 9, 10, 11, 12, 13, 14] .done))] Tryz.func220 h
theorem sO {b0 o0 : Nat} {x1 : Int} {b2 o2 : Nat} {e7 : Int} {e8 : Int} {fa : Int} {fh : Int} (h :
aW M (cl [(iV e7), (iV e8), (iV fa), (iV fh)] 27) fun k1 M2 =>
rS M2 b0 (o0 + 10) fun A3 k4 k5 =>
aQ (decide ((k4 : Int) ≥ 1000))
 (Kp [{ v := (.iface 340 (iV (-6))), recovered := false }] M2)
 (rS M2 b0 (o0 + 10) fun A6 k7 k8 =>
 rI M2 k1 1 fun n9 =>
 (0 ≤ n9) ∧
 (n9 < 8) ∧
 rI M2 b2 ((o2 + 2) + (Int.toNat n9)) fun jN =>
 aW M2 (cl [(iV jN)] 2) fun dL j0 =>
 aA 53 A6 k7 k8 (some ⟨dL, 0, none⟩) 1 1 j0 (fun C7 jM =>
 az (some C7) fun nS dK dS =>
 sT jM b0 (o0 + 10) (.slice nS dK dS) fun nU =>
 K (.tuple #[]) nU) Kp)) :
 aa Tryz.prog 221 #[.pointer (some ⟨b0, o0, none⟩), .int .i64 x1, .pointer (some ⟨b2, o2, none⟩), .agg #[.int .i64 e7, .int .i64 e8, .int .i64 fa, .int .i64 fh]] M K Kp := vw [(3, .bQ [0, 0, 2, 6, 14, 0, 0, 64, 32, 288, 992, 2016, 4064, 8190, 16383, 32767, 65535] (sy [0, 1, 2, 3, 5, 6, 8, 9, 4, 7, 10, 11, 12, 13, 14, 15, 16] .done))] Tryz.func221 h
theorem sP {b0 o0 : Nat} {x1 : Int} {b2 o2 : Nat} {e7 : Int} {e8 : Int} {fa : Int} {fh : Int} (h :
aW M (cl [(iV e7), (iV e8), (iV fa), (iV fh)] 27) fun k1 M2 =>
rI M2 k1 1 fun n3 =>
Kp [{ v := (.iface 340 (iV n3)), recovered := false }] M2) :
 aa Tryz.prog 222 #[.pointer (some ⟨b0, o0, none⟩), .int .i64 x1, .pointer (some ⟨b2, o2, none⟩), .agg #[.int .i64 e7, .int .i64 e8, .int .i64 fa, .int .i64 fh]] M K Kp := vw [] Tryz.func222 h
theorem vV {b0 o0 : Nat} {x1 : Int} {x2 : Int} (h :
az (Mem.ld M ⟨b0, o0, none⟩) fun A1 k2 k3 =>
az (Mem.ld M ⟨b0, o0, none⟩) fun A4 k5 k6 =>
az (Mem.ld M ⟨b0, o0, none⟩) fun A7 k8 k9 =>
((0 : Int) ≤ x2) ∧
((x2 : Int) < ((k8 : Nat) : Int)) ∧
aE A7 fun c6 dL =>
aK (Mem.ld M ⟨c6, (dL + ((Int.toNat x2) * 3)), none⟩) .u64 fun gy =>
aK (Mem.ld M ⟨c6, ((dL + ((Int.toNat x2) * 3)) + 1), none⟩) .u64 fun hG =>
aK (Mem.ld M ⟨c6, ((dL + ((Int.toNat x2) * 3)) + 2), none⟩) .i64 fun j5 =>
az (Mem.ld M ⟨b0, o0, none⟩) fun nS dK dS =>
((0 : Int) ≤ x1) ∧
((x1 : Int) < ((dK : Nat) : Int)) ∧
aE nS fun dx gZ =>
aK (Mem.ld M ⟨dx, (gZ + ((Int.toNat x1) * 3)), none⟩) .u64 fun dZ =>
aK (Mem.ld M ⟨dx, ((gZ + ((Int.toNat x1) * 3)) + 1), none⟩) .u64 fun jr =>
aK (Mem.ld M ⟨dx, ((gZ + ((Int.toNat x1) * 3)) + 2), none⟩) .i64 fun mP =>
((0 : Int) ≤ x1) ∧
((x1 : Int) < ((k2 : Nat) : Int)) ∧
aE A1 fun iI kC =>
aN M ⟨iI, (kC + ((Int.toNat x1) * 3)), none⟩ (.int .u64 gy) fun wU =>
aN wU ⟨iI, ((kC + ((Int.toNat x1) * 3)) + 1), none⟩ (.int .u64 hG) fun vj =>
aN vj ⟨iI, ((kC + ((Int.toNat x1) * 3)) + 2), none⟩ (.int .i64 j5) fun pN =>
((0 : Int) ≤ x2) ∧
((x2 : Int) < ((k5 : Nat) : Int)) ∧
aE A4 fun ko nT =>
aN pN ⟨ko, (nT + ((Int.toNat x2) * 3)), none⟩ (.int .u64 dZ) fun kW =>
aN kW ⟨ko, ((nT + ((Int.toNat x2) * 3)) + 1), none⟩ (.int .u64 jr) fun KV =>
aN KV ⟨ko, ((nT + ((Int.toNat x2) * 3)) + 2), none⟩ (.int .i64 mP) fun nk =>
K (.tuple #[]) nk) :
 aa Tryz.prog 154 ([.pointer (some ⟨b0, o0, none⟩), .int .i64 x1, .int .i64 x2] : List Value).toArray M K Kp :=
 bV (C := Cx) good [(0, .bQ [0, 1, 3, 7, 0, 0, 32, 96, 224, 0, 0, 1024, 3072, 7168, 0, 31744, 64512, 0, 131072, 393216, 917504, 0, 4063232, 8257536, 16776703, 33553919, 67108863, 134217727] (.step 0 (.step 1 (.step 2 (.step 4 (.step 5 (.step 6 (.step 7 (.step 9 (.step 10 (.step 11 (.step 12 (.step 14 (.step 17 (.step 18 (.step 19 (.step 21 (.step 3 (.step 8 (.step 13 (.step 15 (.step 16 (.step 20 (.step 22 (.step 23 (.step 24 (.step 25 (.step 26 (.step 27 .done)))))))))))))))))))))))))))))] Tryz.func154 (by kernel_rfl) (by kernel_rfl) h
theorem vW {b0 o0 : Nat} {x1 : Int} (h :
aa Tryz.prog 186 #[(.pointer (some ⟨b0, o0, none⟩)), (iV x1)] M (fun v1 M2 =>
aK (some v1) .i64 fun n3 =>
∃ I4 : IT, (∃ k5, I4 k5 [(iV x1), (iV n3)] M2) ∧
∀ (k6 : Nat) (_ : Nat → Value) (n8 : Int) (n9 : Int) (fJ : Mem), (I4 k6 [(iV n8), (iV n9)] fJ) → aQ (n9 != n8)
 (aa Tryz.prog 154 #[(.pointer (some ⟨b0, o0, none⟩)), (iV n8), (iV n9)] fJ (fun v11 j0 =>
 (v11 = (.tuple #[])) ∧
 aa Tryz.prog 186 #[(.pointer (some ⟨b0, o0, none⟩)), (iV n9)] j0 (fun C7 jM =>
 aK (some C7) .i64 fun gT =>
 ∃ dK : Nat, (dK < k6) ∧
 I4 dK [(iV n9), (iV gT)] jM) Kp) Kp)
 (K (.tuple #[]) fJ)) Kp) :
 aa Tryz.prog 155 #[.pointer (some ⟨b0, o0, none⟩), .int .i64 x1] M K Kp := vw [(2000000, .loop [(1, .c (.int .i64)), (4, .c (.int .i64))])] Tryz.func155 h
theorem zl {b0 o0 : Nat} {x1 : Int} (h :
∃ I1 : Nat → List Value → Mem → Prop, (∃ k2 : Nat, I1 k2 [(.int .i64 x1)] M) ∧
∀ k3 : Nat, ∀ Vg : Nat → Value, ∀ n5 : Int, ∀ M6 : Mem, (I1 k3 [(.int .i64 n5)] M6) → aQ (decide ((n5 : Int) > 0))
 (((4 : Int) ≠ 0) ∧
 az (Mem.ld M6 ⟨b0, o0, none⟩) fun A7 k8 k9 =>
 ((0 : Int) ≤ n5) ∧
 ((n5 : Int) < ((k8 : Nat) : Int)) ∧
 aE A7 fun c6 dL =>
 aK (Mem.ld M6 ⟨c6, (dL + ((Int.toNat n5) * 3)), none⟩) .u64 fun gy =>
 aK (Mem.ld M6 ⟨c6, ((dL + ((Int.toNat n5) * 3)) + 1), none⟩) .u64 fun hG =>
 aK (Mem.ld M6 ⟨c6, ((dL + ((Int.toNat n5) * 3)) + 2), none⟩) .i64 fun j5 =>
 az (Mem.ld M6 ⟨b0, o0, none⟩) fun nS dK dS =>
 ((0 : Int) ≤ (IntKind.wrap .i64 (Int.tdiv (IntKind.wrap .i64 (n5 - 1)) 4))) ∧
 (((IntKind.wrap .i64 (Int.tdiv (IntKind.wrap .i64 (n5 - 1)) 4)) : Int) < ((dK : Nat) : Int)) ∧
 aE nS fun dx gZ =>
 aK (Mem.ld M6 ⟨dx, (gZ + ((Int.toNat (IntKind.wrap .i64 (Int.tdiv (IntKind.wrap .i64 (n5 - 1)) 4))) * 3)), none⟩) .u64 fun dZ =>
 aK (Mem.ld M6 ⟨dx, ((gZ + ((Int.toNat (IntKind.wrap .i64 (Int.tdiv (IntKind.wrap .i64 (n5 - 1)) 4))) * 3)) + 1), none⟩) .u64 fun jr =>
 aK (Mem.ld M6 ⟨dx, ((gZ + ((Int.toNat (IntKind.wrap .i64 (Int.tdiv (IntKind.wrap .i64 (n5 - 1)) 4))) * 3)) + 2), none⟩) .i64 fun mP =>
 aa Tryz.prog 187 #[(.agg #[(.int .u64 gy), (.int .u64 hG), (.int .i64 j5)]), (.agg #[(.int .u64 dZ), (.int .u64 jr), (.int .i64 mP)])] M6 (fun Wj j6 =>
 dH (some Wj) fun t25 =>
 aQ t25
  (((4 : Int) ≠ 0) ∧
  aa Tryz.prog 154 #[(.pointer (some ⟨b0, o0, none⟩)), (.int .i64 n5), (.int .i64 (IntKind.wrap .i64 (Int.tdiv (IntKind.wrap .i64 (n5 - 1)) 4)))] j6 (fun SN pN =>
  (SN = (.tuple #[])) ∧
  ((4 : Int) ≠ 0) ∧
  ∃ ko : Nat, (ko < k3) ∧
  I1 ko [(.int .i64 (IntKind.wrap .i64 (Int.tdiv (IntKind.wrap .i64 (n5 - 1)) 4)))] pN) Kp)
  (K (.tuple #[]) j6)) Kp)
 (K (.tuple #[]) M6)) :
 aa Tryz.prog 156 ([.pointer (some ⟨b0, o0, none⟩), .int .i64 x1] : List Value).toArray M K Kp :=
 bV (C := Cx) good [(2000000, .loop [(1, .c (.int .i64))]), (0, .bQ [0, 1, 3, 7, 15, 31, 63, 7, 255, 511, 7, 1031, 3079, 7175, 7, 16391, 49159, 130055, 261127, 524287, 1048575] (.step 0 (.step 1 (.step 2 (.step 3 (.step 4 (.step 5 (.step 7 (.step 10 (.step 11 (.step 12 (.step 14 (.step 15 (.step 16 (.step 6 (.step 8 (.step 9 (.step 13 (.step 17 (.step 18 (.step 19 (.step 20 .done))))))))))))))))))))))] Tryz.func156 (by kernel_rfl) (by kernel_rfl) h
theorem uC {b0 o0 : Nat} {cQ : Int} {cR : Int} {cT : Int} {eJ : Int} (h :
aW M (cl [(iV cQ), (iV cR), (iV cT), (iV eJ)] 27) fun k1 M2 =>
K (.tuple #[]) M2) :
 aa Tryz.prog 225 #[.pointer (some ⟨b0, o0, none⟩), .agg #[.int .i64 cQ, .int .i64 cR, .int .i64 cT, .int .i64 eJ]] M K Kp := vw [] Tryz.func225 h
theorem nu {b0 o0 : Nat} {cQ : Int} {cR : Int} {cT : Int} {eJ : Int} (h :
aW M (cl [(iV cQ), (iV cR), (iV cT), (iV eJ)] 27) fun k1 M2 =>
rI M2 k1 1 fun n3 =>
rI M2 k1 2 fun n4 =>
(0 ≤ n3) ∧
(n3 < 8) ∧
sT M2 b0 ((o0 + 2) + (Int.toNat n3)) (iV n4) fun M5 =>
K (.tuple #[]) M5) :
 aa Tryz.prog 226 #[.pointer (some ⟨b0, o0, none⟩), .agg #[.int .i64 cQ, .int .i64 cR, .int .i64 cT, .int .i64 eJ]] M K Kp := vw [(1, .bQ [0, 0, 2, 0, 8, 1, 33, 127, 255] (sy [0, 1, 3, 5, 6, 2, 4, 7, 8] .done))] Tryz.func226 h
theorem sQ {b0 o0 : Nat} {cQ : Int} {cR : Int} {cT : Int} {eJ : Int} (h :
aW M (cl [(iV cQ), (iV cR), (iV cT), (iV eJ)] 27) fun k1 M2 =>
rI M2 k1 1 fun n3 =>
rI M2 k1 2 fun n4 =>
(0 ≤ n4) ∧
(n4 < 8) ∧
rI M2 b0 ((o0 + 2) + (Int.toNat n4)) fun n5 =>
(0 ≤ n3) ∧
(n3 < 8) ∧
sT M2 b0 ((o0 + 2) + (Int.toNat n3)) (iV n5) fun M6 =>
K (.tuple #[]) M6) :
 aa Tryz.prog 227 #[.pointer (some ⟨b0, o0, none⟩), .agg #[.int .i64 cQ, .int .i64 cR, .int .i64 cT, .int .i64 eJ]] M K Kp := vw [(1, .bQ [0, 0, 2, 0, 0, 16, 8, 72, 248, 504, 1, 1025, 4095, 8191] (sy [0, 1, 3, 4, 6, 7, 10, 11, 2, 5, 8, 9, 12, 13] .done))] Tryz.func227 h
theorem uD {b0 o0 : Nat} {cQ : Int} {cR : Int} {cT : Int} {eJ : Int} (h :
aW M (cl [(iV cQ), (iV cR), (iV cT), (iV eJ)] 27) fun k1 M2 =>
rI M2 k1 1 fun n3 =>
rI M2 k1 2 fun n4 =>
(0 ≤ n4) ∧
(n4 < 8) ∧
rI M2 b0 ((o0 + 2) + (Int.toNat n4)) fun n5 =>
rI M2 k1 3 fun n6 =>
(0 ≤ n6) ∧
(n6 < 8) ∧
rI M2 b0 ((o0 + 2) + (Int.toNat n6)) fun n7 =>
(0 ≤ n3) ∧
(n3 < 8) ∧
sT M2 b0 ((o0 + 2) + (Int.toNat n3)) (iV (IntKind.wrap .i64 (n5 + n7))) fun M8 =>
K (.tuple #[]) M8) :
 aa Tryz.prog 228 #[.pointer (some ⟨b0, o0, none⟩), .agg #[.int .i64 cQ, .int .i64 cR, .int .i64 cT, .int .i64 eJ]] M K Kp := vw [(1, .bQ [0, 0, 2, 0, 0, 16, 8, 72, 248, 504, 0, 0, 2048, 1024, 9216, 31744, 64512, 131064, 1, 262145, 1048575, 2097151] (sy [0, 1, 3, 4, 6, 7, 10, 11, 13, 14, 18, 19, 2, 5, 8, 9, 12, 15, 16, 17, 20, 21] .done))] Tryz.func228 h
theorem uE {b0 o0 : Nat} {cQ : Int} {cR : Int} {cT : Int} {eJ : Int} (h :
aW M (cl [(iV cQ), (iV cR), (iV cT), (iV eJ)] 27) fun k1 M2 =>
rI M2 k1 1 fun n3 =>
rI M2 k1 2 fun n4 =>
(0 ≤ n4) ∧
(n4 < 8) ∧
rI M2 b0 ((o0 + 2) + (Int.toNat n4)) fun n5 =>
rI M2 k1 3 fun n6 =>
(0 ≤ n6) ∧
(n6 < 8) ∧
rI M2 b0 ((o0 + 2) + (Int.toNat n6)) fun n7 =>
(0 ≤ n3) ∧
(n3 < 8) ∧
sT M2 b0 ((o0 + 2) + (Int.toNat n3)) (iV (IntKind.wrap .i64 (n5 - n7))) fun M8 =>
K (.tuple #[]) M8) :
 aa Tryz.prog 229 #[.pointer (some ⟨b0, o0, none⟩), .agg #[.int .i64 cQ, .int .i64 cR, .int .i64 cT, .int .i64 eJ]] M K Kp := vw [(1, .bQ [0, 0, 2, 0, 0, 16, 8, 72, 248, 504, 0, 0, 2048, 1024, 9216, 31744, 64512, 131064, 1, 262145, 1048575, 2097151] (sy [0, 1, 3, 4, 6, 7, 10, 11, 13, 14, 18, 19, 2, 5, 8, 9, 12, 15, 16, 17, 20, 21] .done))] Tryz.func229 h
theorem uF {b0 o0 : Nat} {cQ : Int} {cR : Int} {cT : Int} {eJ : Int} (h :
aW M (cl [(iV cQ), (iV cR), (iV cT), (iV eJ)] 27) fun k1 M2 =>
rI M2 k1 1 fun n3 =>
rI M2 k1 2 fun n4 =>
(0 ≤ n4) ∧
(n4 < 8) ∧
rI M2 b0 ((o0 + 2) + (Int.toNat n4)) fun n5 =>
rI M2 k1 3 fun n6 =>
(0 ≤ n6) ∧
(n6 < 8) ∧
rI M2 b0 ((o0 + 2) + (Int.toNat n6)) fun n7 =>
(0 ≤ n3) ∧
(n3 < 8) ∧
sT M2 b0 ((o0 + 2) + (Int.toNat n3)) (iV (IntKind.wrap .i64 (n5 * n7))) fun M8 =>
K (.tuple #[]) M8) :
 aa Tryz.prog 230 #[.pointer (some ⟨b0, o0, none⟩), .agg #[.int .i64 cQ, .int .i64 cR, .int .i64 cT, .int .i64 eJ]] M K Kp := vw [(1, .bQ [0, 0, 2, 0, 0, 16, 8, 72, 248, 504, 0, 0, 2048, 1024, 9216, 31744, 64512, 131064, 1, 262145, 1048575, 2097151] (sy [0, 1, 3, 4, 6, 7, 10, 11, 13, 14, 18, 19, 2, 5, 8, 9, 12, 15, 16, 17, 20, 21] .done))] Tryz.func230 h
theorem sR {b0 o0 : Nat} {cQ : Int} {cR : Int} {cT : Int} {eJ : Int} (h :
aW M (cl [(iV cQ), (iV cR), (iV cT), (iV eJ)] 27) fun k1 M2 =>
rI M2 k1 2 fun n3 =>
(0 ≤ n3) ∧
(n3 < 8) ∧
rI M2 b0 ((o0 + 2) + (Int.toNat n3)) fun n4 =>
rI M2 k1 3 fun n5 =>
(0 ≤ n5) ∧
(n5 < 8) ∧
rI M2 b0 ((o0 + 2) + (Int.toNat n5)) fun n6 =>
rI M2 k1 1 fun n7 =>
(0 ≤ n7) ∧
(n7 < 8) ∧
sT M2 b0 ((o0 + 2) + (Int.toNat n7)) (iV 0) fun M8 =>
aQ (decide (n4 < n6))
 (rI M8 k1 1 fun n9 =>
 (0 ≤ n9) ∧
 (n9 < 8) ∧
 sT M8 b0 ((o0 + 2) + (Int.toNat n9)) (iV 1) fun fJ =>
 K (.tuple #[]) fJ)
 (K (.tuple #[]) M8)) :
 aa Tryz.prog 231 #[.pointer (some ⟨b0, o0, none⟩), .agg #[.int .i64 cQ, .int .i64 cR, .int .i64 cT, .int .i64 eJ]] M K Kp := vw [(1, .bQ [0, 0, 2, 1, 9, 31, 63, 0, 0, 256, 128, 1152, 3968, 8064, 16383, 32767] (sy [0, 1, 3, 4, 7, 8, 10, 11, 2, 5, 6, 9, 12, 13, 14, 15] .done)), (2, .bQ [0, 0, 2, 1, 9, 31, 63] (sy [0, 1, 3, 4, 2, 5, 6] .done)), (4, .bQ [0, 0, 2, 1, 9, 31, 63] (sy [0, 1, 3, 4, 2, 5, 6] .done))] Tryz.func231 h
theorem sS {b0 o0 : Nat} {cQ : Int} {cR : Int} {cT : Int} {eJ : Int} (h :
aW M (cl [(iV cQ), (iV cR), (iV cT), (iV eJ)] 27) fun k1 M2 =>
rI M2 k1 1 fun n3 =>
sT M2 b0 (o0 + 1) (iV n3) fun M4 =>
K (.tuple #[]) M4) :
 aa Tryz.prog 232 #[.pointer (some ⟨b0, o0, none⟩), .agg #[.int .i64 cQ, .int .i64 cR, .int .i64 cT, .int .i64 eJ]] M K Kp := vw [] Tryz.func232 h
theorem pz {b0 o0 : Nat} {cQ : Int} {cR : Int} {cT : Int} {eJ : Int} (h :
aW M (cl [(iV cQ), (iV cR), (iV cT), (iV eJ)] 27) fun k1 M2 =>
rI M2 k1 1 fun n3 =>
(0 ≤ n3) ∧
(n3 < 8) ∧
rI M2 b0 ((o0 + 2) + (Int.toNat n3)) fun n4 =>
aQ (n4 != 0)
 (rI M2 k1 2 fun n5 =>
 sT M2 b0 (o0 + 1) (iV n5) fun M6 =>
 K (.tuple #[]) M6)
 (K (.tuple #[]) M2)) :
 aa Tryz.prog 233 #[.pointer (some ⟨b0, o0, none⟩), .agg #[.int .i64 cQ, .int .i64 cR, .int .i64 cT, .int .i64 eJ]] M K Kp := vw [(1, .bQ [0, 0, 2, 1, 9, 31, 63, 127] (sy [0, 1, 3, 4, 2, 5, 6, 7] .done))] Tryz.func233 h
theorem nv {b0 o0 : Nat} {cQ : Int} {cR : Int} {cT : Int} {x2 : Int} (h :
aW M (cl [(iV cQ), (iV cR), (iV cT)] 280) fun k1 M2 =>
rS M2 b0 (o0 + 4) fun A3 k4 k5 =>
rI M2 k1 0 fun n6 =>
(0 ≤ n6) ∧
(n6 < k4) ∧
aE A3 fun k7 k8 =>
rP M2 k7 (k8 + (Int.toNat n6)) fun A9 =>
aE A9 fun c6 dL =>
rS M2 c6 (dL + 1) fun ur cY eX =>
rS M2 b0 (o0 + 4) fun nS dK dS =>
rI M2 k1 0 fun g9 =>
(0 ≤ g9) ∧
(g9 < dK) ∧
aE nS fun gZ iM =>
rP M2 gZ (iM + (Int.toNat g9)) fun xB =>
aE xB fun g6 iI =>
bN M2 g6 (iI + 2) fun Fh oA lX xC =>
(True) ∧
aa Tryz.prog 189 #[(.slice ur cY eX)] M2 (fun Pj kf =>
cv (some Pj) fun RR =>
((Mem.gd kf ⟨g6, (iI + 2), none⟩ 0 4) = some [(iV Fh), (iV oA), (iV lX), (iV xC)]) ∧
((Mem.ld kf ⟨gZ, (iM + (Int.toNat g9)), none⟩) = (some (.pointer xB))) ∧
eI kf k1 0 g9 ∧
((Mem.ld kf ⟨b0, (o0 + 4), none⟩) = (some (.slice nS dK dS))) ∧
aE RR fun lZ nO =>
aW kf xk fun nQ pb =>
kB pb nQ (iV Fh) (iV oA) (iV lX) (iV xC) fun lW =>
((Mem.gd lW ⟨g6, (iI + 2), none⟩ 0 4) = some [(iV Fh), (iV oA), (iV lX), (iV xC)]) ∧
((Mem.ld lW ⟨gZ, (iM + (Int.toNat g9)), none⟩) = (some (.pointer xB))) ∧
eI lW k1 0 g9 ∧
((Mem.ld lW ⟨b0, (o0 + 4), none⟩) = (some (.slice nS dK dS))) ∧
rI lW nQ 0 fun Ef =>
aQ (Ef == 16)
 (rS lW b0 (o0 + 3) fun Zh AD HQ =>
 rI lW nQ 1 fun BW =>
 rI lW k1 1 fun Di =>
 ((0 : Int) ≤ (IntKind.wrap .i64 (BW + Di))) ∧
 (((IntKind.wrap .i64 (BW + Di)) : Int) < (AD : Int)) ∧
 aE Zh fun II Fe =>
 rI lW II ((Fe + ((Int.toNat (IntKind.wrap .i64 (BW + Di))) * 3)) + 2) fun wT =>
 rI lW k1 2 fun Cl =>
 (0 ≤ wT) ∧
 (wT < 8) ∧
 sT lW lZ ((nO + 2) + (Int.toNat wT)) (iV Cl) fun zg =>
 rII zg k1 0 fun Pq Fi =>
 aa Tryz.prog 251 #[(.pointer (some ⟨b0, o0, none⟩)), (iV Pq), (iV Fi)] zg (fun v52 I0 =>
 (v52 = (.tuple #[])) ∧
 rI I0 k1 0 fun Ws =>
 aa Tryz.prog 158 #[(.pointer (some ⟨b0, o0, none⟩)), (iV Ws)] I0 (fun Wh U9 =>
 (Wh = (.tuple #[])) ∧
 K (.tuple #[]) U9) Kp) Kp)
 (rI lW nQ 2 fun KW =>
 rI lW k1 2 fun KN =>
 (0 ≤ KW) ∧
 (KW < 8) ∧
 rI lW nQ 3 fun F1 =>
 sT lW lZ ((nO + 2) + (Int.toNat KW)) (iV KN) fun F4 =>
 eI F4 nQ 3 F1 ∧
 (0 ≤ F1) ∧
 (F1 < 8) ∧
 sT F4 lZ ((nO + 2) + (Int.toNat F1)) (iV x2) fun Dd =>
 eI Dd nQ 3 F1 ∧
 rI Dd k1 0 fun Pw =>
 aa Tryz.prog 158 #[(.pointer (some ⟨b0, o0, none⟩)), (iV Pw)] Dd (fun v63 Px =>
 (v63 = (.tuple #[])) ∧
 K (.tuple #[]) Px) Kp)) Kp) :
 aa Tryz.prog 238 #[.pointer (some ⟨b0, o0, none⟩), .agg #[.int .i64 cQ, .int .i64 cR, .int .i64 cT], .int .i64 x2] M K Kp := vw [(1, .bQ [0, 1, 3, 7, 0, 16, 63, 127, 255, 511, 1023, 0, 2048, 6144, 14336, 0, 32768, 129024, 260096, 522240, 1046528, 2095104, 4192256, 8386560, 16775168, 0, 41943039, 134217727] (sy [0, 1, 2, 4, 11, 12, 13, 15, 14, 16, 17, 18, 19, 20, 21] (.cE 3 (.cE 5 (sy [6] (.cE 7 (sy [8, 9] (.cE 10 (.late 22 (sy [23, 24, 25, 26, 27] .done)))))))))), (3, .bQ [0, 0, 2, 6, 14, 30, 0, 64, 0, 256, 960, 2046, 4094, 8190, 0, 16384, 1, 131071, 262143] (sy [0, 1, 2, 3, 4, 6, 8, 14, 16, 5, 7, 9, 10, 11, 12, 13, 15, 17, 18] .done)), (5, .bQ [0, 0, 2, 0, 0, 16, 0, 64, 0, 1, 711, 1735, 8, 8191, 16383] (sy [0, 1, 3, 4, 6, 8, 9, 12, 2, 7, 10] (.cE 5 (sy [11, 13, 14] .done))))] Tryz.func238 h
theorem sU {b0 o0 : Nat} {cQ : Int} {cR : Int} {cT : Int} (h :
aW M (cl [(iV cQ), (iV cR), (iV cT)] 280) fun k1 M2 =>
rS M2 b0 (o0 + 4) fun A3 k4 k5 =>
rI M2 k1 0 fun n6 =>
(0 ≤ n6) ∧
(n6 < k4) ∧
aE A3 fun k7 k8 =>
rP M2 k7 (k8 + (Int.toNat n6)) fun A9 =>
aE A9 fun c6 dL =>
rI M2 c6 (dL + 2) fun gy =>
aQ (gy == 16)
 (rI M2 k1 0 fun hG =>
 rI M2 k1 1 fun j5 =>
 aa Tryz.prog 251 #[(.pointer (some ⟨b0, o0, none⟩)), (iV hG), (iV j5)] M2 (fun vK eB =>
 (vK = (.tuple #[])) ∧
 rI eB k1 0 fun fK =>
 aa Tryz.prog 158 #[(.pointer (some ⟨b0, o0, none⟩)), (iV fK)] eB (fun AB iN =>
 (AB = (.tuple #[])) ∧
 K (.tuple #[]) iN) Kp) Kp)
 (rI M2 k1 0 fun dZ =>
 aa Tryz.prog 158 #[(.pointer (some ⟨b0, o0, none⟩)), (iV dZ)] M2 (fun Py cU =>
 (Py = (.tuple #[])) ∧
 K (.tuple #[]) cU) Kp)) :
 aa Tryz.prog 240 #[.pointer (some ⟨b0, o0, none⟩), .agg #[.int .i64 cQ, .int .i64 cR, .int .i64 cT]] M K Kp := vw [(1, .bQ [0, 1, 3, 7, 0, 16, 63, 127, 255, 511, 1023, 2047, 4095] (sy [0, 1, 2, 4, 3, 5, 6, 7, 8, 9, 10, 11, 12] .done))] Tryz.func240 h
theorem sV {B0 : Option Addr} {m0 c0 : Nat} {x1 : Int} {x2 : Int} {x3 : Int} (h :
aQ (decide ((m0 : Int) ≥ 16))
 (K (.tuple #[(.slice B0 m0 c0), (.bool false)]) M)
 (((0 : Int) ≤ m0) ∧
 ((m0 : Int) ≤ c0) ∧
 ((0 : Int) ≤ m0) ∧
 ((m0 : Int) ≤ m0) ∧
 ((0 : Int) ≤ 0) ∧
 ((0 : Int) ≤ m0) ∧
 aW M (cl [(iV x1), (iV 0), (iV x2), (iV 0), (iV 0), (iV 0), (iV 0), (iV 0), (iV 0), (iV 0), (iV x3)] 275) fun k1 M2 =>
 aX Tryz.prog (Go.Builtin.append_ #[226, 226] 226 #[(.slice (kx B0 0 (Int.toNat (m0 : Int)) 11) ((Int.toNat (m0 : Int)) - 0) ((Int.toNat (m0 : Int)) - 0)), (.slice (some ⟨k1, 0, none⟩) 1 1)]) M2 (fun v3 M4 =>
 az (some v3) fun A5 k6 k7 =>
 K (.tuple #[(.slice A5 k6 k7), (.bool true)]) M4) Kp)) :
 aa Tryz.prog 241 #[.slice B0 m0 c0, .int .i64 x1, .int .i64 x2, .int .i64 x3] M K Kp := vw [] Tryz.func241 h
theorem pA {B0 : Option Addr} {m0 c0 : Nat} {x1 : Int} (h :
aQ (decide ((m0 : Int) < 2))
 (K (.tuple #[(.slice none 0 0), (.bool false)]) M)
 (aW M (cl [] 275) fun k1 M2 =>
 ((0 : Int) ≤ c0) ∧
 ((c0 : Int) ≤ c0) ∧
 ((0 : Int) ≤ (IntKind.wrap .i64 ((m0 : Int) - 1))) ∧
 (((IntKind.wrap .i64 ((m0 : Int) - 1)) : Int) ≤ (c0 : Int)) ∧
 ((0 : Int) ≤ 0) ∧
 ((0 : Int) ≤ (IntKind.wrap .i64 ((m0 : Int) - 1))) ∧
 aX Tryz.prog (Go.Builtin.append_ #[226, 226] 226 #[(.slice (some ⟨k1, 0, none⟩) 0 0), (.slice (kx B0 0 (Int.toNat (c0 : Int)) 11) ((Int.toNat (IntKind.wrap .i64 ((m0 : Int) - 1))) - 0) ((Int.toNat (c0 : Int)) - 0))]) M2 (fun v3 M4 =>
 az (some v3) fun A5 k6 k7 =>
 aa Tryz.prog 189 #[(.slice A5 k6 k7)] M4 (fun v8 M9 =>
 cv (some v8) fun vg =>
 aE vg fun dL eU =>
 aa Tryz.prog 189 #[(.slice B0 m0 c0)] M9 (fun C7 jM =>
 cv (some C7) fun nS =>
 aE nS fun dK dS =>
 rI jM dK (dS + 10) fun g9 =>
 (0 ≤ g9) ∧
 (g9 < 8) ∧
 sT jM dL ((eU + 2) + (Int.toNat g9)) (iV x1) fun iN =>
 K (.tuple #[(.slice A5 k6 k7), (.bool true)]) iN) Kp) Kp) Kp)) :
 aa Tryz.prog 242 #[.slice B0 m0 c0, .int .i64 x1] M K Kp := vw [(4, .bQ [0, 1, 0, 7, 15, 31, 63, 0, 3, 259, 1023, 2047] (sy [0, 2, 7, 1, 8, 9, 3, 4, 5, 6, 10, 11] .done))] Tryz.func242 h
theorem vX {b0 o0 : Nat} {x1 : Int} {x2 : Int} (h :
az (Mem.ld M ⟨b0, o0, none⟩) fun A1 k2 k3 =>
aK (Mem.ld M ⟨b0, (o0 + 1), none⟩) .u64 fun n4 =>
aW M (.cells #[(.int .u64 x1), (.int .u64 n4), (.int .i64 x2)] 203 (0, 0)) fun k5 M6 =>
aX Tryz.prog (Go.Builtin.append_ #[46, 46] 46 #[(.slice A1 k2 k3), (.slice (some ⟨k5, 0, none⟩) 1 1)]) M6 (fun v7 M8 =>
az (some v7) fun A9 c6 dL =>
aN M8 ⟨b0, o0, none⟩ (.slice A9 c6 dL) fun j0 =>
aK (Mem.ld j0 ⟨b0, (o0 + 1), none⟩) .u64 fun hG =>
aN j0 ⟨b0, (o0 + 1), none⟩ (.int .u64 (IntKind.wrap .u64 (hG + 1))) fun jM =>
az (Mem.ld jM ⟨b0, o0, none⟩) fun nS dK dS =>
aa Tryz.prog 156 #[(.pointer (some ⟨b0, o0, none⟩)), (.int .i64 (IntKind.wrap .i64 (((dK : Nat) : Int) - 1)))] jM (fun AB iN =>
(AB = (.tuple #[])) ∧
aK (Mem.ld iN ⟨b0, (o0 + 1), none⟩) .u64 fun dZ =>
K (.int .u64 (IntKind.wrap .u64 (dZ - 1))) iN) Kp) Kp) :
 aa Tryz.prog 244 ([.pointer (some ⟨b0, o0, none⟩), .int .u64 x1, .int .i64 x2] : List Value).toArray M K Kp :=
 bV (C := Cx) good [(1, .bQ [0, 0, 2, 6, 14, 0, 0, 64, 192, 448, 0, 2016, 4064, 8190, 16383, 32767, 65535] (.step 0 (.step 1 (.step 2 (.step 3 (.step 5 (.step 6 (.step 7 (.step 8 (.step 10 (.step 4 (.step 9 (.step 11 (.step 12 (.step 13 (.step 14 (.step 15 (.step 16 .done))))))))))))))))))] Tryz.func244 (by kernel_rfl) (by kernel_rfl) h
theorem uG {b0 o0 : Nat} {x1 : Int} (h :
rI M b0 o0 fun n1 =>
aQ (n1 != (-1))
 (rS M b0 (o0 + 1) fun A2 k3 k4 =>
 aW M (cl [(iV x1)] 3) fun k5 M6 =>
 aA 36 A2 k3 k4 (some ⟨k5, 0, none⟩) 1 1 M6 (fun v7 M8 =>
 az (some v7) fun A9 c6 dL =>
 sT M8 b0 (o0 + 1) (.slice A9 c6 dL) fun j0 =>
 K (.bool false) j0) Kp)
 (sT M b0 o0 (iV x1) fun jl =>
 K (.bool true) jl)) :
 aa Tryz.prog 245 #[.pointer (some ⟨b0, o0, none⟩), .int .i64 x1] M K Kp := vw [] Tryz.func245 h
theorem uH {b0 o0 : Nat} {x1 : Int} (h :
rI M b0 o0 fun n1 =>
aQ (n1 == (-1))
 (K (.tuple #[(iV (-1)), (iV 5)]) M)
 (rI M b0 o0 fun n2 =>
 aQ (n2 != x1)
 (K (.tuple #[(iV (-1)), (iV 5)]) M)
 (sT M b0 o0 (iV (-1)) fun M3 =>
 rS M3 b0 (o0 + 1) fun A4 k5 k6 =>
 aQ (decide ((k5 : Int) > 0))
 (rS M3 b0 (o0 + 1) fun A7 k8 k9 =>
 ((0 : Int) ≤ 0) ∧
 ((0 : Int) < k8) ∧
 aE A7 fun c6 dL =>
 rI M3 c6 (dL + 0) fun gy =>
 sT M3 b0 o0 (iV gy) fun jl =>
 aW jl (cl [] 3) fun eX rO =>
 rS rO b0 (o0 + 1) fun KU dS dx =>
 ((0 : Int) ≤ dx) ∧
 ((dx : Int) ≤ dx) ∧
 ((0 : Int) ≤ dS) ∧
 ((dS : Int) ≤ dx) ∧
 ((0 : Int) ≤ 1) ∧
 ((1 : Int) ≤ dS) ∧
 aX Tryz.prog (Go.Builtin.append_ #[36, 36] 36 #[(.slice (some ⟨eX, 0, none⟩) 0 0), (.slice (kx KU 1 (Int.toNat (dx : Int)) 1) ((Int.toNat (dS : Int)) - 1) ((Int.toNat (dx : Int)) - 1))]) rO (fun Gg kX =>
 az (some Gg) fun xB g6 iI =>
 sT kX b0 (o0 + 1) (.slice xB g6 iI) fun j6 =>
 rI j6 b0 o0 fun oA =>
 K (.tuple #[(iV oA), (iV 0)]) j6) Kp)
 (rI M3 b0 o0 fun lX =>
 K (.tuple #[(iV lX), (iV 0)]) M3)))) :
 aa Tryz.prog 246 #[.pointer (some ⟨b0, o0, none⟩), .int .i64 x1] M K Kp := vw [] Tryz.func246 h
theorem uI {b0 o0 : Nat} {x1 : Int} (h :
∃ I1 : Nat → List Value → Mem → Prop, (∃ k2 : Nat, I1 k2 [(.int .i64 x1), (.int .i64 (IntKind.wrap .i64 ((IntKind.wrap .i64 (4 * x1)) + 1)))] M) ∧
∀ k3 : Nat, ∀ Vg : Nat → Value, ∀ n5 : Int, ∀ n6 : Int, ∀ M7 : Mem, (I1 k3 [(.int .i64 n5), (.int .i64 n6)] M7) → aQ (decide ((n6 : Int) ≤ (IntKind.wrap .i64 ((IntKind.wrap .i64 (4 * x1)) + 4))))
 (az (Mem.ld M7 ⟨b0, o0, none⟩) fun A8 k9 c6 =>
 aQ (decide ((n6 : Int) < ((k9 : Nat) : Int)))
  (az (Mem.ld M7 ⟨b0, o0, none⟩) fun wV eU cY =>
  ((0 : Int) ≤ n6) ∧
  ((n6 : Int) < ((eU : Nat) : Int)) ∧
  aE wV fun eX gj =>
  aK (Mem.ld M7 ⟨eX, (gj + ((Int.toNat n6) * 3)), none⟩) .u64 fun jz =>
  aK (Mem.ld M7 ⟨eX, ((gj + ((Int.toNat n6) * 3)) + 1), none⟩) .u64 fun fK =>
  aK (Mem.ld M7 ⟨eX, ((gj + ((Int.toNat n6) * 3)) + 2), none⟩) .i64 fun g9 =>
  az (Mem.ld M7 ⟨b0, o0, none⟩) fun Cd iM eG =>
  ((0 : Int) ≤ n5) ∧
  ((n5 : Int) < ((iM : Nat) : Int)) ∧
  aE Cd fun g6 iI =>
  aK (Mem.ld M7 ⟨g6, (iI + ((Int.toNat n5) * 3)), none⟩) .u64 fun Fh =>
  aK (Mem.ld M7 ⟨g6, ((iI + ((Int.toNat n5) * 3)) + 1), none⟩) .u64 fun oA =>
  aK (Mem.ld M7 ⟨g6, ((iI + ((Int.toNat n5) * 3)) + 2), none⟩) .i64 fun lX =>
  aa Tryz.prog 187 #[(.agg #[(.int .u64 jz), (.int .u64 fK), (.int .i64 g9)]), (.agg #[(.int .u64 Fh), (.int .u64 oA), (.int .i64 lX)])] M7 (fun F7 oU =>
  dH (some F7) fun t29 =>
  aQ t29
   (∃ kZ : Nat, (kZ < k3) ∧
   I1 kZ [(.int .i64 n6), (.int .i64 (IntKind.wrap .i64 (n6 + 1)))] oU)
   (∃ lZ : Nat, (lZ < k3) ∧
   I1 lZ [(.int .i64 n5), (.int .i64 (IntKind.wrap .i64 (n6 + 1)))] oU)) Kp)
  (K (.int .i64 n5) M7))
 (K (.int .i64 n5) M7)) :
 aa Tryz.prog 186 ([.pointer (some ⟨b0, o0, none⟩), .int .i64 x1] : List Value).toArray M K Kp :=
 bV (C := Cx) good [(2000000, .loop [(5, .c (.int .i64)), (6, .c (.int .i64))]), (5, .bQ [0, 1, 3, 7, 0, 31, 63, 0, 128, 384, 896, 0, 3968, 8064, 16383] (.step 0 (.step 1 (.step 2 (.step 4 (.step 7 (.step 8 (.step 9 (.step 11 (.step 3 (.step 5 (.step 6 (.step 10 (.step 12 (.step 13 (.step 14 .done))))))))))))))))] Tryz.func186 (by kernel_rfl) (by kernel_rfl) h
theorem AN {nq : Int} {AG : Int} {gk : Int} {cQ : Int} {cR : Int} {cT : Int} (h :
aW M (cl [(.int .u64 nq), (.int .u64 AG), (iV gk)] 203) fun k1 M2 =>
aW M2 (cl [(.int .u64 cQ), (.int .u64 cR), (iV cT)] 203) fun k3 M4 =>
rU M4 k1 0 fun n5 =>
rU M4 k3 0 fun n6 =>
aQ (decide (n5 < n6))
 (K (.bool true) M4)
 (rU M4 k1 0 fun n7 =>
 rU M4 k3 0 fun n8 =>
 aQ (n7 == n8)
 (rU M4 k1 1 fun n9 =>
 rU M4 k3 1 fun jN =>
 K (.bool (decide (n9 < jN))) M4)
 (K (.bool false) M4))) :
 aa Tryz.prog 187 #[.agg #[.int .u64 nq, .int .u64 AG, .int .i64 gk], .agg #[.int .u64 cQ, .int .u64 cR, .int .i64 cT]] M K Kp := vw [] Tryz.func187 h
theorem pB {b0 o0 : Nat} {x1 : Int} {x2 : Int} (h :
rS M b0 (o0 + 4) fun A1 k2 k3 =>
((0 : Int) ≤ x1) ∧
((x1 : Int) < k2) ∧
aE A1 fun k4 k5 =>
rP M k4 (k5 + (Int.toNat x1)) fun A6 =>
aE A6 fun k7 k8 =>
bN M k7 (k8 + 2) fun n9 jN eO gy =>
aW M xk fun cY jM =>
kB jM cY (iV n9) (iV jN) (iV eO) (iV gy) fun nU =>
rS nU b0 (o0 + 4) fun Cd iM eG =>
((0 : Int) ≤ x1) ∧
((x1 : Int) < iM) ∧
aE Cd fun g6 iI =>
rP nU g6 (iI + (Int.toNat x1)) fun ze =>
aE ze fun nj lV =>
rS nU nj (lV + 1) fun Mw ko nT =>
rI nU cY 3 fun vT =>
aa Tryz.prog 189 #[(.slice Mw ko nT)] nU (fun SL nk =>
cv (some SL) fun F2 =>
eI nk cY 3 vT ∧
aE F2 fun sq yH =>
(0 ≤ vT) ∧
(vT < 8) ∧
sT nk sq ((yH + 2) + (Int.toNat vT)) (iV x2) fun Ee =>
eI Ee cY 3 vT ∧
rS Ee b0 (o0 + 6) fun Fk gm rK =>
aa Tryz.prog 252 #[(iV x1), (.slice Fk gm rK)] Ee (fun Ge uw =>
(Ge = (.tuple #[])) ∧
K (.tuple #[]) uw) Kp) Kp) :
 aa Tryz.prog 251 #[.pointer (some ⟨b0, o0, none⟩), .int .i64 x1, .int .i64 x2] M K Kp := vw [(1, .bQ [0, 1, 3, 7, 0, 31, 63, 127, 255, 511, 1023, 0, 2048, 0, 2047, 18431, 65535, 131071] (sy [0, 1, 2, 4, 11, 13, 3, 5, 6, 7, 8, 9] (.cE 12 (sy [10, 14, 15, 16, 17] .done))))] Tryz.func251 h
end Go.Proofs
namespace Go.Proofs
open Go.AF
set_option maxRecDepth 100000
theorem Em {lI : Option Addr} {lJ lK : Nat} {jO : Option Addr} {jP jQ : Nat} {gk : Int} {lM : Option Addr} {lN lO : Nat} {M : Mem} {K : Value → Mem → Prop} {Kp : List PanicEntry → Mem → Prop} (h :
aW M (cl [(.slice lI lJ lK), (.slice jO jP jQ), (iV gk), (.slice lM lN lO)] 39) fun k1 M2 =>
tP M2 k1 0 fun A3 k4 k5 A6 k7 k8 n9 vg dL eU =>
aa Tryz.prog 112 #[(iV 0), (iV 0)] M2 (fun C7 jM =>
az (some C7) fun nS dK dS =>
((Mem.gd jM ⟨k1, 0, none⟩ 0 4) = some [(.slice A3 k4 k5), (.slice A6 k7 k8), (iV n9), (.slice vg dL eU)]) ∧
aW jM (cl [(iV 1), (.slice nS dK dS), (iV 0), (iV 0), (iV 0), (iV 0)] 229) fun dx iN =>
aW iN (cl [(.pointer (some ⟨dx, 0, none⟩))] 224) fun iM jG =>
aW jG (cl [(.slice A3 k4 k5), (.slice A6 k7 k8), (iV n9), (.slice vg dL eU), (.slice (some ⟨iM, 0, none⟩) 1 1), (.int .u64 0), (.slice none 0 0), (.slice none 0 0), (.slice none 0 0), (.int .u64 0), (.slice none 0 0), (iV 0), (iV 0), (.slice none 0 0), .nilFunc] 161) fun g6 gQ =>
rS gQ k1 1 fun ze nj lV =>
∃ Wu : IT, (∃ ko, Wu ko [(iV 0)] gQ) ∧
∀ (nT : Nat) (_ : Nat → Value) (tQ : Int) (nk : Mem), (Wu nT [(iV tQ)] nk) → aQ (decide (tQ < nj))
 ((0 ≤ tQ) ∧
 (tQ < nj) ∧
 aE ze fun nQ sq =>
 rI nk nQ (sq + (Int.toNat tQ)) fun Ek =>
 ∃ J36 : List Value → Mem → Prop, ((rS nk g6 6 fun Fk gm rK =>
 aa Tryz.prog 113 #[(iV Ek)] nk (fun Ge uw =>
 cv (some Ge) fun Eg =>
 aW uw (cl [(.pointer Eg)] 230) fun nR zk =>
 aA 156 Fk gm rK (some ⟨nR, 0, none⟩) 1 1 zk (fun v45 HX =>
 az (some v45) fun A47 Od RU =>
 sT HX g6 6 (.slice A47 Od RU) fun zO =>
 J36 [] zO) Kp) Kp) ∧
 (aa Tryz.prog 113 #[(iV Ek)] nk (fun v51 M52 =>
 cv (some v51) fun A53 =>
 rS M52 g6 6 fun Zo Zp Oe =>
 aW M52 (cl [(.pointer A53)] 230) fun AI Pz =>
 aA 156 Zo Zp Oe (some ⟨AI, 0, none⟩) 1 1 Pz (fun v59 F4 =>
 az (some v59) fun SR PB HW =>
 sT F4 g6 6 (.slice SR PB HW) fun Px =>
 J36 [] Px) Kp) Kp) ∧
 True) ∧
 ∀ junk65 : Nat → Value, ∀ Vh : Mem, (J36 [] Vh) → ∃ xD : Nat, (xD < nT) ∧
 Wu xD [(iV (IntKind.wrap .i64 (tQ + 1)))] Vh)
 (rI nk k1 2 fun IW =>
 ∃ I69 : IT, (∃ KX, I69 KX [(iV 0)] nk) ∧
 ∀ (KY : Nat) (_ : Nat → Value) (Wi : Int) (Gf : Mem), (I69 KY [(iV Wi)] Gf) → aQ (decide (Wi < IW))
 (∃ J75 : List Value → Mem → Prop, ((rS Gf g6 7 fun A76 k77 RX =>
 aa Tryz.prog 114 #[] Gf (fun v79 En =>
 cv (some v79) fun Wv =>
 aW En (cl [(.pointer Wv)] 232) fun Gh MB =>
 aA 157 A76 k77 RX (some ⟨Gh, 0, none⟩) 1 1 MB (fun v84 M85 =>
 az (some v84) fun A86 Ww RY =>
 sT M85 g6 7 (.slice A86 Ww RY) fun Gi =>
 J75 [] Gi) Kp) Kp) ∧
 (aa Tryz.prog 114 #[] Gf (fun SS my =>
 cv (some SS) fun Wx =>
 rS my g6 7 fun A93 Wy k95 =>
 aW my (cl [(.pointer Wx)] 232) fun Zq PC =>
 aA 157 A93 Wy k95 (some ⟨Zq, 0, none⟩) 1 1 PC (fun v98 M99 =>
 az (some v98) fun SU SW I7 =>
 sT M99 g6 7 (.slice SU SW I7) fun Gj =>
 J75 [] Gj) Kp) Kp) ∧
 True) ∧
 ∀ junk104 : Nat → Value, ∀ Cm : Mem, (J75 [] Cm) → ∃ sW : Nat, (sW < KY) ∧
 I69 sW [(iV (IntKind.wrap .i64 (Wi + 1)))] Cm)
 (K (.pointer (some ⟨g6, 0, none⟩)) Gf))) Kp) :
 aa Tryz.prog 56 #[.agg #[.slice lI lJ lK, .slice jO jP jQ, .int .i64 gk, .slice lM lN lO]] M K Kp := vw [(1, .bQ [0, 0, 2, 6, 14, 31, 63, 127] (.cE 0 (sy [1, 2, 3, 4, 5, 6, 7] .done))), (2000000, .loop [(16, .c (.int .i64))]), (5, .It [0, 0, 2, 6, 14, 0, 32, 96, 254, 511, 1023, 2047] (sy [0, 1, 2, 3, 5] (.fork 4 (sy [6, 7, 8, 9, 10, 11] .done) (.fork 6 (sy [4, 7, 8, 9, 10, 11] .done) .dead))) []), (2000002, .loop [(34, .c (.int .i64))]), (9, .It [0, 0, 2, 6, 14, 0, 32, 126, 255, 511, 1023] (sy [0, 1, 2, 3] (.fork 4 (sy [5, 6, 7, 8, 9, 10] .done) (.fork 5 (sy [4, 6, 7, 8, 9, 10] .done) .dead))) [])] Tryz.func56 h
theorem kD {b0 o0 : Nat} {x1 : Int} {u2 : Value} {M : Mem} {K : Value → Mem → Prop} {Kp : List PanicEntry → Mem → Prop} (h :
aW M (.cells #[(.bool false), (.slice none 0 0)] 250 (0, 0)) fun k1 M2 =>
aQ (decide ((x1 : Int) < 0))
 (aN M2 ⟨k1, 0, none⟩ (.bool false) fun M3 =>
 aN M3 ⟨k1, (0 + 1), none⟩ (.slice none 0 0) fun M4 =>
 dH (Mem.ld M4 ⟨k1, 0, none⟩) fun t5 =>
 az (Mem.ld M4 ⟨k1, (0 + 1), none⟩) fun A6 k7 k8 =>
 K (.agg #[(.bool t5), (.slice A6 k7 k8)]) M4)
 (az (Mem.ld M2 ⟨b0, (o0 + 4), none⟩) fun A9 c6 dL =>
 aQ (decide ((x1 : Int) ≥ ((c6 : Nat) : Int)))
  (aN M2 ⟨k1, 0, none⟩ (.bool false) fun j0 =>
  aN j0 ⟨k1, (0 + 1), none⟩ (.slice none 0 0) fun jl =>
  dH (Mem.ld jl ⟨k1, 0, none⟩) fun t14 =>
  az (Mem.ld jl ⟨k1, (0 + 1), none⟩) fun nS dK dS =>
  K (.agg #[(.bool t14), (.slice nS dK dS)]) jl)
  (aK (Mem.ld M2 ⟨b0, (o0 + 11), none⟩) .i64 fun g9 =>
  aQ (g9 != 0)
   (aN M2 ⟨k1, 0, none⟩ (.bool false) fun iN =>
   aN iN ⟨k1, (0 + 1), none⟩ (.slice none 0 0) fun kX =>
   dH (Mem.ld kX ⟨k1, 0, none⟩) fun t21 =>
   az (Mem.ld kX ⟨k1, (0 + 1), none⟩) fun Mz iI kC =>
   K (.agg #[(.bool t21), (.slice Mz iI kC)]) kX)
   (az (Mem.ld M2 ⟨b0, (o0 + 4), none⟩) fun SK lV oT =>
   ((0 : Int) ≤ x1) ∧
   ((x1 : Int) < ((lV : Nat) : Int)) ∧
   aE SK fun ko nT =>
   cv (Mem.ld M2 ⟨ko, (nT + (Int.toNat x1)), none⟩) fun RR =>
   aE RR fun lZ nO =>
   aK (Mem.ld M2 ⟨lZ, nO, none⟩) .i64 fun rL =>
   aQ (rL != 1)
    (aN M2 ⟨k1, 0, none⟩ (.bool false) fun pb =>
    aN pb ⟨k1, (0 + 1), none⟩ (.slice none 0 0) fun rQ =>
    dH (Mem.ld rQ ⟨k1, 0, none⟩) fun t36 =>
    az (Mem.ld rQ ⟨k1, (0 + 1), none⟩) fun Fk gm rK =>
    K (.agg #[(.bool t36), (.slice Fk gm rK)]) rQ)
    (aN M2 ⟨b0, (o0 + 13), none⟩ (.slice none 0 0) fun Wp =>
    CN u2 <|
    aN Wp ⟨b0, (o0 + 14), none⟩ u2 fun uw =>
    aa Tryz.prog 159 #[(.pointer (some ⟨b0, o0, none⟩)), (.int .i64 x1)] uw (fun v42 zP =>
    dH (some v42) fun t44 =>
    aQ (!t44)
     (aK (Mem.ld zP ⟨b0, (o0 + 11), none⟩) .i64 fun vU =>
     aQ (vU == 0)
      (az (Mem.ld zP ⟨b0, (o0 + 4), none⟩) fun A46 N7 Od =>
      ((0 : Int) ≤ x1) ∧
      ((x1 : Int) < ((N7 : Nat) : Int)) ∧
      aE A46 fun RU KO =>
      cv (Mem.ld zP ⟨RU, (KO + (Int.toNat x1)), none⟩) fun Wg =>
      aE Wg fun um uo =>
      aK (Mem.ld zP ⟨um, uo, none⟩) .i64 fun Ws =>
      az (Mem.ld zP ⟨b0, (o0 + 13), none⟩) fun Zr Oe AI =>
      aN zP ⟨k1, 0, none⟩ (.bool (Ws == 1)) fun Pz =>
      aN Pz ⟨k1, (0 + 1), none⟩ (.slice Zr Oe AI) fun B4 =>
      dH (Mem.ld B4 ⟨k1, 0, none⟩) fun t60 =>
      az (Mem.ld B4 ⟨k1, (0 + 1), none⟩) fun SR PB HW =>
      K (.agg #[(.bool t60), (.slice SR PB HW)]) B4)
      (az (Mem.ld zP ⟨b0, (o0 + 13), none⟩) fun A64 k65 Ja =>
      aN zP ⟨k1, 0, none⟩ (.bool false) fun M67 =>
      aN M67 ⟨k1, (0 + 1), none⟩ (.slice A64 k65 Ja) fun M68 =>
      dH (Mem.ld M68 ⟨k1, 0, none⟩) fun t69 =>
      az (Mem.ld M68 ⟨k1, (0 + 1), none⟩) fun A70 KY Zs =>
      K (.agg #[(.bool t69), (.slice A70 KY Zs)]) M68))
     (az (Mem.ld zP ⟨b0, (o0 + 13), none⟩) fun Wz Zt k75 =>
     aN zP ⟨k1, 0, none⟩ (.bool false) fun Zm =>
     aN Zm ⟨k1, (0 + 1), none⟩ (.slice Wz Zt k75) fun WB =>
     dH (Mem.ld WB ⟨k1, 0, none⟩) fun t78 =>
     az (Mem.ld WB ⟨k1, (0 + 1), none⟩) fun MC Gk Jb =>
     K (.agg #[(.bool t78), (.slice MC Gk Jb)]) WB)) Kp))))) :
 aa Tryz.prog 121 ([.pointer (some ⟨b0, o0, none⟩), .int .i64 x1, u2] : List Value).toArray M K Kp :=
 bV (C := Cx) good [(5, .bQ [0, 1, 3, 7, 15, 31, 63, 127, 255, 511, 1023, 2047, 4095, 8191, 1023, 32767, 65535, 131071, 262143, 524287, 1048575, 2097151, 0, 4194304, 12582912, 29360128, 67108863, 134217727] (.step 0 (.step 1 (.step 2 (.step 3 (.step 4 (.step 5 (.step 22 (.step 23 (.step 24 (.step 6 (.step 7 (.step 8 (.step 9 (.step 10 (.step 11 (.step 12 (.step 14 (.step 13 (.step 15 (.step 16 (.step 17 (.step 18 (.step 19 (.step 20 (.step 21 (.step 25 (.step 26 (.step 27 .done)))))))))))))))))))))))))))))] Tryz.func121 (by kernel_rfl) (by kernel_rfl) h
variable {M : Mem} {K : Value → Mem → Prop} {Kp : List PanicEntry → Mem → Prop}
theorem qv {b0 o0 : Nat} (h :
aK (Mem.ld M ⟨b0, (o0 + 11), none⟩) .i64 fun n1 =>
aQ (n1 != 0)
 (K (.bool false) M)
 (az (Mem.ld M ⟨b0, (o0 + 4), none⟩) fun A2 k3 k4 =>
 ∃ I5 : Nat → List Value → Mem → Prop, (∃ k6 : Nat, I5 k6 [(.int .i64 0)] M) ∧
 ∀ k7 : Nat, ∀ junk8 : Nat → Value, ∀ n9 : Int, ∀ fJ : Mem, (I5 k7 [(.int .i64 n9)] fJ) → aQ (decide ((n9 : Int) < ((k3 : Nat) : Int)))
  (((0 : Int) ≤ n9) ∧
  ((n9 : Int) < ((k3 : Nat) : Int)) ∧
  aE A2 fun dL eU =>
  cv (Mem.ld fJ ⟨dL, (eU + (Int.toNat n9)), none⟩) fun Dc =>
  aE Dc fun eX gj =>
  aK (Mem.ld fJ ⟨eX, gj, none⟩) .i64 fun jz =>
  aQ (jz == 1)
   (K (.bool false) fJ)
   (aE Dc fun dS dx =>
   aK (Mem.ld fJ ⟨dS, dx, none⟩) .i64 fun lF =>
   aQ (lF == 3)
    (K (.bool false) fJ)
    (∃ iM : Nat, (iM < k7) ∧
    I5 iM [(.int .i64 (IntKind.wrap .i64 (n9 + 1)))] fJ)))
  (K (.bool true) fJ))) :
 aa Tryz.prog 65 ([.pointer (some ⟨b0, o0, none⟩)] : List Value).toArray M K Kp :=
 bV (C := Cx) good [(2000000, .loop [(15, .c (.int .i64))])] Tryz.func65 (by kernel_rfl) (by kernel_rfl) h
theorem qw {b0 o0 : Nat} (h :
rU M b0 (o0 + 5) fun n1 =>
K (.int .u64 n1) M) :
 aa Tryz.prog 86 #[.pointer (some ⟨b0, o0, none⟩)] M K Kp := vw [] Tryz.func86 h
theorem sX {b0 o0 : Nat} {x1 : Int} (h :
aQ (decide ((x1 : Int) < 0))
 (K (.tuple #[(.int .i64 (-1)), (.slice none 0 0)]) M)
 (az (Mem.ld M ⟨b0, (o0 + 7), none⟩) fun A1 k2 k3 =>
 aQ (decide ((x1 : Int) ≥ ((k2 : Nat) : Int)))
  (K (.tuple #[(.int .i64 (-1)), (.slice none 0 0)]) M)
  (az (Mem.ld M ⟨b0, (o0 + 7), none⟩) fun A4 k5 k6 =>
  ((0 : Int) ≤ x1) ∧
  ((x1 : Int) < ((k5 : Nat) : Int)) ∧
  aE A4 fun k7 k8 =>
  cv (Mem.ld M ⟨k7, (k8 + (Int.toNat x1)), none⟩) fun A9 =>
  az (Mem.ld M ⟨b0, (o0 + 7), none⟩) fun vg dL eU =>
  ((0 : Int) ≤ x1) ∧
  ((x1 : Int) < ((dL : Nat) : Int)) ∧
  aE vg fun cY eX =>
  cv (Mem.ld M ⟨cY, (eX + (Int.toNat x1)), none⟩) fun nS =>
  aa Tryz.prog 138 #[(.pointer A9)] M (fun My kY =>
  aK (some My) .i64 fun g9 =>
  ((Mem.ld kY ⟨cY, (eX + (Int.toNat x1)), none⟩) = (some (.pointer nS))) ∧
  ((Mem.ld kY ⟨b0, (o0 + 7), none⟩) = (some (.slice vg dL eU))) ∧
  aa Tryz.prog 139 #[(.pointer nS)] kY (fun Gg kX =>
  az (some Gg) fun xB g6 iI =>
  ((Mem.ld kX ⟨cY, (eX + (Int.toNat x1)), none⟩) = (some (.pointer nS))) ∧
  ((Mem.ld kX ⟨b0, (o0 + 7), none⟩) = (some (.slice vg dL eU))) ∧
  K (.tuple #[(.int .i64 g9), (.slice xB g6 iI)]) kX) Kp) Kp))) :
 aa Tryz.prog 90 ([.pointer (some ⟨b0, o0, none⟩), .int .i64 x1] : List Value).toArray M K Kp :=
 bV (C := Cx) good [(3, .bQ [0, 1, 3, 7, 0, 31, 63, 127, 0, 256, 768, 1792, 0, 7936, 16128, 32767, 65535, 131071] (.step 0 (.step 1 (.step 2 (.step 4 (.step 8 (.step 9 (.step 10 (.step 12 (.step 3 (.step 5 (.step 6 (.cE 11 (.step 13 (.cE 14 (.step 7 (.step 15 (.step 16 (.step 17 .done)))))))))))))))))))] Tryz.func90 (by kernel_rfl) (by kernel_rfl) h
theorem sY {b0 o0 : Nat} (h :
rI M b0 o0 fun n1 =>
K (iV n1) M) :
 aa Tryz.prog 138 #[.pointer (some ⟨b0, o0, none⟩)] M K Kp := vw [] Tryz.func138 h
theorem sZ {b0 o0 : Nat} (h :
aW M (cl [] 3) fun k1 M2 =>
rS M2 b0 (o0 + 1) fun A3 k4 k5 =>
aA 36 (some ⟨k1, 0, none⟩) 0 0 A3 k4 k5 M2 (fun v6 M7 =>
az (some v6) fun A8 k9 c6 =>
K (.slice A8 k9 c6) M7) Kp) :
 aa Tryz.prog 139 #[.pointer (some ⟨b0, o0, none⟩)] M K Kp := vw [] Tryz.func139 h
end Go.Proofs
namespace Go.Proofs
open Go.AF
set_option maxRecDepth 100000
variable {M : Mem} {K : Value → Mem → Prop} {Kp : List PanicEntry → Mem → Prop}
theorem xE {B0 : Option Addr} {m0 c0 : Nat} (h :
aW M (cl [] 32) fun k1 M2 =>
aA 31 (some ⟨k1, 0, none⟩) 0 0 B0 m0 c0 M2 (fun v3 M4 =>
az (some v3) fun A5 k6 k7 =>
aW M4 (cl [(.slice A5 k6 k7), (iV 0)] 147) fun k8 M9 =>
aW M9 (.cells #[(.func (.func 59) #[(.pointer (some ⟨k8, 0, none⟩))] #[]), (.func (.func 60) #[(.pointer (some ⟨k8, 0, none⟩))] #[]), (.slice none 0 0), .nilFunc] 152 (0, 0)) fun c6 ir =>
K (.pointer (some ⟨c6, 0, none⟩)) ir) Kp) :
 aa Tryz.prog 16 #[.slice B0 m0 c0] M K Kp := vw [] Tryz.func16 h
theorem pC {b0 o0 : Nat} {x1 : Int} {x2 : Int} (h :
aK (Mem.ld M ⟨b0, (o0 + 1), none⟩) .i64 fun n1 =>
az (Mem.ld M ⟨b0, o0, none⟩) fun A2 k3 k4 =>
aQ (decide ((n1 : Int) ≥ ((k3 : Nat) : Int)))
 (Kp [{ v := (.iface 240 (.agg #[])), recovered := false }] M)
 (aK (Mem.ld M ⟨b0, (o0 + 1), none⟩) .i64 fun n5 =>
 aN M ⟨b0, (o0 + 1), none⟩ (.int .i64 (IntKind.wrap .i64 (n5 + 1))) fun M6 =>
 az (Mem.ld M6 ⟨b0, o0, none⟩) fun A7 k8 k9 =>
 aK (Mem.ld M6 ⟨b0, (o0 + 1), none⟩) .i64 fun jN =>
 ((0 : Int) ≤ (IntKind.wrap .i64 (jN - 1))) ∧
 (((IntKind.wrap .i64 (jN - 1)) : Int) < ((k8 : Nat) : Int)) ∧
 aE A7 fun dL eU =>
 aK (Mem.ld M6 ⟨dL, (eU + (Int.toNat (IntKind.wrap .i64 (jN - 1)))), none⟩) .u64 fun hG =>
 (((IntKind.wrap .u64 x2) : Int) ≠ 0) ∧
 K (.int .u64 (Int.tmod hG (IntKind.wrap .u64 x2))) M6)) :
 aa Tryz.prog 59 ([.pointer (some ⟨b0, o0, none⟩), .int .i64 x1, .int .i64 x2] : List Value).toArray M K Kp :=
 bV (C := Cx) good [(1, .bQ [0, 1, 3, 7, 0, 16, 48, 112, 240, 511] (.step 0 (.step 1 (.step 2 (.step 4 (.step 5 (.step 6 (.step 3 (.step 7 (.step 8 (.step 9 .done))))))))))), (4, .bQ [0, 1, 3, 7, 0, 16, 48, 112, 240, 511, 1023, 0, 2048, 8191, 16383] (.step 0 (.step 1 (.step 2 (.step 4 (.step 5 (.step 6 (.step 11 (.step 12 (.step 3 (.step 7 (.step 8 (.step 9 (.step 10 (.step 13 (.step 14 .done))))))))))))))))] Tryz.func59 (by kernel_rfl) (by kernel_rfl) h
theorem zm {u0 : Value} (h :
aW M uh fun k1 M2 =>
aW M2 U5 fun k3 M4 =>
aW M4 uh fun k5 M6 =>
sT M6 k3 0 (iV 0) fun M7 =>
sT5 M7 k5 (iV 0) (iV 0) (iV 0) (iV 0) (.int .u64 0) fun j0 =>
aa Tryz.prog 116 #[u0, (.pointer (some ⟨k3, 0, none⟩)), (.pointer (some ⟨k5, 0, none⟩))] j0 (fun C7 jM =>
(C7 = (.tuple #[])) ∧
rI jM k3 0 fun gT =>
IA jM k5 0 fun jz fK g9 lF dZ =>
sT5 jM k1 (iV jz) (iV fK) (iV g9) (iV lF) (.int .u64 dZ) fun wU =>
IA wU k1 0 fun lX xC rM qi vT =>
K (.tuple #[(iV gT), (.agg #[(iV lX), (iV xC), (iV rM), (iV qi), (.int .u64 vT)])]) wU) Kp) :
 aa Tryz.prog 61 #[u0] M K Kp := vw [(3, .bQ [0, 0, 1, 7] (sy [0, 2, 1, 3] .done))] Tryz.func61 h
theorem s9 {b0 o0 : Nat} {x1 : Int} {x2 : Int} (h :
aK (Mem.ld M ⟨b0, (o0 + 1), none⟩) .i64 fun n1 =>
az (Mem.ld M ⟨b0, o0, none⟩) fun A2 k3 k4 =>
aQ (decide ((n1 : Int) ≥ ((k3 : Nat) : Int)))
 (Kp [{ v := (.iface 240 (.agg #[])), recovered := false }] M)
 (az (Mem.ld M ⟨b0, o0, none⟩) fun A5 k6 k7 =>
 aK (Mem.ld M ⟨b0, (o0 + 1), none⟩) .i64 fun n8 =>
 ((0 : Int) ≤ n8) ∧
 ((n8 : Int) < ((k6 : Nat) : Int)) ∧
 aE A5 fun k9 c6 =>
 aK (Mem.ld M ⟨k9, (c6 + ((Int.toNat n8) * 2)), none⟩) .i64 fun eO =>
 aK (Mem.ld M ⟨k9, ((c6 + ((Int.toNat n8) * 2)) + 1), none⟩) .u64 fun gy =>
 aW M (.cells #[(.int .i64 0), (.int .u64 0)] 95 (0, 0)) fun cY jM =>
 aN jM ⟨cY, 0, none⟩ (.int .i64 eO) fun rO =>
 aN rO ⟨cY, (0 + 1), none⟩ (.int .u64 gy) fun eB =>
 aK (Mem.ld eB ⟨cY, 0, none⟩) .i64 fun fK =>
 aQ (fK != x1)
  (aK (Mem.ld eB ⟨b0, (o0 + 1), none⟩) .i64 fun g9 =>
  aK (Mem.ld eB ⟨cY, 0, none⟩) .i64 fun lF =>
  aK (Mem.ld eB ⟨cY, (0 + 1), none⟩) .u64 fun dZ =>
  Kp [{ v := (.iface 97 (.agg #[(.int .i64 g9), (.int .i64 x1), (.int .i64 x2), (.int .i64 lF), (.int .u64 dZ)])), recovered := false }] eB)
  (aK (Mem.ld eB ⟨cY, (0 + 1), none⟩) .u64 fun jr =>
  aQ (decide ((jr : Int) ≥ (IntKind.wrap .u64 x2)))
   (aK (Mem.ld eB ⟨b0, (o0 + 1), none⟩) .i64 fun mP =>
   aK (Mem.ld eB ⟨cY, 0, none⟩) .i64 fun o6 =>
   aK (Mem.ld eB ⟨cY, (0 + 1), none⟩) .u64 fun Fh =>
   Kp [{ v := (.iface 97 (.agg #[(.int .i64 mP), (.int .i64 x1), (.int .i64 x2), (.int .i64 o6), (.int .u64 Fh)])), recovered := false }] eB)
   (aK (Mem.ld eB ⟨b0, (o0 + 1), none⟩) .i64 fun oA =>
   aN eB ⟨b0, (o0 + 1), none⟩ (.int .i64 (IntKind.wrap .i64 (oA + 1))) fun vj =>
   aK (Mem.ld vj ⟨cY, (0 + 1), none⟩) .u64 fun xC =>
   K (.int .u64 xC) vj)))) :
 aa Tryz.prog 198 ([.pointer (some ⟨b0, o0, none⟩), .int .i64 x1, .int .i64 x2] : List Value).toArray M K Kp :=
 bV (C := Cx) good [(1, .bQ [0, 1, 3, 7, 0, 16, 48, 112, 240, 511] (.step 0 (.step 1 (.step 2 (.step 4 (.step 5 (.step 6 (.step 3 (.step 7 (.step 8 (.step 9 .done))))))))))), (3, .bQ [0, 1, 3, 7, 0, 16, 48, 112, 255, 511, 0, 2047] (.step 0 (.step 1 (.step 2 (.step 4 (.step 5 (.step 6 (.step 3 (.step 7 (.step 8 (.step 9 (.step 10 (.step 11 .done))))))))))))), (5, .bQ [0, 1, 3, 7, 0, 0, 0, 127, 255, 511] (.step 0 (.step 1 (.step 2 (.step 4 (.step 5 (.step 3 (.step 6 (.step 7 (.step 8 (.step 9 .done)))))))))))] Tryz.func198 (by kernel_rfl) (by kernel_rfl) h
theorem pD {b0 o0 : Nat} {x1 : Int} {x2 : Int} (h :
fC (Mem.ld M ⟨b0, o0, none⟩) fun v1 =>
gf Cx v1 [(iV x1), (iV (if (1 : Int) > x2 then 1 else x2))] M (fun v2 M3 =>
aK (some v2) .u64 fun n4 =>
aW M3 KG fun k5 M6 =>
sT2 M6 k5 (iV x1) (.int .u64 n4) fun M8 =>
rS M8 b0 (o0 + 2) fun A9 c6 dL =>
rIU M8 k5 0 fun gy hG =>
aW M8 (cl [(iV gy), (.int .u64 hG)] 95) fun eX rO =>
aA 149 A9 c6 dL (some ⟨eX, 0, none⟩) 1 1 rO (fun My kY =>
az (some My) fun Ck gZ iM =>
sT kY b0 (o0 + 2) (.slice Ck gZ iM) fun jG =>
fC (Mem.ld jG ⟨b0, (o0 + 3), none⟩) fun AA =>
Ko AA fun t23 =>
aQ (!t23)
 (fC (Mem.ld jG ⟨b0, (o0 + 3), none⟩) fun MA =>
 rIU jG k5 0 fun oA lX =>
 gf Cx MA [(.agg #[(iV oA), (.int .u64 lX)])] jG (fun F7 oU =>
 (F7 = (.tuple #[])) ∧
 rU oU k5 1 fun qi =>
 K (iV (IntKind.wrap .i64 qi)) oU) Kp)
 (rU jG k5 1 fun vT =>
 K (iV (IntKind.wrap .i64 vT)) jG)) Kp) Kp) :
 aa Tryz.prog 107 #[.pointer (some ⟨b0, o0, none⟩), .int .i64 x1, .int .i64 x2] M K Kp := vw [(2, .bQ [0, 0, 2, 6, 14, 0, 32, 126, 255, 511, 1023] (sy [0, 1, 2, 3, 4, 5, 6, 7, 8, 9, 10] .done)), (4, .bQ [0, 1, 3, 7, 0, 31] (sy [0, 1, 2, 3, 4, 5] .done))] Tryz.func107 h
end Go.Proofs
namespace Go.Proofs
open Go.AF
set_option maxRecDepth 100000
variable {M : Mem} {K : Value → Mem → Prop} {Kp : List PanicEntry → Mem → Prop}
theorem Eo {x0 : Int} (h :
aa Tryz.prog 115 #[(iV x0)] M (fun v1 M2 =>
cv (some v1) fun A3 =>
aW M2 (cl [(iV (-1)), (.pointer A3)] 237) fun k4 M5 =>
K (.pointer (some ⟨k4, 0, none⟩)) M5) Kp) :
 aa Tryz.prog 57 #[.int .i64 x0] M K Kp := vw [] Tryz.func57 h
theorem ta {b0 o0 : Nat} {B1 : Option Addr} {m1 c1 : Nat} (h :
az (Mem.ld M ⟨b0, o0, none⟩) fun A1 k2 k3 =>
aX Tryz.prog (Go.Builtin.append_ #[36, 36] 36 #[(.slice A1 k2 k3), (.slice B1 m1 c1)]) M (fun v4 M5 =>
az (some v4) fun A6 k7 k8 =>
aN M5 ⟨b0, o0, none⟩ (.slice A6 k7 k8) fun M9 =>
K (.tuple #[]) M9) Kp) :
 aa Tryz.prog 58 ([.pointer (some ⟨b0, o0, none⟩), .slice B1 m1 c1] : List Value).toArray M K Kp :=
 bV (C := Cx) good [] Tryz.func58 (by kernel_rfl) (by kernel_rfl) h
theorem td {b0 o0 : Nat} (h :
rI M b0 o0 fun n1 =>
K (iV n1) M) :
 aa Tryz.prog 148 #[.pointer (some ⟨b0, o0, none⟩)] M K Kp := vw [] Tryz.func148 h
theorem tf {b0 o0 : Nat} (h :
rP M b0 (o0 + 1) fun A1 =>
aa Tryz.prog 194 #[(.pointer A1)] M (fun v2 M3 =>
az (some v2) fun A4 k5 k6 =>
K (.slice A4 k5 k6) M3) Kp) :
 aa Tryz.prog 162 #[.pointer (some ⟨b0, o0, none⟩)] M K Kp := vw [] Tryz.func162 h
theorem qx {b0 o0 : Nat} (h :
aW M (.cells #[] 3 (0, 0)) fun k1 M2 =>
az (Mem.ld M2 ⟨b0, o0, none⟩) fun A3 k4 k5 =>
aX Tryz.prog (Go.Builtin.append_ #[36, 36] 36 #[(.slice (some ⟨k1, 0, none⟩) 0 0), (.slice A3 k4 k5)]) M2 (fun v6 M7 =>
az (some v6) fun A8 k9 c6 =>
K (.slice A8 k9 c6) M7) Kp) :
 aa Tryz.prog 64 ([.pointer (some ⟨b0, o0, none⟩)] : List Value).toArray M K Kp :=
 bV (C := Cx) good [] Tryz.func64 (by kernel_rfl) (by kernel_rfl) h
theorem Gl {x0 : Int} (h :
aX Tryz.prog (Go.Instr.makeSlice 36 (iV (if (1024 : Int) < (if (1 : Int) > x0 then 1 else x0) then 1024 else (if (1 : Int) > x0 then 1 else x0))) (iV (if (1024 : Int) < (if (1 : Int) > x0 then 1 else x0) then 1024 else (if (1 : Int) > x0 then 1 else x0)))) M (fun v1 M2 =>
az (some v1) fun A3 k4 k5 =>
aW M2 (cl [(.slice A3 k4 k5), (iV 0), (iV 0)] 309) fun k6 M7 =>
K (.pointer (some ⟨k6, 0, none⟩)) M7) Kp) :
 aa Tryz.prog 115 #[.int .i64 x0] M K Kp := vw [] Tryz.func115 h
theorem vY {b0 o0 : Nat} (h :
rI M b0 (o0 + 2) fun n1 =>
∃ I2 : IT, (∃ k3, I2 k3 [(.slice none 0 0), (iV 0)] M) ∧
∀ (k4 : Nat) (_ : Nat → Value) (A6 : Option Addr) (k7 : Nat) (k8 : Nat) (n9 : Int) (fJ : Mem), (I2 k4 [(.slice A6 k7 k8), (iV n9)] fJ) → aQ (decide (n9 < n1))
 (rS fJ b0 o0 fun wV eU cY =>
 rI fJ b0 (o0 + 1) fun j5 =>
 rS fJ b0 o0 fun nS dK dS =>
 ((dK : Int) ≠ 0) ∧
 ((0 : Int) ≤ (Int.tmod (IntKind.wrap .i64 (j5 + n9)) (dK : Int))) ∧
 (((Int.tmod (IntKind.wrap .i64 (j5 + n9)) (dK : Int)) : Int) < (eU : Int)) ∧
 aE wV fun dx gZ =>
 rI fJ dx (gZ + (Int.toNat (Int.tmod (IntKind.wrap .i64 (j5 + n9)) (dK : Int)))) fun dZ =>
 aW fJ (cl [(iV dZ)] 3) fun eG cU =>
 aA 36 A6 k7 k8 (some ⟨eG, 0, none⟩) 1 1 cU (fun Wj j6 =>
 az (some Wj) fun SK lV oT =>
 ∃ ko : Nat, (ko < k4) ∧
 I2 ko [(.slice SK lV oT), (iV (IntKind.wrap .i64 (n9 + 1)))] j6) Kp)
 (K (.slice A6 k7 k8) fJ)) :
 aa Tryz.prog 194 #[.pointer (some ⟨b0, o0, none⟩)] M K Kp := vw [(2000000, .loop [(3, .c .sl), (9, .c (.int .i64))]), (5, .bQ [0, 0, 2, 6, 14, 0, 32, 96, 224, 0, 992, 0, 2048, 6144, 14336, 30720, 65504, 131070, 262142, 524286, 1048575, 2097151] (sy [0, 1, 2, 3, 5, 6, 7, 9, 11, 12, 13, 4, 8, 10, 14, 15, 16, 17, 18, 19, 20, 21] .done))] Tryz.func194 h
theorem uJ {b0 o0 : Nat} (h :
rI M b0 o0 fun n1 =>
aQ (n1 != (-1))
 (sT M b0 o0 (iV (-1)) fun M2 =>
 K (.tuple #[(iV n1), (.bool true)]) M2)
 (rP M b0 (o0 + 1) fun A3 =>
 aa Tryz.prog 177 #[(.pointer A3)] M (fun v4 M5 =>
 ∃ n6 : Int, ∃ t7 : Bool, (v4 = (.tuple #[(iV n6), (.bool t7)])) ∧
 aQ (!t7)
 (K (.tuple #[(iV (-1)), (.bool false)]) M5)
 (K (.tuple #[(iV n6), (.bool true)]) M5)) Kp)) :
 aa Tryz.prog 149 #[.pointer (some ⟨b0, o0, none⟩)] M K Kp := vw [] Tryz.func149 h
theorem jR {b0 o0 : Nat} {b1 o1 : Nat} (h :
Go.AF.ptrEq M (some ⟨b0, o0, none⟩) (some ⟨b1, o1, none⟩) fun t1 =>
aQ t1
 (K (.tuple #[(iV (-1)), (.bool false)]) M)
 (rP M b1 (o1 + 1) fun A2 =>
 aa Tryz.prog 181 #[(.pointer A2)] M (fun v3 M4 =>
 aK (some v3) .i64 fun n5 =>
 aQ (n5 == 0)
 (rI M4 b1 o1 fun n6 =>
 sT M4 b1 o1 (iV (-1)) fun M7 =>
 K (.tuple #[(iV n6), (.bool (n6 != (-1)))]) M7)
 (((2 : Int) ≠ 0) ∧
 rP M4 b0 (o0 + 1) fun A8 =>
 rP M4 b1 (o1 + 1) fun A9 =>
 rP M4 b0 (o0 + 1) fun vg =>
 aa Tryz.prog 183 #[(.pointer A8)] M4 (fun v11 j0 =>
 aK (some v11) .i64 fun hG =>
 ((Mem.ld j0 ⟨b0, (o0 + 1), none⟩) = (some (.pointer vg))) ∧
 ((Mem.ld j0 ⟨b1, (o1 + 1), none⟩) = (some (.pointer A9))) ∧
 aa Tryz.prog 181 #[(.pointer vg)] j0 (fun Wr rO =>
 aK (some Wr) .i64 fun jz =>
 ((Mem.ld rO ⟨b0, (o0 + 1), none⟩) = (some (.pointer vg))) ∧
 ((Mem.ld rO ⟨b1, (o1 + 1), none⟩) = (some (.pointer A9))) ∧
 aa Tryz.prog 182 #[(.pointer A9), (iV (if ((IntKind.wrap .i64 ((IntKind.wrap .i64 (hG - jz)) + 1)) : Int) < (IntKind.wrap .i64 (n5 - (IntKind.wrap .i64 (Int.tdiv n5 2)))) then (IntKind.wrap .i64 ((IntKind.wrap .i64 (hG - jz)) + 1)) else (IntKind.wrap .i64 (n5 - (IntKind.wrap .i64 (Int.tdiv n5 2))))))] rO (fun Wq nU =>
 az (some Wq) fun Cd iM eG =>
 ((Mem.ld nU ⟨b0, (o0 + 1), none⟩) = (some (.pointer vg))) ∧
 ((Mem.ld nU ⟨b1, (o1 + 1), none⟩) = (some (.pointer A9))) ∧
 ((0 : Int) ≤ eG) ∧
 ((eG : Int) ≤ eG) ∧
 ((0 : Int) ≤ iM) ∧
 ((iM : Int) ≤ eG) ∧
 ((0 : Int) ≤ 1) ∧
 ((1 : Int) ≤ iM) ∧
 ∃ I22 : IT, (∃ iI, I22 iI [(iV 0)] nU) ∧
 ∀ (kC : Nat) (_ : Nat → Value) (lX : Int) (pN : Mem), (I22 kC [(iV lX)] pN) → aQ (decide ((lX : Int) < ((((Int.toNat (iM : Int)) - 1) : Nat) : Int)))
 ((0 ≤ lX) ∧
 ((lX : Int) < ((((Int.toNat (iM : Int)) - 1) : Nat) : Int)) ∧
 aE (kx Cd 1 (Int.toNat (eG : Int)) 1) fun ko nT =>
 rI pN ko (nT + (Int.toNat lX)) fun vT =>
 rP pN b0 (o0 + 1) fun Db =>
 aa Tryz.prog 184 #[(.pointer Db), (iV vT)] pN (fun v32 xw =>
 dH (some v32) fun t34 =>
 ∃ yH : Nat, (yH < kC) ∧
 I22 yH [(iV (IntKind.wrap .i64 (lX + 1)))] xw) Kp)
 (((0 : Int) ≤ 0) ∧
 ((0 : Int) < iM) ∧
 aE Cd fun Ga pg =>
 rI pN Ga (pg + 0) fun Cc =>
 K (.tuple #[(iV Cc), (.bool true)]) pN)) Kp) Kp) Kp)) Kp)) :
 aa Tryz.prog 151 #[.pointer (some ⟨b0, o0, none⟩), .pointer (some ⟨b1, o1, none⟩)] M K Kp := vw [(8, .bQ [0, 1, 3, 7, 0, 0, 32, 112, 0, 256, 768, 1792, 3840, 0, 8192, 24576, 57344, 130816, 261888, 524032, 1048560, 2097151, 4194303] (sy [0, 1, 2, 4, 5, 6, 7, 8, 9, 10, 13, 14, 15, 11] (.cE 3 (.cE 16 (sy [12, 17, 18, 19, 20, 21, 22] .done))))), (2000000, .loop [(56, .c (.int .i64))])] Tryz.func151 h
theorem qy {b0 o0 : Nat} {x1 : Int} {b2 o2 : Nat} (h :
rI M b0 o0 fun n1 =>
sT M b0 o0 (iV x1) fun M2 =>
aQ (n1 == (-1))
 (K (iV 0) M2)
 (aa Tryz.prog 185 #[(.pointer (some ⟨b0, o0, none⟩)), (iV n1), (.pointer (some ⟨b2, o2, none⟩))] M2 (fun v3 M4 =>
 aK (some v3) .i64 fun n5 =>
 K (iV n5) M4) Kp)) :
 aa Tryz.prog 152 #[.pointer (some ⟨b0, o0, none⟩), .int .i64 x1, .pointer (some ⟨b2, o2, none⟩)] M K Kp := vw [] Tryz.func152 h
theorem xF {b0 o0 : Nat} (h :
rI M b0 (o0 + 2) fun n1 =>
aQ (n1 == 0)
 (K (.tuple #[(iV 0), (.bool false)]) M)
 (rS M b0 o0 fun A2 k3 k4 =>
 rI M b0 (o0 + 1) fun n5 =>
 (0 ≤ n5) ∧
 (n5 < k3) ∧
 aE A2 fun k6 k7 =>
 rI M k6 (k7 + (Int.toNat n5)) fun n8 =>
 rI M b0 (o0 + 1) fun n9 =>
 rS M b0 o0 fun vg dL eU =>
 ((dL : Int) ≠ 0) ∧
 sT M b0 (o0 + 1) (iV (Int.tmod (IntKind.wrap .i64 (n9 + 1)) (dL : Int))) fun jl =>
 rI jl b0 (o0 + 2) fun j5 =>
 sT jl b0 (o0 + 2) (iV (IntKind.wrap .i64 (j5 - 1))) fun rO =>
 K (.tuple #[(iV n8), (.bool true)]) rO)) :
 aa Tryz.prog 177 #[.pointer (some ⟨b0, o0, none⟩)] M K Kp := vw [(3, .bQ [0, 1, 3, 7, 0, 16, 48, 112, 255, 511, 1023] (sy [0, 1, 2, 4, 5, 6, 3, 7, 8, 9, 10] .done)), (4, .bQ [0, 0, 2, 6, 14, 30, 0, 64, 192, 448, 960, 2046, 4095, 8191, 16383] (sy [0, 1, 2, 3, 6, 7, 8, 4, 5, 9, 10, 11, 12, 13, 14] .done))] Tryz.func177 h
theorem tg {b0 o0 : Nat} {b1 o1 : Nat} (h :
rI M b0 o0 fun n1 =>
aQ (n1 == (-1))
 (K (iV 0) M)
 (sT M b0 o0 (iV (-1)) fun M2 =>
 aa Tryz.prog 185 #[(.pointer (some ⟨b0, o0, none⟩)), (iV n1), (.pointer (some ⟨b1, o1, none⟩))] M2 (fun v3 M4 =>
 aK (some v3) .i64 fun n5 =>
 K (iV n5) M4) Kp)) :
 aa Tryz.prog 178 #[.pointer (some ⟨b0, o0, none⟩), .pointer (some ⟨b1, o1, none⟩)] M K Kp := vw [] Tryz.func178 h
theorem qz {b0 o0 : Nat} {x1 : Int} (h :
az (Mem.ld M ⟨b0, o0, none⟩) fun A1 k2 k3 =>
aW M (.cells #[] 3 (0, 0)) fun k4 M5 =>
az (Mem.ld M5 ⟨b0, o0, none⟩) fun A6 k7 k8 =>
((0 : Int) ≤ ((k8 : Nat) : Int)) ∧
((((k8 : Nat) : Int) : Int) ≤ ((k8 : Nat) : Int)) ∧
((0 : Int) ≤ (if (((k2 : Nat) : Int) : Int) < (if (0 : Int) > x1 then 0 else x1) then ((k2 : Nat) : Int) else (if (0 : Int) > x1 then 0 else x1))) ∧
(((if (((k2 : Nat) : Int) : Int) < (if (0 : Int) > x1 then 0 else x1) then ((k2 : Nat) : Int) else (if (0 : Int) > x1 then 0 else x1)) : Int) ≤ ((k8 : Nat) : Int)) ∧
((0 : Int) ≤ 0) ∧
((0 : Int) ≤ (if (((k2 : Nat) : Int) : Int) < (if (0 : Int) > x1 then 0 else x1) then ((k2 : Nat) : Int) else (if (0 : Int) > x1 then 0 else x1))) ∧
aX Tryz.prog (Go.Builtin.append_ #[36, 36] 36 #[(.slice (some ⟨k4, 0, none⟩) 0 0), (.slice (kx A6 0 (Int.toNat ((k8 : Nat) : Int)) 1) ((Int.toNat (if (((k2 : Nat) : Int) : Int) < (if (0 : Int) > x1 then 0 else x1) then ((k2 : Nat) : Int) else (if (0 : Int) > x1 then 0 else x1))) - 0) ((Int.toNat ((k8 : Nat) : Int)) - 0))]) M5 (fun v9 fJ =>
az (some v9) fun wV eU cY =>
aW fJ (.cells #[] 3 (0, 0)) fun eX rO =>
az (Mem.ld rO ⟨b0, o0, none⟩) fun KU dS dx =>
((0 : Int) ≤ ((dx : Nat) : Int)) ∧
((((dx : Nat) : Int) : Int) ≤ ((dx : Nat) : Int)) ∧
((0 : Int) ≤ ((dS : Nat) : Int)) ∧
((((dS : Nat) : Int) : Int) ≤ ((dx : Nat) : Int)) ∧
((0 : Int) ≤ (if (((k2 : Nat) : Int) : Int) < (if (0 : Int) > x1 then 0 else x1) then ((k2 : Nat) : Int) else (if (0 : Int) > x1 then 0 else x1))) ∧
(((if (((k2 : Nat) : Int) : Int) < (if (0 : Int) > x1 then 0 else x1) then ((k2 : Nat) : Int) else (if (0 : Int) > x1 then 0 else x1)) : Int) ≤ ((dS : Nat) : Int)) ∧
aX Tryz.prog (Go.Builtin.append_ #[36, 36] 36 #[(.slice (some ⟨eX, 0, none⟩) 0 0), (.slice (kx KU (Int.toNat (if (((k2 : Nat) : Int) : Int) < (if (0 : Int) > x1 then 0 else x1) then ((k2 : Nat) : Int) else (if (0 : Int) > x1 then 0 else x1))) (Int.toNat ((dx : Nat) : Int)) 1) ((Int.toNat ((dS : Nat) : Int)) - (Int.toNat (if (((k2 : Nat) : Int) : Int) < (if (0 : Int) > x1 then 0 else x1) then ((k2 : Nat) : Int) else (if (0 : Int) > x1 then 0 else x1)))) ((Int.toNat ((dx : Nat) : Int)) - (Int.toNat (if (((k2 : Nat) : Int) : Int) < (if (0 : Int) > x1 then 0 else x1) then ((k2 : Nat) : Int) else (if (0 : Int) > x1 then 0 else x1)))))]) rO (fun Gg kX =>
az (some Gg) fun xB g6 iI =>
aN kX ⟨b0, o0, none⟩ (.slice xB g6 iI) fun j6 =>
K (.slice wV eU cY) j6) Kp) Kp) :
 aa Tryz.prog 179 ([.pointer (some ⟨b0, o0, none⟩), .int .i64 x1] : List Value).toArray M K Kp :=
 bV (C := Cx) good [] Tryz.func179 (by kernel_rfl) (by kernel_rfl) h
theorem qA {b0 o0 : Nat} {b1 o1 : Nat} {x2 : Int} (h :
rP M b0 (o0 + 1) fun A1 =>
rP M b0 (o0 + 1) fun A2 =>
aa Tryz.prog 202 #[(.pointer (some ⟨b1, o1, none⟩))] M (fun v3 M4 =>
aK (some v3) .i64 fun n5 =>
((Mem.ld M4 ⟨b0, (o0 + 1), none⟩) = (some (.pointer A2))) ∧
((Mem.ld M4 ⟨b0, (o0 + 1), none⟩) = (some (.pointer A1))) ∧
(((if (1 : Int) > x2 then 1 else x2) : Int) ≠ 0) ∧
aa Tryz.prog 183 #[(.pointer A1)] M4 (fun v6 M7 =>
aK (some v6) .i64 fun n8 =>
((Mem.ld M7 ⟨b0, (o0 + 1), none⟩) = (some (.pointer A2))) ∧
((Mem.ld M7 ⟨b0, (o0 + 1), none⟩) = (some (.pointer A1))) ∧
aa Tryz.prog 181 #[(.pointer A2)] M7 (fun v9 fJ =>
aK (some v9) .i64 fun eO =>
((Mem.ld fJ ⟨b0, (o0 + 1), none⟩) = (some (.pointer A2))) ∧
((Mem.ld fJ ⟨b0, (o0 + 1), none⟩) = (some (.pointer A1))) ∧
aQ (decide ((x2 : Int) < 1))
 (aa Tryz.prog 179 #[(.pointer (some ⟨b1, o1, none⟩)), (iV 1)] fJ (fun zL jl =>
 az (some zL) fun jo gj dK =>
 aQ ((gj : Int) == 0)
 (K (.tuple #[(iV (-1)), (.bool false)]) jl)
 (((0 : Int) ≤ dK) ∧
 ((dK : Int) ≤ dK) ∧
 ((0 : Int) ≤ gj) ∧
 ((gj : Int) ≤ dK) ∧
 ((0 : Int) ≤ 1) ∧
 ((1 : Int) ≤ gj) ∧
 ∃ WC : IT, (∃ dx, WC dx [(iV 0)] jl) ∧
 ∀ (gZ : Nat) (_ : Nat → Value) (jr : Int) (cU : Mem), (WC gZ [(iV jr)] cU) → aQ (decide ((jr : Int) < ((((Int.toNat (gj : Int)) - 1) : Nat) : Int)))
 ((0 ≤ jr) ∧
 ((jr : Int) < ((((Int.toNat (gj : Int)) - 1) : Nat) : Int)) ∧
 aE (kx jo 1 (Int.toNat (dK : Int)) 1) fun iI kC =>
 rI cU iI (kC + (Int.toNat jr)) fun oA =>
 rP cU b0 (o0 + 1) fun HY =>
 aa Tryz.prog 184 #[(.pointer HY), (iV oA)] cU (fun F7 oU =>
 dH (some F7) fun t29 =>
 ∃ kZ : Nat, (kZ < gZ) ∧
 WC kZ [(iV (IntKind.wrap .i64 (jr + 1)))] oU) Kp)
 (((0 : Int) ≤ 0) ∧
 ((0 : Int) < gj) ∧
 aE jo fun lZ nO =>
 rI cU lZ (nO + 0) fun rL =>
 K (.tuple #[(iV rL), (.bool true)]) cU))) Kp)
 (aa Tryz.prog 179 #[(.pointer (some ⟨b1, o1, none⟩)), (iV (if ((IntKind.wrap .i64 ((IntKind.wrap .i64 (n8 - eO)) + 1)) : Int) < (IntKind.wrap .i64 ((IntKind.wrap .i64 (Int.tdiv n5 (if (1 : Int) > x2 then 1 else x2))) + 1)) then (IntKind.wrap .i64 ((IntKind.wrap .i64 (n8 - eO)) + 1)) else (IntKind.wrap .i64 ((IntKind.wrap .i64 (Int.tdiv n5 (if (1 : Int) > x2 then 1 else x2))) + 1))))] fJ (fun v34 rQ =>
 az (some v34) fun Fj pg gm =>
 aQ ((pg : Int) == 0)
 (K (.tuple #[(iV (-1)), (.bool false)]) rQ)
 (((0 : Int) ≤ gm) ∧
 ((gm : Int) ≤ gm) ∧
 ((0 : Int) ≤ pg) ∧
 ((pg : Int) ≤ gm) ∧
 ((0 : Int) ≤ 1) ∧
 ((1 : Int) ≤ pg) ∧
 ∃ I39 : IT, (∃ xq, I39 xq [(iV 0)] rQ) ∧
 ∀ (AD : Nat) (_ : Nat → Value) (BW : Int) (zk : Mem), (I39 AD [(iV BW)] zk) → aQ (decide ((BW : Int) < ((((Int.toNat (pg : Int)) - 1) : Nat) : Int)))
 ((0 ≤ BW) ∧
 ((BW : Int) < ((((Int.toNat (pg : Int)) - 1) : Nat) : Int)) ∧
 aE (kx Fj 1 (Int.toNat (gm : Int)) 1) fun II Fe =>
 rI zk II (Fe + (Int.toNat BW)) fun wT =>
 rP zk b0 (o0 + 1) fun Oc =>
 aa Tryz.prog 184 #[(.pointer Oc), (iV wT)] zk (fun Mu zO =>
 dH (some Mu) fun t51 =>
 ∃ um : Nat, (um < AD) ∧
 I39 um [(iV (IntKind.wrap .i64 (BW + 1)))] zO) Kp)
 (((0 : Int) ≤ 0) ∧
 ((0 : Int) < pg) ∧
 aE Fj fun uo Pg =>
 rI zk uo (Pg + 0) fun n55 =>
 K (.tuple #[(iV n55), (.bool true)]) zk))) Kp)) Kp) Kp) Kp) :
 aa Tryz.prog 180 #[.pointer (some ⟨b0, o0, none⟩), .pointer (some ⟨b1, o1, none⟩), .int .i64 x2] M K Kp := vw [(1, .bQ [0, 1, 0, 4, 15, 31, 0, 64, 192, 448, 963, 0, 2048, 6144, 14336, 32707, 65475, 131011, 262143, 524287] (sy [0, 2, 3, 6, 7, 8, 11, 12, 13] (.cE 9 (.cE 14 (sy [1, 4, 5, 10, 15, 16, 17, 18, 19] .done))))), (2000000, .loop [(42, .c (.int .i64))])] Tryz.func180 h
theorem xG {b0 o0 : Nat} (h :
rI M b0 (o0 + 2) fun n1 =>
K (iV n1) M) :
 aa Tryz.prog 181 #[.pointer (some ⟨b0, o0, none⟩)] M K Kp := vw [] Tryz.func181 h
theorem vZ {b0 o0 : Nat} {x1 : Int} (h :
∃ I1 : IT, (∃ k2, I1 k2 [(.slice none 0 0)] M) ∧
∀ (k3 : Nat) (_ : Nat → Value) (A5 : Option Addr) (k6 : Nat) (k7 : Nat) (M8 : Mem), (I1 k3 [(.slice A5 k6 k7)] M8) → aQ (decide ((k6 : Int) < x1))
 (aa Tryz.prog 177 #[(.pointer (some ⟨b0, o0, none⟩))] M8 (fun v9 fJ =>
 ∃ eO : Int, ∃ t12 : Bool, (v9 = (.tuple #[(iV eO), (.bool t12)])) ∧
 aQ (!t12)
 (K (.slice A5 k6 k7) fJ)
 (aW fJ (cl [(iV eO)] 3) fun cY jM =>
 aA 36 A5 k6 k7 (some ⟨cY, 0, none⟩) 1 1 jM (fun vK eB =>
 az (some vK) fun Ed dx gZ =>
 ∃ iM : Nat, (iM < k3) ∧
 I1 iM [(.slice Ed dx gZ)] eB) Kp)) Kp)
 (K (.slice A5 k6 k7) M8)) :
 aa Tryz.prog 182 #[.pointer (some ⟨b0, o0, none⟩), .int .i64 x1] M K Kp := vw [(2000000, .loop [(5, .c .sl)])] Tryz.func182 h
theorem wc {b0 o0 : Nat} (h :
rS M b0 o0 fun A1 k2 k3 =>
K (iV (k2 : Int)) M) :
 aa Tryz.prog 183 #[.pointer (some ⟨b0, o0, none⟩)] M K Kp := vw [] Tryz.func183 h
theorem we {b0 o0 : Nat} {x1 : Int} (h :
rI M b0 (o0 + 2) fun n1 =>
rS M b0 o0 fun A2 k3 k4 =>
aQ (n1 == (k3 : Int))
 (K (.bool false) M)
 (rS M b0 o0 fun A5 k6 k7 =>
 rI M b0 (o0 + 1) fun n8 =>
 rI M b0 (o0 + 2) fun n9 =>
 rS M b0 o0 fun vg dL eU =>
 ((dL : Int) ≠ 0) ∧
 ((0 : Int) ≤ (Int.tmod (IntKind.wrap .i64 (n8 + n9)) (dL : Int))) ∧
 (((Int.tmod (IntKind.wrap .i64 (n8 + n9)) (dL : Int)) : Int) < (k6 : Int)) ∧
 aE A5 fun cY eX =>
 sT M cY (eX + (Int.toNat (Int.tmod (IntKind.wrap .i64 (n8 + n9)) (dL : Int)))) (iV x1) fun rO =>
 rI rO b0 (o0 + 2) fun jz =>
 sT rO b0 (o0 + 2) (iV (IntKind.wrap .i64 (jz + 1))) fun kY =>
 K (.bool true) kY)) :
 aa Tryz.prog 184 #[.pointer (some ⟨b0, o0, none⟩), .int .i64 x1] M K Kp := vw [(1, .bQ [0, 1, 3, 7, 0, 16, 48, 112, 240, 511] (sy [0, 1, 2, 4, 5, 6, 3, 7, 8, 9] .done)), (3, .bQ [0, 1, 3, 7, 0, 16, 48, 112, 0, 256, 768, 1792, 4080, 0, 8192, 24576, 57344, 122880, 262128, 0, 1048575, 2097151] (sy [0, 1, 2, 4, 5, 6, 8, 9, 10, 13, 14, 15, 19, 3, 7, 11, 12, 16, 17, 18, 20, 21] .done))] Tryz.func184 h
theorem uK {b0 o0 : Nat} {x1 : Int} {b2 o2 : Nat} (h :
rP M b0 (o0 + 1) fun A1 =>
aa Tryz.prog 184 #[(.pointer A1), (iV x1)] M (fun v2 M3 =>
dH (some v2) fun t4 =>
aQ t4
 (K (iV 0) M3)
 (rP M3 b0 (o0 + 1) fun A5 =>
 rP M3 b0 (o0 + 1) fun A6 =>
 (True) ∧
 aa Tryz.prog 181 #[(.pointer A5)] M3 (fun v7 M8 =>
 aK (some v7) .i64 fun n9 =>
 ((Mem.ld M8 ⟨b0, (o0 + 1), none⟩) = (some (.pointer A6))) ∧
 ((2 : Int) ≠ 0) ∧
 (True) ∧
 aa Tryz.prog 182 #[(.pointer A6), (iV (IntKind.wrap .i64 (Int.tdiv n9 2)))] M8 (fun v10 ir =>
 az (some v10) fun ur cY eX =>
 ((Mem.ld ir ⟨b0, (o0 + 1), none⟩) = (some (.pointer A6))) ∧
 aW ir (cl [(iV x1)] 3) fun gj eB =>
 aA 36 ur cY eX (some ⟨gj, 0, none⟩) 1 1 eB (fun Wq nU =>
 az (some Wq) fun Cd iM eG =>
 ((Mem.ld nU ⟨b0, (o0 + 1), none⟩) = (some (.pointer A6))) ∧
 aa Tryz.prog 58 #[(.pointer (some ⟨b2, o2, none⟩)), (.slice Cd iM eG)] nU (fun AA gQ =>
 (AA = (.tuple #[])) ∧
 K (iV (iM : Int)) gQ) Kp) Kp) Kp) Kp)) Kp) :
 aa Tryz.prog 185 #[.pointer (some ⟨b0, o0, none⟩), .int .i64 x1, .pointer (some ⟨b2, o2, none⟩)] M K Kp := vw [(3, .bQ [0, 1, 3, 7, 0, 16, 48, 112, 240, 496, 1023, 0, 2048, 8191, 16383] (sy [0, 1, 2, 4, 5, 6, 11, 7] (.cE 3 (.late 8 (sy [9] (.late 10 (sy [12, 13, 14] .done)))))))] Tryz.func185 h
theorem th {b0 o0 : Nat} (h :
az (Mem.ld M ⟨b0, o0, none⟩) fun A1 k2 k3 =>
K (.int .i64 ((k2 : Nat) : Int)) M) :
 aa Tryz.prog 202 ([.pointer (some ⟨b0, o0, none⟩)] : List Value).toArray M K Kp :=
 bV (C := Cx) good [] Tryz.func202 (by kernel_rfl) (by kernel_rfl) h
end Go.Proofs
namespace Go.Proofs
open Go.AF
set_option maxRecDepth 100000
variable {M : Mem} {K : Value → Mem → Prop} {Kp : List PanicEntry → Mem → Prop}
theorem Ep {lI : Option Addr} {lJ lK : Nat} {jO : Option Addr} {jP jQ : Nat} {gk : Int} {lM : Option Addr} {lN lO : Nat} {cQ : Int} {cR : Int} {cT : Int} {eJ : Int} {b2 o2 : Nat} (h :
aW M (cl [(.slice lI lJ lK), (.slice jO jP jQ), (iV gk), (.slice lM lN lO)] 39) fun k1 M2 =>
aW M2 (cl [(iV cQ), (iV cR), (iV cT), (iV eJ)] 29) fun k3 M4 =>
tP M4 k1 0 fun A5 k6 k7 A8 k9 c6 eO ur cY eX =>
bN M4 k3 0 fun gT jz fK g9 =>
aa Tryz.prog 56 #[(.agg #[(.slice A5 k6 k7), (.slice A8 k9 c6), (iV eO), (.slice ur cY eX)])] M4 (fun Gg kX =>
cv (some Gg) fun xB =>
((Mem.gd kX ⟨k3, 0, none⟩ 0 4) = some [(iV gT), (iV jz), (iV fK), (iV g9)]) ∧
aW kX (cl [(.pointer xB), (iV gT), (iV jz), (iV fK), (iV g9), (.slice none 0 0), (.slice none 0 0), (.slice none 0 0), (.pointer (some ⟨b2, o2, none⟩)), (iV 0)] 137) fun g6 gQ =>
rI gQ k3 0 fun Fh =>
∃ WD : IT, (∃ lV, WD lV [(iV 0)] gQ) ∧
∀ (oT : Nat) (_ : Nat → Value) (qi : Int) (kW : Mem), (WD oT [(iV qi)] kW) → aQ (decide (qi < Fh))
 (∃ J31 : List Value → Mem → Prop, (rI kW k3 2 fun n32 =>
 (rS kW g6 5 fun F2 sq yH =>
 aa Tryz.prog 57 #[(iV n32)] kW (fun v36 yG =>
 cv (some v36) fun A38 =>
 aW yG (cl [(.pointer A38), (iV 0), (iV (-1))] 141) fun rK Wp =>
 aA 132 F2 sq yH (some ⟨rK, 0, none⟩) 1 1 Wp (fun v41 SQ =>
 az (some v41) fun A43 BX II =>
 sT SQ g6 5 (.slice A43 BX II) fun HX =>
 J31 [] HX) Kp) Kp) ∧
 (aa Tryz.prog 57 #[(iV n32)] kW (fun v47 Pd =>
 cv (some v47) fun WE =>
 rS Pd g6 5 fun A50 IZ um =>
 aW Pd (cl [(.pointer WE), (iV 0), (iV (-1))] 141) fun uo Ff =>
 aA 132 A50 IZ um (some ⟨uo, 0, none⟩) 1 1 Ff (fun Wh U9 =>
 az (some Wh) fun Va BY F3 =>
 sT U9 g6 5 (.slice Va BY F3) fun F4 =>
 J31 [] F4) Kp) Kp) ∧
 True) ∧
 ∀ junk61 : Nat → Value, ∀ wS : Mem, (J31 [] wS) → ∃ HW : Nat, (HW < oT) ∧
 WD HW [(iV (IntKind.wrap .i64 (qi + 1)))] wS)
 (rI kW k3 1 fun n64 =>
 ∃ I65 : IT, (∃ Ja, I65 Ja [(iV 0)] kW) ∧
 ∀ (xD : Nat) (_ : Nat → Value) (SX : Int) (KT : Mem), (I65 xD [(iV SX)] KT) → aQ (decide (SX < n64))
 (rS KT g6 6 fun WG Zs k73 =>
 aW KT (cl [(iV (-1)), (iV (-1)), (iV 0)] 143) fun Zt xH =>
 aA 133 WG Zs k73 (some ⟨Zt, 0, none⟩) 1 1 xH (fun v76 WB =>
 az (some v76) fun A78 SY Gk =>
 sT WB g6 6 (.slice A78 SY Gk) fun PD =>
 ∃ Gh : Nat, (Gh < xD) ∧
 I65 Gh [(iV (IntKind.wrap .i64 (SX + 1)))] PD) Kp)
 (aW KT U5 fun zQ SZ =>
 aa Tryz.prog 58 #[(.pointer (some ⟨g6, 7, none⟩)), (.slice (some ⟨zQ, 0, none⟩) 1 1)] SZ (fun v85 S0 =>
 (v85 = (.tuple #[])) ∧
 K (.pointer (some ⟨g6, 0, none⟩)) S0) Kp))) Kp) :
 aa Tryz.prog 15 #[.agg #[.slice lI lJ lK, .slice jO jP jQ, .int .i64 gk, .slice lM lN lO], .agg #[.int .i64 cQ, .int .i64 cR, .int .i64 cT, .int .i64 eJ], .pointer (some ⟨b2, o2, none⟩)] M K Kp := vw [(1, .bQ [0, 1, 0, 0, 15, 31, 63] (sy [3, 0] (.cE 2 (sy [1, 4, 5, 6] .done)))), (2000000, .loop [(16, .c (.int .i64))]), (4, .It [0, 0, 2, 6, 14, 0, 32, 96, 224, 480, 1022, 2047, 4095, 8191] (sy [0, 1, 2, 3, 5, 6] (.fork 4 (sy [7, 8, 9, 10, 11, 12, 13] .done) (.fork 7 (sy [8, 4, 9, 10, 11, 12, 13] .done) .dead))) []), (2000002, .loop [(34, .c (.int .i64))])] Tryz.func15 h
theorem l9 {b0 o0 : Nat} (h :
az (Mem.ld M ⟨b0, (o0 + 5), none⟩) fun A1 k2 k3 =>
∃ I4 : Nat → List Value → Mem → Prop, (∃ k5 : Nat, I4 k5 [(.slice none 0 0), (.int .i64 0)] M) ∧
∀ k6 : Nat, ∀ junk7 : Nat → Value, ∀ A8 : Option Addr, ∀ k9 : Nat, ∀ c6 : Nat, ∀ eO : Int, ∀ j0 : Mem, (I4 k6 [(.slice A8 k9 c6), (.int .i64 eO)] j0) → aQ (decide ((eO : Int) < ((k2 : Nat) : Int)))
 (((0 : Int) ≤ eO) ∧
 ((eO : Int) < ((k2 : Nat) : Int)) ∧
 aE A1 fun cY eX =>
 cv (Mem.ld j0 ⟨cY, (eX + ((Int.toNat eO) * 3)), none⟩) fun nS =>
 aK (Mem.ld j0 ⟨cY, ((eX + ((Int.toNat eO) * 3)) + 1), none⟩) .i64 fun jz =>
 aK (Mem.ld j0 ⟨cY, ((eX + ((Int.toNat eO) * 3)) + 2), none⟩) .i64 fun fK =>
 aW j0 (.cells #[(.pointer none), (.int .i64 0), (.int .i64 0)] 141 (0, 0)) fun dx iN =>
 aN iN ⟨dx, 0, none⟩ (.pointer nS) fun kX =>
 aN kX ⟨dx, (0 + 1), none⟩ (.int .i64 jz) fun jG =>
 aN jG ⟨dx, (0 + 2), none⟩ (.int .i64 fK) fun cU =>
 cv (Mem.ld cU ⟨dx, 0, none⟩) fun HR =>
 cv (Mem.ld cU ⟨dx, 0, none⟩) fun ze =>
 aK (Mem.ld cU ⟨dx, (0 + 1), none⟩) .i64 fun oA =>
 aK (Mem.ld cU ⟨dx, (0 + 2), none⟩) .i64 fun lX =>
 aa Tryz.prog 148 #[(.pointer HR)] cU (fun F7 oU =>
 aK (some F7) .i64 fun qi =>
 ((Mem.ld oU ⟨dx, (0 + 2), none⟩) = (some (.int .i64 lX))) ∧
 ((Mem.ld oU ⟨dx, (0 + 1), none⟩) = (some (.int .i64 oA))) ∧
 ((Mem.ld oU ⟨dx, 0, none⟩) = (some (.pointer ze))) ∧
 aa Tryz.prog 162 #[(.pointer ze)] oU (fun v30 KV =>
 az (some v30) fun Zu nQ sq =>
 ((Mem.ld KV ⟨dx, (0 + 2), none⟩) = (some (.int .i64 lX))) ∧
 ((Mem.ld KV ⟨dx, (0 + 1), none⟩) = (some (.int .i64 oA))) ∧
 ((Mem.ld KV ⟨dx, 0, none⟩) = (some (.pointer ze))) ∧
 aW KV (.cells #[(.int .i64 qi), (.slice Zu nQ sq), (.int .i64 oA), (.int .i64 lX)] 263 (0, 0)) fun yH Ee =>
 aX Tryz.prog (Go.Builtin.append_ #[264, 264] 264 #[(.slice A8 k9 c6), (.slice (some ⟨yH, 0, none⟩) 1 1)]) Ee (fun v37 lW =>
 az (some v37) fun HT xq AD =>
 ((Mem.ld lW ⟨dx, (0 + 2), none⟩) = (some (.int .i64 lX))) ∧
 ((Mem.ld lW ⟨dx, (0 + 1), none⟩) = (some (.int .i64 oA))) ∧
 ((Mem.ld lW ⟨dx, 0, none⟩) = (some (.pointer ze))) ∧
 ∃ HQ : Nat, (HQ < k6) ∧
 I4 HQ [(.slice HT xq AD), (.int .i64 (IntKind.wrap .i64 (eO + 1)))] lW) Kp) Kp) Kp)
 (K (.slice A8 k9 c6) j0)) :
 aa Tryz.prog 126 ([.pointer (some ⟨b0, o0, none⟩)] : List Value).toArray M K Kp :=
 bV (C := Cx) good [(2000000, .loop [(3, .c .sl), (11, .c (.int .i64))]), (5, .bQ [0, 0, 2, 6, 0, 16, 62, 0, 128, 0, 512, 2046, 4094, 8191, 16383] (.step 0 (.step 1 (.step 4 (.step 7 (.step 9 (.step 2 (.cE 5 (.cE 8 (.cE 10 (.step 3 (.step 6 (.step 11 (.step 12 (.step 13 (.step 14 .done))))))))))))))))] Tryz.func126 (by kernel_rfl) (by kernel_rfl) h
theorem nw {b0 o0 : Nat} (h :
az (Mem.ld M ⟨b0, (o0 + 6), none⟩) fun A1 k2 k3 =>
∃ I4 : Nat → List Value → Mem → Prop, (∃ k5 : Nat, I4 k5 [(.slice none 0 0), (.int .i64 0)] M) ∧
∀ k6 : Nat, ∀ junk7 : Nat → Value, ∀ A8 : Option Addr, ∀ k9 : Nat, ∀ c6 : Nat, ∀ eO : Int, ∀ j0 : Mem, (I4 k6 [(.slice A8 k9 c6), (.int .i64 eO)] j0) → aQ (decide ((eO : Int) < ((k2 : Nat) : Int)))
 (((0 : Int) ≤ eO) ∧
 ((eO : Int) < ((k2 : Nat) : Int)) ∧
 aE A1 fun cY eX =>
 aK (Mem.ld j0 ⟨cY, (eX + ((Int.toNat eO) * 3)), none⟩) .i64 fun gT =>
 aK (Mem.ld j0 ⟨cY, ((eX + ((Int.toNat eO) * 3)) + 1), none⟩) .i64 fun jz =>
 aK (Mem.ld j0 ⟨cY, ((eX + ((Int.toNat eO) * 3)) + 2), none⟩) .i64 fun fK =>
 aW j0 (.cells #[(.int .i64 0), (.int .i64 0), (.int .i64 0)] 143 (0, 0)) fun dx iN =>
 aN iN ⟨dx, 0, none⟩ (.int .i64 gT) fun kX =>
 aN kX ⟨dx, (0 + 1), none⟩ (.int .i64 jz) fun jG =>
 aN jG ⟨dx, (0 + 2), none⟩ (.int .i64 fK) fun cU =>
 aK (Mem.ld cU ⟨dx, 0, none⟩) .i64 fun o6 =>
 aK (Mem.ld cU ⟨dx, (0 + 1), none⟩) .i64 fun Fh =>
 aK (Mem.ld cU ⟨dx, (0 + 2), none⟩) .i64 fun oA =>
 aW cU (.cells #[(.int .i64 o6), (.int .i64 Fh), (.int .i64 oA)] 268 (0, 0)) fun lV pN =>
 aX Tryz.prog (Go.Builtin.append_ #[269, 269] 269 #[(.slice A8 k9 c6), (.slice (some ⟨lV, 0, none⟩) 1 1)]) pN (fun Pj kf =>
 az (some Pj) fun RR lZ nO =>
 ∃ nQ : Nat, (nQ < k6) ∧
 I4 nQ [(.slice RR lZ nO), (.int .i64 (IntKind.wrap .i64 (eO + 1)))] kf) Kp)
 (K (.slice A8 k9 c6) j0)) :
 aa Tryz.prog 129 ([.pointer (some ⟨b0, o0, none⟩)] : List Value).toArray M K Kp :=
 bV (C := Cx) good [(2000000, .loop [(3, .c .sl), (11, .c (.int .i64))])] Tryz.func129 (by kernel_rfl) (by kernel_rfl) h
theorem qB {b0 o0 : Nat} (h :
rP M b0 o0 fun A1 =>
K (.pointer A1) M) :
 aa Tryz.prog 18 #[.pointer (some ⟨b0, o0, none⟩)] M K Kp := vw [] Tryz.func18 h
theorem pE {b0 o0 : Nat} (h :
rP M b0 o0 fun A1 =>
aa Tryz.prog 28 #[(.pointer A1)] M (fun v2 M3 =>
∃ n4 n5 : Int, (v2 = (.tuple #[(iV n4), (iV n5)])) ∧
aQ (n4 == 1)
 (K (iV 1) M3)
 (aQ (n4 == 2)
 (K (iV 2) M3)
 (rP M3 b0 o0 fun A6 =>
 aa Tryz.prog 65 #[(.pointer A6)] M3 (fun v7 M8 =>
 dH (some v7) fun t9 =>
 aQ t9
 (K (iV 3) M8)
 (K (iV 0) M8)) Kp))) Kp) :
 aa Tryz.prog 22 #[.pointer (some ⟨b0, o0, none⟩)] M K Kp := vw [] Tryz.func22 h
theorem pF {b0 o0 : Nat} (h :
aa Tryz.prog 64 #[(.pointer (some ⟨b0, (o0 + 7), none⟩))] M (fun v1 M2 =>
az (some v1) fun A3 k4 k5 =>
K (.slice A3 k4 k5) M2) Kp) :
 aa Tryz.prog 20 #[.pointer (some ⟨b0, o0, none⟩)] M K Kp := vw [] Tryz.func20 h
theorem qC {b0 o0 : Nat} (h :
rI M b0 (o0 + 9) fun n1 =>
K (iV n1) M) :
 aa Tryz.prog 35 #[.pointer (some ⟨b0, o0, none⟩)] M K Kp := vw [] Tryz.func35 h
theorem tj {b0 o0 : Nat} (h :
aW M (.cells #[(.int .i64 0), (.int .i64 0), (.int .i64 0), (.slice none 0 0)] 43 (0, 0)) fun k1 M2 =>
aa Tryz.prog 22 #[(.pointer (some ⟨b0, o0, none⟩))] M2 (fun v3 M4 =>
aK (some v3) .i64 fun n5 =>
aQ (n5 != 0)
 (aN M4 ⟨k1, 0, none⟩ (.int .i64 0) fun M6 =>
 aN M6 ⟨k1, (0 + 1), none⟩ (.int .i64 0) fun M7 =>
 aN M7 ⟨k1, (0 + 2), none⟩ (.int .i64 0) fun M8 =>
 aN M8 ⟨k1, (0 + 3), none⟩ (.slice none 0 0) fun M9 =>
 aK (Mem.ld M9 ⟨k1, 0, none⟩) .i64 fun jN =>
 aK (Mem.ld M9 ⟨k1, (0 + 1), none⟩) .i64 fun eO =>
 aK (Mem.ld M9 ⟨k1, (0 + 2), none⟩) .i64 fun gy =>
 az (Mem.ld M9 ⟨k1, (0 + 3), none⟩) fun Dc eX gj =>
 K (.agg #[(.int .i64 jN), (.int .i64 eO), (.int .i64 gy), (.slice Dc eX gj)]) M9)
 (cv (Mem.ld M4 ⟨b0, (o0 + 8), none⟩) fun KU =>
 aK (Mem.ld M4 ⟨b0, ((o0 + 1) + 1), none⟩) .i64 fun fK =>
 aa Tryz.prog 107 #[(.pointer KU), (.int .i64 1), (.int .i64 (IntKind.wrap .i64 (fK + 1)))] M4 (fun AB iN =>
 aK (some AB) .i64 fun dZ =>
 aW iN (.cells #[(.int .i64 0), (.int .i64 0), (.int .i64 0), (.slice none 0 0)] 43 (0, 0)) fun eG cU =>
 aK (Mem.ld cU ⟨b0, ((o0 + 1) + 1), none⟩) .i64 fun o6 =>
 aQ (dZ == o6)
  (aa Tryz.prog 108 #[(.pointer (some ⟨b0, o0, none⟩))] cU (fun MA wU =>
  ∃ lX : Int, ∃ xC : Int, ∃ rM : Int, ∃ RQ : Option Addr, ∃ kZ : Nat, ∃ lZ : Nat, (MA = (.agg #[(.int .i64 lX), (.int .i64 xC), (.int .i64 rM), (.slice RQ kZ lZ)])) ∧
  aN wU ⟨eG, 0, none⟩ (.int .i64 lX) fun nk =>
  aN nk ⟨eG, (0 + 1), none⟩ (.int .i64 xC) fun xw =>
  aN xw ⟨eG, (0 + 2), none⟩ (.int .i64 rM) fun pb =>
  aN pb ⟨eG, (0 + 3), none⟩ (.slice RQ kZ lZ) fun rQ =>
  aK (Mem.ld rQ ⟨b0, (o0 + 9), none⟩) .i64 fun zj =>
  aN rQ ⟨b0, (o0 + 9), none⟩ (.int .i64 (IntKind.wrap .i64 (zj + 1))) fun yG =>
  aK (Mem.ld yG ⟨eG, 0, none⟩) .i64 fun Cc =>
  aK (Mem.ld yG ⟨eG, (0 + 1), none⟩) .i64 fun Ef =>
  aK (Mem.ld yG ⟨eG, (0 + 2), none⟩) .i64 fun IX =>
  az (Mem.ld yG ⟨eG, (0 + 3), none⟩) fun Wf HQ nR =>
  aN yG ⟨k1, 0, none⟩ (.int .i64 Cc) fun zk =>
  aN zk ⟨k1, (0 + 1), none⟩ (.int .i64 Ef) fun vk =>
  aN vk ⟨k1, (0 + 2), none⟩ (.int .i64 IX) fun HX =>
  aN HX ⟨k1, (0 + 3), none⟩ (.slice Wf HQ nR) fun sF =>
  aK (Mem.ld sF ⟨k1, 0, none⟩) .i64 fun Cl =>
  aK (Mem.ld sF ⟨k1, (0 + 1), none⟩) .i64 fun MD =>
  aK (Mem.ld sF ⟨k1, (0 + 2), none⟩) .i64 fun Pq =>
  az (Mem.ld sF ⟨k1, (0 + 3), none⟩) fun Wg um uo =>
  K (.agg #[(.int .i64 Cl), (.int .i64 MD), (.int .i64 Pq), (.slice Wg um uo)]) sF) Kp)
  (az (Mem.ld cU ⟨b0, (o0 + 6), none⟩) fun Zo Zp Oe =>
  ((0 : Int) ≤ dZ) ∧
  ((dZ : Int) < ((Zp : Nat) : Int)) ∧
  aE Zo fun AI BY =>
  aK (Mem.ld cU ⟨AI, (BY + ((Int.toNat dZ) * 3)), none⟩) .i64 fun F1 =>
  aQ (F1 == (-1))
   (aa Tryz.prog 109 #[(.pointer (some ⟨b0, o0, none⟩)), (.int .i64 dZ)] cU (fun v60 Dd =>
   ∃ Pw : Int, ∃ F5 : Int, ∃ n64 : Int, ∃ Vi : Option Addr, ∃ Ja : Nat, ∃ xD : Nat, (v60 = (.agg #[(.int .i64 Pw), (.int .i64 F5), (.int .i64 n64), (.slice Vi Ja xD)])) ∧
   aN Dd ⟨eG, 0, none⟩ (.int .i64 Pw) fun M68 =>
   aN M68 ⟨eG, (0 + 1), none⟩ (.int .i64 F5) fun RZ =>
   aN RZ ⟨eG, (0 + 2), none⟩ (.int .i64 n64) fun KT =>
   aN KT ⟨eG, (0 + 3), none⟩ (.slice Vi Ja xD) fun R7 =>
   aK (Mem.ld R7 ⟨b0, (o0 + 9), none⟩) .i64 fun Wn =>
   aN R7 ⟨b0, (o0 + 9), none⟩ (.int .i64 (IntKind.wrap .i64 (Wn + 1))) fun Fl =>
   aK (Mem.ld Fl ⟨eG, 0, none⟩) .i64 fun S1 =>
   aK (Mem.ld Fl ⟨eG, (0 + 1), none⟩) .i64 fun SM =>
   aK (Mem.ld Fl ⟨eG, (0 + 2), none⟩) .i64 fun F6 =>
   az (Mem.ld Fl ⟨eG, (0 + 3), none⟩) fun A77 RX SY =>
   aN Fl ⟨k1, 0, none⟩ (.int .i64 S1) fun En =>
   aN En ⟨k1, (0 + 1), none⟩ (.int .i64 SM) fun PD =>
   aN PD ⟨k1, (0 + 2), none⟩ (.int .i64 F6) fun M82 =>
   aN M82 ⟨k1, (0 + 3), none⟩ (.slice A77 RX SY) fun MB =>
   aK (Mem.ld MB ⟨k1, 0, none⟩) .i64 fun Ob =>
   aK (Mem.ld MB ⟨k1, (0 + 1), none⟩) .i64 fun HZ =>
   aK (Mem.ld MB ⟨k1, (0 + 2), none⟩) .i64 fun ME =>
   az (Mem.ld MB ⟨k1, (0 + 3), none⟩) fun A87 RY k89 =>
   K (.agg #[(.int .i64 Ob), (.int .i64 HZ), (.int .i64 ME), (.slice A87 RY k89)]) MB) Kp)
   (az (Mem.ld cU ⟨b0, (o0 + 6), none⟩) fun Zv B5 WH =>
   ((0 : Int) ≤ dZ) ∧
   ((dZ : Int) < ((B5 : Nat) : Int)) ∧
   aE Zv fun WI Wy =>
   aK (Mem.ld cU ⟨WI, ((Wy + ((Int.toNat dZ) * 3)) + 1), none⟩) .i64 fun Fg =>
   aQ (Fg == (-1))
    (aa Tryz.prog 110 #[(.pointer (some ⟨b0, o0, none⟩)), (.int .i64 dZ)] cU (fun v96 PC =>
    ∃ Zi : Int, ∃ R8 : Int, ∃ vM : Int, ∃ MF : Option Addr, ∃ I7 : Nat, ∃ nx : Nat, (v96 = (.agg #[(.int .i64 Zi), (.int .i64 R8), (.int .i64 vM), (.slice MF I7 nx)])) ∧
    aN PC ⟨eG, 0, none⟩ (.int .i64 Zi) fun WJ =>
    aN WJ ⟨eG, (0 + 1), none⟩ (.int .i64 R8) fun Cm =>
    aN Cm ⟨eG, (0 + 2), none⟩ (.int .i64 vM) fun S2 =>
    aN S2 ⟨eG, (0 + 3), none⟩ (.slice MF I7 nx) fun Er =>
    aK (Mem.ld Er ⟨b0, (o0 + 9), none⟩) .i64 fun zn =>
    aN Er ⟨b0, (o0 + 9), none⟩ (.int .i64 (IntKind.wrap .i64 (zn + 1))) fun vN =>
    aK (Mem.ld vN ⟨eG, 0, none⟩) .i64 fun IK =>
    aK (Mem.ld vN ⟨eG, (0 + 1), none⟩) .i64 fun Gm =>
    aK (Mem.ld vN ⟨eG, (0 + 2), none⟩) .i64 fun xu =>
    az (Mem.ld vN ⟨eG, (0 + 3), none⟩) fun A113 PE k115 =>
    aN vN ⟨k1, 0, none⟩ (.int .i64 IK) fun zo =>
    aN zo ⟨k1, (0 + 1), none⟩ (.int .i64 Gm) fun Jc =>
    aN Jc ⟨k1, (0 + 2), none⟩ (.int .i64 xu) fun oC =>
    aN oC ⟨k1, (0 + 3), none⟩ (.slice A113 PE k115) fun zp =>
    aK (Mem.ld zp ⟨k1, 0, none⟩) .i64 fun qD =>
    aK (Mem.ld zp ⟨k1, (0 + 1), none⟩) .i64 fun uL =>
    aK (Mem.ld zp ⟨k1, (0 + 2), none⟩) .i64 fun Jd =>
    az (Mem.ld zp ⟨k1, (0 + 3), none⟩) fun WK Es Et =>
    K (.agg #[(.int .i64 qD), (.int .i64 uL), (.int .i64 Jd), (.slice WK Es Et)]) zp) Kp)
    (aa Tryz.prog 111 #[(.pointer (some ⟨b0, o0, none⟩)), (.int .i64 dZ)] cU (fun WL S3 =>
    ∃ zq : Int, ∃ S4 : Int, ∃ S5 : Int, ∃ Gn : Option Addr, ∃ xI : Nat, ∃ MG : Nat, (WL = (.agg #[(.int .i64 zq), (.int .i64 S4), (.int .i64 S5), (.slice Gn xI MG)])) ∧
    aN S3 ⟨eG, 0, none⟩ (.int .i64 zq) fun Cn =>
    aN Cn ⟨eG, (0 + 1), none⟩ (.int .i64 S4) fun M135 =>
    aN M135 ⟨eG, (0 + 2), none⟩ (.int .i64 S5) fun M136 =>
    aN M136 ⟨eG, (0 + 3), none⟩ (.slice Gn xI MG) fun MH =>
    aK (Mem.ld MH ⟨b0, (o0 + 9), none⟩) .i64 fun S6 =>
    aN MH ⟨b0, (o0 + 9), none⟩ (.int .i64 (IntKind.wrap .i64 (S6 + 1))) fun Eu =>
    aK (Mem.ld Eu ⟨eG, 0, none⟩) .i64 fun n140 =>
    aK (Mem.ld Eu ⟨eG, (0 + 1), none⟩) .i64 fun n141 =>
    aK (Mem.ld Eu ⟨eG, (0 + 2), none⟩) .i64 fun WM =>
    az (Mem.ld Eu ⟨eG, (0 + 3), none⟩) fun A143 k144 k145 =>
    aN Eu ⟨k1, 0, none⟩ (.int .i64 n140) fun M146 =>
    aN M146 ⟨k1, (0 + 1), none⟩ (.int .i64 n141) fun M147 =>
    aN M147 ⟨k1, (0 + 2), none⟩ (.int .i64 WM) fun M148 =>
    aN M148 ⟨k1, (0 + 3), none⟩ (.slice A143 k144 k145) fun AO =>
    aK (Mem.ld AO ⟨k1, 0, none⟩) .i64 fun Je =>
    aK (Mem.ld AO ⟨k1, (0 + 1), none⟩) .i64 fun PF =>
    aK (Mem.ld AO ⟨k1, (0 + 2), none⟩) .i64 fun PG =>
    az (Mem.ld AO ⟨k1, (0 + 3), none⟩) fun WN Jf WO =>
    K (.agg #[(.int .i64 Je), (.int .i64 PF), (.int .i64 PG), (.slice WN Jf WO)]) AO) Kp)))) Kp)) Kp) :
 aa Tryz.prog 54 ([.pointer (some ⟨b0, o0, none⟩)] : List Value).toArray M K Kp :=
 bV (C := Cx) good [(3, .bQ [0, 1, 3, 7, 0, 16, 48, 112, 240, 496, 1023, 2047] (.step 0 (.step 1 (.step 2 (.step 4 (.step 5 (.step 6 (.step 7 (.step 3 (.step 8 (.step 9 (.step 10 (.step 11 .done)))))))))))))] Tryz.func54 (by kernel_rfl) (by kernel_rfl) h
theorem tp {b0 o0 : Nat} (h :
aW M C8 fun k1 M2 =>
rP M2 b0 o0 fun A3 =>
aa Tryz.prog 120 #[(.pointer A3)] M2 (fun v4 M5 =>
az (some v4) fun A6 k7 k8 =>
aa Tryz.prog 58 #[(.pointer (some ⟨b0, (o0 + 7), none⟩)), (.slice A6 k7 k8)] M5 (fun v9 fJ =>
(v9 = (.tuple #[])) ∧
kB fJ k1 (iV 1) (iV (-1)) (iV (-1)) (.slice A6 k7 k8) fun jM =>
O1 jM k1 0 fun gT jz fK Ck gZ iM =>
K (.agg #[(iV gT), (iV jz), (iV fK), (.slice Ck gZ iM)]) jM) Kp) Kp) :
 aa Tryz.prog 108 #[.pointer (some ⟨b0, o0, none⟩)] M K Kp := vw [] Tryz.func108 h
theorem tq {b0 o0 : Nat} {x1 : Int} (h :
aW M C8 fun k1 M2 =>
rS M2 b0 (o0 + 5) fun A3 k4 k5 =>
∃ I6 : IT, (∃ k7, I6 k7 [(iV 0)] M2) ∧
∀ (k8 : Nat) (_ : Nat → Value) (jN : Int) (ir : Mem), (I6 k8 [(iV jN)] ir) → aQ (decide (jN < k4))
 (rS ir b0 (o0 + 5) fun ur cY eX =>
 (0 ≤ jN) ∧
 (jN < cY) ∧
 aE ur fun gj dK =>
 rI ir gj ((dK + ((Int.toNat jN) * 3)) + 2) fun fK =>
 aQ (fK == (-1))
 (rS ir b0 (o0 + 5) fun Ck gZ iM =>
 rS ir b0 (o0 + 6) fun xB g6 iI =>
 (0 ≤ jN) ∧
 (jN < gZ) ∧
 aE Ck fun kC nj =>
 sT ir kC ((nj + ((Int.toNat jN) * 3)) + 2) (iV x1) fun vj =>
 ((0 : Int) ≤ x1) ∧
 ((x1 : Int) < g6) ∧
 aE xB fun oT ko =>
 sT vj oT (ko + ((Int.toNat x1) * 3)) (iV jN) fun kf =>
 kB kf k1 (iV 2) (iV x1) (iV (-1)) (.slice none 0 0) fun xw =>
 O1 xw k1 0 fun KS Ek zj Fk gm rK =>
 K (.agg #[(iV KS), (iV Ek), (iV zj), (.slice Fk gm rK)]) xw)
 (∃ xq : Nat, (xq < k8) ∧
 I6 xq [(iV (IntKind.wrap .i64 (jN + 1)))] ir))
 (sT ir k1 0 (iV 3) fun uw =>
 sT uw k1 1 (iV x1) fun SQ =>
 sT SQ k1 2 (iV (-1)) fun zP =>
 sT zP k1 3 (.slice none 0 0) fun zk =>
 O1 zk k1 0 fun vU BZ wT Oc RU KO =>
 K (.agg #[(iV vU), (iV BZ), (iV wT), (.slice Oc RU KO)]) zk)) :
 aa Tryz.prog 109 #[.pointer (some ⟨b0, o0, none⟩), .int .i64 x1] M K Kp := vw [(2000000, .loop [(11, .c (.int .i64))]), (5, .bQ [0, 1, 3, 7, 0, 0, 32, 96, 224, 0, 0, 0, 1535, 5631, 13823, 32767, 65535, 131071] (sy [0, 1, 2, 4, 5, 6, 7, 9, 10, 11, 3, 8, 12, 13, 14, 15, 16, 17] .done))] Tryz.func109 h
theorem tr {b0 o0 : Nat} {x1 : Int} (h :
aW M (.cells #[(.int .i64 0), (.int .i64 0), (.int .i64 0), (.slice none 0 0)] 43 (0, 0)) fun k1 M2 =>
az (Mem.ld M2 ⟨b0, (o0 + 5), none⟩) fun A3 k4 k5 =>
az (Mem.ld M2 ⟨b0, (o0 + 6), none⟩) fun A6 k7 k8 =>
((0 : Int) ≤ x1) ∧
((x1 : Int) < ((k7 : Nat) : Int)) ∧
aE A6 fun k9 c6 =>
aK (Mem.ld M2 ⟨k9, (c6 + ((Int.toNat x1) * 3)), none⟩) .i64 fun eO =>
((0 : Int) ≤ eO) ∧
((eO : Int) < ((k4 : Nat) : Int)) ∧
aE A3 fun eU cY =>
az (Mem.ld M2 ⟨b0, (o0 + 6), none⟩) fun jo gj dK =>
((0 : Int) ≤ x1) ∧
((x1 : Int) < ((gj : Nat) : Int)) ∧
aE jo fun dS dx =>
aK (Mem.ld M2 ⟨dS, ((dx + ((Int.toNat x1) * 3)) + 2), none⟩) .i64 fun lF =>
aQ (decide ((lF : Int) > 0))
 (cv (Mem.ld M2 ⟨eU, (cY + ((Int.toNat eO) * 3)), none⟩) fun Wo =>
 aa Tryz.prog 148 #[(.pointer Wo)] M2 (fun Py cU =>
 aK (some Py) .i64 fun o6 =>
 ∃ J24 : List Value → Mem → Prop, (aQ (o6 != (-1))
  (cv (Mem.ld cU ⟨eU, (cY + ((Int.toNat eO) * 3)), none⟩) fun SK =>
   az (Mem.ld cU ⟨b0, (o0 + 6), none⟩) fun HY oT ko =>
   aa Tryz.prog 149 #[(.pointer SK)] cU (fun IG kW =>
   ∃ tQ : Int, ∃ t32 : Bool, (IG = (.tuple #[(.int .i64 tQ), (.bool t32)])) ∧
   ((Mem.ld kW ⟨b0, (o0 + 6), none⟩) = (some (.slice HY oT ko))) ∧
   ((0 : Int) ≤ x1) ∧
   ((x1 : Int) < ((oT : Nat) : Int)) ∧
   aE HY fun nQ sq =>
   aN kW ⟨nQ, ((sq + ((Int.toNat x1) * 3)) + 1), none⟩ (.int .i64 tQ) fun rQ =>
   ((Mem.ld rQ ⟨b0, (o0 + 6), none⟩) = (some (.slice HY oT ko))) ∧
   az (Mem.ld rQ ⟨b0, (o0 + 6), none⟩) fun Fj pg gm =>
   ((0 : Int) ≤ x1) ∧
   ((x1 : Int) < ((pg : Nat) : Int)) ∧
   aE Fj fun rK xq =>
   aK (Mem.ld rQ ⟨rK, ((xq + ((Int.toNat x1) * 3)) + 1), none⟩) .i64 fun PI =>
   aN rQ ⟨k1, 0, none⟩ (.int .i64 4) fun SQ =>
   aN SQ ⟨k1, (0 + 1), none⟩ (.int .i64 x1) fun zP =>
   aN zP ⟨k1, (0 + 2), none⟩ (.int .i64 PI) fun zk =>
   aN zk ⟨k1, (0 + 3), none⟩ (.slice none 0 0) fun vk =>
   aK (Mem.ld vk ⟨k1, 0, none⟩) .i64 fun BZ =>
   aK (Mem.ld vk ⟨k1, (0 + 1), none⟩) .i64 fun wT =>
   aK (Mem.ld vk ⟨k1, (0 + 2), none⟩) .i64 fun Cl =>
   az (Mem.ld vk ⟨k1, (0 + 3), none⟩) fun WE KO IZ =>
   K (.agg #[(.int .i64 BZ), (.int .i64 wT), (.int .i64 Cl), (.slice WE KO IZ)]) vk) Kp)
  (J24 [] cU)) ∧
 ∀ junk52 : Nat → Value, ∀ I0 : Mem, (J24 [] I0) → aa Tryz.prog 150 #[(.pointer (some ⟨b0, o0, none⟩)), (.pointer (some ⟨eU, (cY + ((Int.toNat eO) * 3)), none⟩))] I0 (fun Jg l8 =>
 ∃ Gp : Int, ∃ t57 : Bool, (Jg = (.tuple #[(.int .i64 Gp), (.bool t57)])) ∧
 aQ (!t57)
  (aK (Mem.ld l8 ⟨b0, (o0 + 1), none⟩) .i64 fun KN =>
  ∃ WQ : List Value → Mem → Prop, (aQ (decide ((KN : Int) > 1))
   (cv (Mem.ld l8 ⟨b0, (o0 + 8), none⟩) fun A60 =>
    aK (Mem.ld l8 ⟨b0, (o0 + 1), none⟩) .i64 fun De =>
    aa Tryz.prog 107 #[(.pointer A60), (.int .i64 2), (.int .i64 De)] l8 (fun Pr zf =>
    aK (some Pr) .i64 fun n64 =>
    cv (Mem.ld zf ⟨eU, (cY + ((Int.toNat eO) * 3)), none⟩) fun Vi =>
    az (Mem.ld zf ⟨b0, (o0 + 5), none⟩) fun PJ xD KZ =>
    ((0 : Int) ≤ n64) ∧
    ((n64 : Int) < ((xD : Nat) : Int)) ∧
    aE PJ fun k69 KX =>
    cv (Mem.ld zf ⟨k69, (KX + ((Int.toNat n64) * 3)), none⟩) fun WG =>
    aa Tryz.prog 151 #[(.pointer Vi), (.pointer WG)] zf (fun v72 Fl =>
    ∃ S1 : Int, ∃ t75 : Bool, (v72 = (.tuple #[(.int .i64 S1), (.bool t75)])) ∧
    WQ [(.int .i64 5), (.int .i64 S1), (.bool t75)] Fl) Kp) Kp)
   (WQ [(.int .i64 4), (.int .i64 Gp), (.bool t57)] l8)) ∧
  ∀ WR : Nat → Value, ∀ zh : Int, ∀ AP : Int, ∀ t79 : Bool, ∀ En : Mem, (WQ [(.int .i64 zh), (.int .i64 AP), (.bool t79)] En) → aQ (!t79)
   (az (Mem.ld En ⟨b0, (o0 + 6), none⟩) fun Wv Gh zQ =>
   aN En ⟨eU, ((cY + ((Int.toNat eO) * 3)) + 2), none⟩ (.int .i64 (-1)) fun SZ =>
   ((0 : Int) ≤ x1) ∧
   ((x1 : Int) < ((Gh : Nat) : Int)) ∧
   aE Wv fun K0 PK =>
   aN SZ ⟨K0, (PK + ((Int.toNat x1) * 3)), none⟩ (.int .i64 (-1)) fun K3 =>
   aN K3 ⟨K0, ((PK + ((Int.toNat x1) * 3)) + 1), none⟩ (.int .i64 (-1)) fun WS =>
   aN WS ⟨K0, ((PK + ((Int.toNat x1) * 3)) + 2), none⟩ (.int .i64 0) fun Gi =>
   aN Gi ⟨k1, 0, none⟩ (.int .i64 6) fun M90 =>
   aN M90 ⟨k1, (0 + 1), none⟩ (.int .i64 x1) fun my =>
   aN my ⟨k1, (0 + 2), none⟩ (.int .i64 (-1)) fun WT =>
   aN WT ⟨k1, (0 + 3), none⟩ (.slice none 0 0) fun Ew =>
   aK (Mem.ld Ew ⟨k1, 0, none⟩) .i64 fun KP =>
   aK (Mem.ld Ew ⟨k1, (0 + 1), none⟩) .i64 fun Fg =>
   aK (Mem.ld Ew ⟨k1, (0 + 2), none⟩) .i64 fun HU =>
   az (Mem.ld Ew ⟨k1, (0 + 3), none⟩) fun Vj Vk S7 =>
   K (.agg #[(.int .i64 KP), (.int .i64 Fg), (.int .i64 HU), (.slice Vj Vk S7)]) Ew)
   (aK (Mem.ld En ⟨eU, ((cY + ((Int.toNat eO) * 3)) + 1), none⟩) .i64 fun vM =>
   aN En ⟨eU, ((cY + ((Int.toNat eO) * 3)) + 1), none⟩ (.int .i64 (IntKind.wrap .i64 (vM + 1))) fun iP =>
   az (Mem.ld iP ⟨b0, (o0 + 6), none⟩) fun AQ nx Gq =>
   az (Mem.ld iP ⟨b0, (o0 + 6), none⟩) fun AR sW Gr =>
   aK (Mem.ld iP ⟨b0, ((o0 + 1) + 3), none⟩) .i64 fun zn =>
   ((0 : Int) ≤ x1) ∧
   ((x1 : Int) < ((nx : Nat) : Int)) ∧
   aE AQ fun Co Cp =>
   aN iP ⟨Co, ((Cp + ((Int.toNat x1) * 3)) + 1), none⟩ (.int .i64 AP) fun oD =>
   ((0 : Int) ≤ x1) ∧
   ((x1 : Int) < ((sW : Nat) : Int)) ∧
   aE AR fun PL Ey =>
   aN oD ⟨PL, ((Ey + ((Int.toNat x1) * 3)) + 2), none⟩ (.int .i64 zn) fun Cq =>
   aN Cq ⟨k1, 0, none⟩ (.int .i64 zh) fun Jh =>
   aN Jh ⟨k1, (0 + 1), none⟩ (.int .i64 x1) fun zo =>
   aN zo ⟨k1, (0 + 2), none⟩ (.int .i64 AP) fun Jc =>
   aN Jc ⟨k1, (0 + 3), none⟩ (.slice none 0 0) fun oC =>
   aK (Mem.ld oC ⟨k1, 0, none⟩) .i64 fun Ji =>
   aK (Mem.ld oC ⟨k1, (0 + 1), none⟩) .i64 fun qD =>
   aK (Mem.ld oC ⟨k1, (0 + 2), none⟩) .i64 fun uL =>
   az (Mem.ld oC ⟨k1, (0 + 3), none⟩) fun PM Cr Es =>
   K (.agg #[(.int .i64 Ji), (.int .i64 qD), (.int .i64 uL), (.slice PM Cr Es)]) oC))
  (∃ PN : List Value → Mem → Prop, (PN [(.int .i64 4), (.int .i64 Gp), (.bool t57)] l8) ∧
  ∀ S8 : Nat → Value, ∀ xJ : Int, ∀ zq : Int, ∀ t129 : Bool, ∀ tu : Mem, (PN [(.int .i64 xJ), (.int .i64 zq), (.bool t129)] tu) → aQ (!t129)
   (az (Mem.ld tu ⟨b0, (o0 + 6), none⟩) fun Gn xI MG =>
   aN tu ⟨eU, ((cY + ((Int.toNat eO) * 3)) + 2), none⟩ (.int .i64 (-1)) fun Cn =>
   ((0 : Int) ≤ x1) ∧
   ((x1 : Int) < ((xI : Nat) : Int)) ∧
   aE Gn fun Cs tv =>
   aN Cn ⟨Cs, (tv + ((Int.toNat x1) * 3)), none⟩ (.int .i64 (-1)) fun MH =>
   aN MH ⟨Cs, ((tv + ((Int.toNat x1) * 3)) + 1), none⟩ (.int .i64 (-1)) fun WU =>
   aN WU ⟨Cs, ((tv + ((Int.toNat x1) * 3)) + 2), none⟩ (.int .i64 0) fun Eu =>
   aN Eu ⟨k1, 0, none⟩ (.int .i64 6) fun WW =>
   aN WW ⟨k1, (0 + 1), none⟩ (.int .i64 x1) fun MI =>
   aN MI ⟨k1, (0 + 2), none⟩ (.int .i64 (-1)) fun PO =>
   aN PO ⟨k1, (0 + 3), none⟩ (.slice none 0 0) fun AS =>
   aK (Mem.ld AS ⟨k1, 0, none⟩) .i64 fun PR =>
   aK (Mem.ld AS ⟨k1, (0 + 1), none⟩) .i64 fun PS =>
   aK (Mem.ld AS ⟨k1, (0 + 2), none⟩) .i64 fun PT =>
   az (Mem.ld AS ⟨k1, (0 + 3), none⟩) fun WX PU WY =>
   K (.agg #[(.int .i64 PR), (.int .i64 PS), (.int .i64 PT), (.slice WX PU WY)]) AS)
   (aK (Mem.ld tu ⟨eU, ((cY + ((Int.toNat eO) * 3)) + 1), none⟩) .i64 fun Je =>
   aN tu ⟨eU, ((cY + ((Int.toNat eO) * 3)) + 1), none⟩ (.int .i64 (IntKind.wrap .i64 (Je + 1))) fun AT =>
   az (Mem.ld AT ⟨b0, (o0 + 6), none⟩) fun PV PW Jf =>
   az (Mem.ld AT ⟨b0, (o0 + 6), none⟩) fun WZ W0 PX =>
   aK (Mem.ld AT ⟨b0, ((o0 + 1) + 3), none⟩) .i64 fun W1 =>
   ((0 : Int) ≤ x1) ∧
   ((x1 : Int) < ((PW : Nat) : Int)) ∧
   aE PV fun W2 W3 =>
   aN AT ⟨W2, ((W3 + ((Int.toNat x1) * 3)) + 1), none⟩ (.int .i64 zq) fun xK =>
   ((0 : Int) ≤ x1) ∧
   ((x1 : Int) < ((W0 : Nat) : Int)) ∧
   aE WZ fun PY PZ =>
   aN xK ⟨PY, ((PZ + ((Int.toNat x1) * 3)) + 2), none⟩ (.int .i64 W1) fun P0 =>
   aN P0 ⟨k1, 0, none⟩ (.int .i64 xJ) fun P2 =>
   aN P2 ⟨k1, (0 + 1), none⟩ (.int .i64 x1) fun P3 =>
   aN P3 ⟨k1, (0 + 2), none⟩ (.int .i64 zq) fun Gs =>
   aN Gs ⟨k1, (0 + 3), none⟩ (.slice none 0 0) fun AU =>
   aK (Mem.ld AU ⟨k1, 0, none⟩) .i64 fun P4 =>
   aK (Mem.ld AU ⟨k1, (0 + 1), none⟩) .i64 fun P5 =>
   aK (Mem.ld AU ⟨k1, (0 + 2), none⟩) .i64 fun Gt =>
   az (Mem.ld AU ⟨k1, (0 + 3), none⟩) fun W4 MJ W5 =>
   K (.agg #[(.int .i64 P4), (.int .i64 P5), (.int .i64 Gt), (.slice W4 MJ W5)]) AU))) Kp) Kp)
 (∃ J175 : List Value → Mem → Prop, (J175 [] M2) ∧
 ∀ junk176 : Nat → Value, ∀ M177 : Mem, (J175 [] M177) → aa Tryz.prog 150 #[(.pointer (some ⟨b0, o0, none⟩)), (.pointer (some ⟨eU, (cY + ((Int.toNat eO) * 3)), none⟩))] M177 (fun v178 MK =>
 ∃ ML : Int, ∃ t181 : Bool, (v178 = (.tuple #[(.int .i64 ML), (.bool t181)])) ∧
 aQ (!t181)
  (aK (Mem.ld MK ⟨b0, (o0 + 1), none⟩) .i64 fun S9 =>
  ∃ W6 : List Value → Mem → Prop, (aQ (decide ((S9 : Int) > 1))
   (cv (Mem.ld MK ⟨b0, (o0 + 8), none⟩) fun A184 =>
    aK (Mem.ld MK ⟨b0, (o0 + 1), none⟩) .i64 fun MM =>
    aa Tryz.prog 107 #[(.pointer A184), (.int .i64 2), (.int .i64 MM)] MK (fun v186 Ta =>
    aK (some v186) .i64 fun Jj =>
    cv (Mem.ld Ta ⟨eU, (cY + ((Int.toNat eO) * 3)), none⟩) fun A189 =>
    az (Mem.ld Ta ⟨b0, (o0 + 5), none⟩) fun A190 k191 W7 =>
    ((0 : Int) ≤ Jj) ∧
    ((Jj : Int) < ((k191 : Nat) : Int)) ∧
    aE A190 fun k193 k194 =>
    cv (Mem.ld Ta ⟨k193, (k194 + ((Int.toNat Jj) * 3)), none⟩) fun A195 =>
    aa Tryz.prog 151 #[(.pointer A189), (.pointer A195)] Ta (fun v196 P6 =>
    ∃ MN : Int, ∃ t199 : Bool, (v196 = (.tuple #[(.int .i64 MN), (.bool t199)])) ∧
    W6 [(.int .i64 5), (.int .i64 MN), (.bool t199)] P6) Kp) Kp)
   (W6 [(.int .i64 4), (.int .i64 ML), (.bool t181)] MK)) ∧
  ∀ junk200 : Nat → Value, ∀ Tb : Int, ∀ P7 : Int, ∀ t203 : Bool, ∀ P8 : Mem, (W6 [(.int .i64 Tb), (.int .i64 P7), (.bool t203)] P8) → aQ (!t203)
   (az (Mem.ld P8 ⟨b0, (o0 + 6), none⟩) fun W8 W9 k207 =>
   aN P8 ⟨eU, ((cY + ((Int.toNat eO) * 3)) + 2), none⟩ (.int .i64 (-1)) fun M208 =>
   ((0 : Int) ≤ x1) ∧
   ((x1 : Int) < ((W9 : Nat) : Int)) ∧
   aE W8 fun Xa Xb =>
   aN M208 ⟨Xa, (Xb + ((Int.toNat x1) * 3)), none⟩ (.int .i64 (-1)) fun M211 =>
   aN M211 ⟨Xa, ((Xb + ((Int.toNat x1) * 3)) + 1), none⟩ (.int .i64 (-1)) fun Tc =>
   aN Tc ⟨Xa, ((Xb + ((Int.toNat x1) * 3)) + 2), none⟩ (.int .i64 0) fun P9 =>
   aN P9 ⟨k1, 0, none⟩ (.int .i64 6) fun M214 =>
   aN M214 ⟨k1, (0 + 1), none⟩ (.int .i64 x1) fun M215 =>
   aN M215 ⟨k1, (0 + 2), none⟩ (.int .i64 (-1)) fun Xc =>
   aN Xc ⟨k1, (0 + 3), none⟩ (.slice none 0 0) fun Qa =>
   aK (Mem.ld Qa ⟨k1, 0, none⟩) .i64 fun Td =>
   aK (Mem.ld Qa ⟨k1, (0 + 1), none⟩) .i64 fun Te =>
   aK (Mem.ld Qa ⟨k1, (0 + 2), none⟩) .i64 fun n220 =>
   az (Mem.ld Qa ⟨k1, (0 + 3), none⟩) fun A221 Tf Xd =>
   K (.agg #[(.int .i64 Td), (.int .i64 Te), (.int .i64 n220), (.slice A221 Tf Xd)]) Qa)
   (aK (Mem.ld P8 ⟨eU, ((cY + ((Int.toNat eO) * 3)) + 1), none⟩) .i64 fun Xe =>
   aN P8 ⟨eU, ((cY + ((Int.toNat eO) * 3)) + 1), none⟩ (.int .i64 (IntKind.wrap .i64 (Xe + 1))) fun Tg =>
   az (Mem.ld Tg ⟨b0, (o0 + 6), none⟩) fun Xf Xg k228 =>
   az (Mem.ld Tg ⟨b0, (o0 + 6), none⟩) fun A229 Xh k231 =>
   aK (Mem.ld Tg ⟨b0, ((o0 + 1) + 3), none⟩) .i64 fun n232 =>
   ((0 : Int) ≤ x1) ∧
   ((x1 : Int) < ((Xg : Nat) : Int)) ∧
   aE Xf fun k233 Xi =>
   aN Tg ⟨k233, ((Xi + ((Int.toNat x1) * 3)) + 1), none⟩ (.int .i64 P7) fun M235 =>
   ((0 : Int) ≤ x1) ∧
   ((x1 : Int) < ((Xh : Nat) : Int)) ∧
   aE A229 fun k236 Xj =>
   aN M235 ⟨k236, ((Xj + ((Int.toNat x1) * 3)) + 2), none⟩ (.int .i64 n232) fun Xk =>
   aN Xk ⟨k1, 0, none⟩ (.int .i64 Tb) fun Xl =>
   aN Xl ⟨k1, (0 + 1), none⟩ (.int .i64 x1) fun Th =>
   aN Th ⟨k1, (0 + 2), none⟩ (.int .i64 P7) fun M241 =>
   aN M241 ⟨k1, (0 + 3), none⟩ (.slice none 0 0) fun Gu =>
   aK (Mem.ld Gu ⟨k1, 0, none⟩) .i64 fun Qb =>
   aK (Mem.ld Gu ⟨k1, (0 + 1), none⟩) .i64 fun Qc =>
   aK (Mem.ld Gu ⟨k1, (0 + 2), none⟩) .i64 fun Qd =>
   az (Mem.ld Gu ⟨k1, (0 + 3), none⟩) fun Xm Xn Qe =>
   K (.agg #[(.int .i64 Qb), (.int .i64 Qc), (.int .i64 Qd), (.slice Xm Xn Qe)]) Gu))
  (∃ J249 : List Value → Mem → Prop, (J249 [(.int .i64 4), (.int .i64 ML), (.bool t181)] MK) ∧
  ∀ junk250 : Nat → Value, ∀ n251 : Int, ∀ Qf : Int, ∀ t253 : Bool, ∀ Qg : Mem, (J249 [(.int .i64 n251), (.int .i64 Qf), (.bool t253)] Qg) → aQ (!t253)
   (az (Mem.ld Qg ⟨b0, (o0 + 6), none⟩) fun A255 Xo k257 =>
   aN Qg ⟨eU, ((cY + ((Int.toNat eO) * 3)) + 2), none⟩ (.int .i64 (-1)) fun M258 =>
   ((0 : Int) ≤ x1) ∧
   ((x1 : Int) < ((Xo : Nat) : Int)) ∧
   aE A255 fun Xp Xq =>
   aN M258 ⟨Xp, (Xq + ((Int.toNat x1) * 3)), none⟩ (.int .i64 (-1)) fun M261 =>
   aN M261 ⟨Xp, ((Xq + ((Int.toNat x1) * 3)) + 1), none⟩ (.int .i64 (-1)) fun M262 =>
   aN M262 ⟨Xp, ((Xq + ((Int.toNat x1) * 3)) + 2), none⟩ (.int .i64 0) fun M263 =>
   aN M263 ⟨k1, 0, none⟩ (.int .i64 6) fun M264 =>
   aN M264 ⟨k1, (0 + 1), none⟩ (.int .i64 x1) fun M265 =>
   aN M265 ⟨k1, (0 + 2), none⟩ (.int .i64 (-1)) fun M266 =>
   aN M266 ⟨k1, (0 + 3), none⟩ (.slice none 0 0) fun Gv =>
   aK (Mem.ld Gv ⟨k1, 0, none⟩) .i64 fun Xr =>
   aK (Mem.ld Gv ⟨k1, (0 + 1), none⟩) .i64 fun Xs =>
   aK (Mem.ld Gv ⟨k1, (0 + 2), none⟩) .i64 fun Xt =>
   az (Mem.ld Gv ⟨k1, (0 + 3), none⟩) fun A271 k272 k273 =>
   K (.agg #[(.int .i64 Xr), (.int .i64 Xs), (.int .i64 Xt), (.slice A271 k272 k273)]) Gv)
   (aK (Mem.ld Qg ⟨eU, ((cY + ((Int.toNat eO) * 3)) + 1), none⟩) .i64 fun Xu =>
   aN Qg ⟨eU, ((cY + ((Int.toNat eO) * 3)) + 1), none⟩ (.int .i64 (IntKind.wrap .i64 (Xu + 1))) fun Ti =>
   az (Mem.ld Ti ⟨b0, (o0 + 6), none⟩) fun A276 k277 k278 =>
   az (Mem.ld Ti ⟨b0, (o0 + 6), none⟩) fun A279 k280 k281 =>
   aK (Mem.ld Ti ⟨b0, ((o0 + 1) + 3), none⟩) .i64 fun Xv =>
   ((0 : Int) ≤ x1) ∧
   ((x1 : Int) < ((k277 : Nat) : Int)) ∧
   aE A276 fun k283 k284 =>
   aN Ti ⟨k283, ((k284 + ((Int.toNat x1) * 3)) + 1), none⟩ (.int .i64 Qf) fun Tj =>
   ((0 : Int) ≤ x1) ∧
   ((x1 : Int) < ((k280 : Nat) : Int)) ∧
   aE A279 fun k286 k287 =>
   aN Tj ⟨k286, ((k287 + ((Int.toNat x1) * 3)) + 2), none⟩ (.int .i64 Xv) fun M288 =>
   aN M288 ⟨k1, 0, none⟩ (.int .i64 n251) fun M289 =>
   aN M289 ⟨k1, (0 + 1), none⟩ (.int .i64 x1) fun M290 =>
   aN M290 ⟨k1, (0 + 2), none⟩ (.int .i64 Qf) fun M291 =>
   aN M291 ⟨k1, (0 + 3), none⟩ (.slice none 0 0) fun Qh =>
   aK (Mem.ld Qh ⟨k1, 0, none⟩) .i64 fun n293 =>
   aK (Mem.ld Qh ⟨k1, (0 + 1), none⟩) .i64 fun Xw =>
   aK (Mem.ld Qh ⟨k1, (0 + 2), none⟩) .i64 fun Xx =>
   az (Mem.ld Qh ⟨k1, (0 + 3), none⟩) fun A296 k297 k298 =>
   K (.agg #[(.int .i64 n293), (.int .i64 Xw), (.int .i64 Xx), (.slice A296 k297 k298)]) Qh))) Kp)) :
 aa Tryz.prog 110 ([.pointer (some ⟨b0, o0, none⟩), .int .i64 x1] : List Value).toArray M K Kp :=
 bV (C := Cx) good [(1, .bQ [0, 1, 3, 7, 0, 16, 48, 112, 0, 496, 1008, 2032, 4095, 8191] (.step 0 (.step 1 (.step 2 (.step 4 (.step 5 (.step 6 (.step 8 (.step 3 (.step 7 (.step 9 (.step 10 (.step 11 (.step 12 (.step 13 .done))))))))))))))), (3000039, .cut []), (3, .bQ [0, 1, 3, 7, 0, 0, 32, 96, 224, 480, 992, 2016, 2016, 4095, 12287, 28671] (.step 0 (.step 1 (.step 2 (.step 4 (.step 5 (.step 6 (.step 7 (.step 8 (.cE 3 (.step 9 (.step 10 (.step 11 (.step 12 (.step 13 (.step 14 (.step 15 .done))))))))))))))))), (3000080, .cut [(6, .c (.int .i64)), (7, .c (.int .i64)), (8, .c .bool)]), (8, .bQ [0, 1, 3, 7, 0, 16, 48, 112, 240, 511, 1023] (.step 0 (.step 1 (.step 2 (.step 4 (.step 5 (.step 6 (.step 7 (.step 3 (.step 8 (.step 9 (.step 10 .done)))))))))))), (10, .bQ [0, 1, 3, 7, 0, 16, 48, 112, 0, 496, 1008, 2032, 4095, 8191, 16383, 16383, 32767, 131071] (.step 0 (.step 1 (.step 2 (.step 4 (.step 5 (.step 6 (.step 8 (.step 3 (.step 7 (.step 9 (.step 10 (.step 11 (.step 12 (.step 13 (.step 14 (.step 15 (.step 16 (.step 17 .done))))))))))))))))))), (15, .bQ [0, 1, 3, 7, 0, 0, 32, 96, 224, 0, 0, 0, 2048, 6144, 14336, 30720, 65023, 130559, 261631, 524287, 1048575, 2097151] (.step 0 (.step 1 (.step 2 (.step 4 (.step 5 (.step 6 (.step 7 (.step 9 (.step 10 (.step 11 (.step 12 (.step 13 (.step 14 (.step 3 (.step 8 (.step 15 (.step 16 (.step 17 (.step 18 (.step 19 (.step 20 (.step 21 .done)))))))))))))))))))))))] Tryz.func110 (by kernel_rfl) (by kernel_rfl) h
theorem uM {b0 o0 : Nat} {x1 : Int} (h :
aW M (.cells #[(.int .i64 0), (.int .i64 0), (.int .i64 0), (.slice none 0 0)] 43 (0, 0)) fun k1 M2 =>
az (Mem.ld M2 ⟨b0, (o0 + 6), none⟩) fun A3 k4 k5 =>
((0 : Int) ≤ x1) ∧
((x1 : Int) < ((k4 : Nat) : Int)) ∧
aE A3 fun k6 k7 =>
aK (Mem.ld M2 ⟨k6, ((k7 + ((Int.toNat x1) * 3)) + 1), none⟩) .i64 fun n8 =>
cv (Mem.ld M2 ⟨b0, o0, none⟩) fun A9 =>
cv (Mem.ld M2 ⟨b0, (o0 + 8), none⟩) fun vg =>
(True) ∧
aa Tryz.prog 121 #[(.pointer A9), (.int .i64 n8), (.func (.func 107) #[(.pointer vg)] #[])] M2 (fun v11 j0 =>
∃ t13 : Bool, ∃ jo : Option Addr, ∃ gj : Nat, ∃ dK : Nat, (v11 = (.agg #[(.bool t13), (.slice jo gj dK)])) ∧
aW j0 (.cells #[(.bool false), (.slice none 0 0)] 250 (0, 0)) fun dS nU =>
aN nU ⟨dS, 0, none⟩ (.bool t13) fun iN =>
aN iN ⟨dS, (0 + 1), none⟩ (.slice jo gj dK) fun kX =>
az (Mem.ld kX ⟨dS, (0 + 1), none⟩) fun xB g6 iI =>
∃ Xy : Nat → List Value → Mem → Prop, (∃ nj : Nat, Xy nj [(.int .i64 0)] kX) ∧
∀ lV : Nat, ∀ Xz : Nat → Value, ∀ rM : Int, ∀ kf : Mem, (Xy lV [(.int .i64 rM)] kf) → aQ (decide ((rM : Int) < ((g6 : Nat) : Int)))
 (((0 : Int) ≤ rM) ∧
 ((rM : Int) < ((g6 : Nat) : Int)) ∧
 aE xB fun kZ lZ =>
 aK (Mem.ld kf ⟨kZ, (lZ + (Int.toNat rM)), none⟩) .i64 fun n32 =>
 az (Mem.ld kf ⟨b0, (o0 + 5), none⟩) fun F2 sq yH =>
 aK (Mem.ld kf ⟨k6, (k7 + ((Int.toNat x1) * 3)), none⟩) .i64 fun zj =>
 ((0 : Int) ≤ zj) ∧
 ((zj : Int) < ((sq : Nat) : Int)) ∧
 aE F2 fun pg gm =>
 cv (Mem.ld kf ⟨pg, (gm + ((Int.toNat zj) * 3)), none⟩) fun HT =>
 aa Tryz.prog 152 #[(.pointer HT), (.int .i64 n32), (.pointer (some ⟨b0, (o0 + 7), none⟩))] kf (fun Ge uw =>
 aK (some Ge) .i64 fun Dh =>
 ∃ nR : Nat, (nR < lV) ∧
 Xy nR [(.int .i64 (IntKind.wrap .i64 (rM + 1)))] uw) Kp)
 (aK (Mem.ld kf ⟨k6, ((k7 + ((Int.toNat x1) * 3)) + 2), none⟩) .i64 fun Di =>
 aN kf ⟨k6, ((k7 + ((Int.toNat x1) * 3)) + 2), none⟩ (.int .i64 (IntKind.wrap .i64 (Di - 1))) fun vk =>
 dH (Mem.ld vk ⟨dS, 0, none⟩) fun t46 =>
 aQ (!t46)
  (aN vk ⟨k6, ((k7 + ((Int.toNat x1) * 3)) + 1), none⟩ (.int .i64 (-1)) fun sF =>
  cv (Mem.ld sF ⟨b0, o0, none⟩) fun Oc =>
  aa Tryz.prog 119 #[(.pointer Oc), (.int .i64 n8)] sF (fun Mu zO =>
  aK (some Mu) .i64 fun Fi =>
  aQ (Fi == 1)
   (aW zO (.cells #[(.int .i64 n8)] 3 (0, 0)) fun um I0 =>
   aa Tryz.prog 58 #[(.pointer (some ⟨b0, (o0 + 7), none⟩)), (.slice (some ⟨um, 0, none⟩) 1 1)] I0 (fun Jg l8 =>
   (Jg = (.tuple #[])) ∧
   az (Mem.ld l8 ⟨dS, (0 + 1), none⟩) fun Pp AI BY =>
   aN l8 ⟨k1, 0, none⟩ (.int .i64 7) fun B4 =>
   aN B4 ⟨k1, (0 + 1), none⟩ (.int .i64 x1) fun F4 =>
   aN F4 ⟨k1, (0 + 2), none⟩ (.int .i64 n8) fun Dd =>
   aN Dd ⟨k1, (0 + 3), none⟩ (.slice Pp AI BY) fun wS =>
   aK (Mem.ld wS ⟨k1, 0, none⟩) .i64 fun F5 =>
   aK (Mem.ld wS ⟨k1, (0 + 1), none⟩) .i64 fun n64 =>
   aK (Mem.ld wS ⟨k1, (0 + 2), none⟩) .i64 fun vL =>
   az (Mem.ld wS ⟨k1, (0 + 3), none⟩) fun PJ xD KZ =>
   K (.agg #[(.int .i64 F5), (.int .i64 n64), (.int .i64 vL), (.slice PJ xD KZ)]) wS) Kp)
   (az (Mem.ld zO ⟨dS, (0 + 1), none⟩) fun A69 KX KY =>
   aN zO ⟨k1, 0, none⟩ (.int .i64 7) fun N9 =>
   aN N9 ⟨k1, (0 + 1), none⟩ (.int .i64 x1) fun Fl =>
   aN Fl ⟨k1, (0 + 2), none⟩ (.int .i64 n8) fun Gf =>
   aN Gf ⟨k1, (0 + 3), none⟩ (.slice A69 KX KY) fun xH =>
   aK (Mem.ld xH ⟨k1, 0, none⟩) .i64 fun F6 =>
   aK (Mem.ld xH ⟨k1, (0 + 1), none⟩) .i64 fun zh =>
   aK (Mem.ld xH ⟨k1, (0 + 2), none⟩) .i64 fun AP =>
   az (Mem.ld xH ⟨k1, (0 + 3), none⟩) fun MC Gk Jb =>
   K (.agg #[(.int .i64 F6), (.int .i64 zh), (.int .i64 AP), (.slice MC Gk Jb)]) xH)) Kp)
  (aK (Mem.ld vk ⟨k6, ((k7 + ((Int.toNat x1) * 3)) + 2), none⟩) .i64 fun Oa =>
  aQ (Oa == 0)
   (aN vk ⟨k6, ((k7 + ((Int.toNat x1) * 3)) + 1), none⟩ (.int .i64 (-1)) fun MB =>
   cv (Mem.ld MB ⟨b0, o0, none⟩) fun A84 =>
   aa Tryz.prog 119 #[(.pointer A84), (.int .i64 n8)] MB (fun v85 S0 =>
   aK (some v85) .i64 fun MO =>
   aQ (MO == 1)
    (aW S0 (.cells #[(.int .i64 n8)] 3 (0, 0)) fun RY Gi =>
    aa Tryz.prog 58 #[(.pointer (some ⟨b0, (o0 + 7), none⟩)), (.slice (some ⟨RY, 0, none⟩) 1 1)] Gi (fun SS my =>
    (SS = (.tuple #[])) ∧
    az (Mem.ld my ⟨dS, (0 + 1), none⟩) fun Wx WI Wy =>
    aN my ⟨k1, 0, none⟩ (.int .i64 7) fun R9 =>
    aN R9 ⟨k1, (0 + 1), none⟩ (.int .i64 x1) fun M96 =>
    aN M96 ⟨k1, (0 + 2), none⟩ (.int .i64 n8) fun PC =>
    aN PC ⟨k1, (0 + 3), none⟩ (.slice Wx WI Wy) fun Fm =>
    aK (Mem.ld Fm ⟨k1, 0, none⟩) .i64 fun R8 =>
    aK (Mem.ld Fm ⟨k1, (0 + 1), none⟩) .i64 fun vM =>
    aK (Mem.ld Fm ⟨k1, (0 + 2), none⟩) .i64 fun Ph =>
    az (Mem.ld Fm ⟨k1, (0 + 3), none⟩) fun AQ nx Gq =>
    K (.agg #[(.int .i64 R8), (.int .i64 vM), (.int .i64 Ph), (.slice AQ nx Gq)]) Fm) Kp)
    (az (Mem.ld S0 ⟨dS, (0 + 1), none⟩) fun AR sW Gr =>
    aN S0 ⟨k1, 0, none⟩ (.int .i64 7) fun Gw =>
    aN Gw ⟨k1, (0 + 1), none⟩ (.int .i64 x1) fun vN =>
    aN vN ⟨k1, (0 + 2), none⟩ (.int .i64 n8) fun XA =>
    aN XA ⟨k1, (0 + 3), none⟩ (.slice AR sW Gr) fun oD =>
    aK (Mem.ld oD ⟨k1, 0, none⟩) .i64 fun xu =>
    aK (Mem.ld oD ⟨k1, (0 + 1), none⟩) .i64 fun IL =>
    aK (Mem.ld oD ⟨k1, (0 + 2), none⟩) .i64 fun Eh =>
    az (Mem.ld oD ⟨k1, (0 + 3), none⟩) fun XB MP XC =>
    K (.agg #[(.int .i64 xu), (.int .i64 IL), (.int .i64 Eh), (.slice XB MP XC)]) oD)) Kp)
   (az (Mem.ld vk ⟨dS, (0 + 1), none⟩) fun XD Gx XE =>
   aN vk ⟨k1, 0, none⟩ (.int .i64 7) fun XF =>
   aN XF ⟨k1, (0 + 1), none⟩ (.int .i64 x1) fun XG =>
   aN XG ⟨k1, (0 + 2), none⟩ (.int .i64 n8) fun Qi =>
   aN Qi ⟨k1, (0 + 3), none⟩ (.slice XD Gx XE) fun xL =>
   aK (Mem.ld xL ⟨k1, 0, none⟩) .i64 fun Ct =>
   aK (Mem.ld xL ⟨k1, (0 + 1), none⟩) .i64 fun MQ =>
   aK (Mem.ld xL ⟨k1, (0 + 2), none⟩) .i64 fun xJ =>
   az (Mem.ld xL ⟨k1, (0 + 3), none⟩) fun XH Gy XI =>
   K (.agg #[(.int .i64 Ct), (.int .i64 MQ), (.int .i64 xJ), (.slice XH Gy XI)]) xL)))) Kp) :
 aa Tryz.prog 111 ([.pointer (some ⟨b0, o0, none⟩), .int .i64 x1] : List Value).toArray M K Kp :=
 bV (C := Cx) good [(3, .bQ [0, 1, 3, 7, 0, 0, 32, 96, 224, 480, 1023, 0, 4095] (.step 0 (.step 1 (.step 2 (.step 4 (.step 5 (.step 6 (.step 7 (.step 3 (.step 8 (.step 9 (.late 10 (.step 11 (.step 12 .done)))))))))))))), (2000000, .loop [(34, .c (.int .i64))]), (7, .bQ [0, 1, 3, 7, 0, 16, 48, 112, 255, 511, 1023, 0, 0, 4096, 12288, 32767] (.step 0 (.step 1 (.step 2 (.step 4 (.step 5 (.step 6 (.step 11 (.step 12 (.step 13 (.step 14 (.step 3 (.step 7 (.step 8 (.step 9 (.step 10 (.step 15 .done)))))))))))))))))] Tryz.func111 (by kernel_rfl) (by kernel_rfl) h
theorem uN {b0 o0 : Nat} {b1 o1 : Nat} (h :
rP M b1 o1 fun A1 =>
aa Tryz.prog 178 #[(.pointer A1), (.pointer (some ⟨b0, (o0 + 7), none⟩))] M (fun v2 M3 =>
aK (some v2) .i64 fun n4 =>
rI M3 b1 (o1 + 1) fun n5 =>
((7 : Int) ≠ 0) ∧
aQ ((Int.tmod n5 7) == 6)
 (aa Tryz.prog 179 #[(.pointer (some ⟨b0, (o0 + 7), none⟩)), (iV 1)] M3 (fun v6 M7 =>
 az (some v6) fun A8 k9 c6 =>
 aQ ((k9 : Int) == 1)
 (((0 : Int) ≤ 0) ∧
 ((0 : Int) < k9) ∧
 aE A8 fun dL eU =>
 rI M7 dL (eU + 0) fun hG =>
 K (.tuple #[(iV hG), (.bool true)]) M7)
 (rP M7 b1 o1 fun jo =>
 aa Tryz.prog 149 #[(.pointer jo)] M7 (fun vK eB =>
 ∃ fK : Int, ∃ t18 : Bool, (vK = (.tuple #[(iV fK), (.bool t18)])) ∧
 aQ t18
 (K (.tuple #[(iV fK), (.bool true)]) eB)
 (rP eB b1 o1 fun Cd =>
 aa Tryz.prog 180 #[(.pointer Cd), (.pointer (some ⟨b0, (o0 + 7), none⟩)), (iV 0)] eB (fun v20 jG =>
 ∃ mP : Int, ∃ t23 : Bool, (v20 = (.tuple #[(iV mP), (.bool t23)])) ∧
 K (.tuple #[(iV mP), (.bool t23)]) jG) Kp)) Kp)) Kp)
 (rP M3 b1 o1 fun ze =>
 aa Tryz.prog 149 #[(.pointer ze)] M3 (fun Mx vj =>
 ∃ xC : Int, ∃ t28 : Bool, (Mx = (.tuple #[(iV xC), (.bool t28)])) ∧
 aQ t28
 (K (.tuple #[(iV xC), (.bool true)]) vj)
 (rP vj b1 o1 fun RQ =>
 aa Tryz.prog 180 #[(.pointer RQ), (.pointer (some ⟨b0, (o0 + 7), none⟩)), (iV 0)] vj (fun v30 KV =>
 ∃ n32 : Int, ∃ t33 : Bool, (v30 = (.tuple #[(iV n32), (.bool t33)])) ∧
 K (.tuple #[(iV n32), (.bool t33)]) KV) Kp)) Kp)) Kp) :
 aa Tryz.prog 150 #[.pointer (some ⟨b0, o0, none⟩), .pointer (some ⟨b1, o1, none⟩)] M K Kp := vw [(1, .bQ [0, 1, 3, 7, 0, 16, 48, 127] (sy [0, 1, 2, 4, 5, 6, 3, 7] .done)), (9, .bQ [0, 1, 3, 7, 0, 16, 48, 127, 255, 255, 1023, 2047] (sy [0, 1, 2, 4, 5, 6, 3, 7, 8, 9, 10, 11] .done))] Tryz.func150 h
end Go.Proofs
namespace Go.AF
theorem cW.two : ∀ (zs : List HP) (i j : Nat), i ≠ j → i < zs.length → j < zs.length → ∃ rest, ∀ P Q, ∃ l1, cW ((zs.set i P).set j Q) P l1 ∧ cW l1 Q rest
 | [], _, _, _, h, _ => by simp at h
 | z :: zs, 0, 0, h, _, _ => absurd rfl h
 | z :: zs, 0, j + 1, _, _, hj => ⟨zs.eraseIdx j, fun P Q => ⟨zs.set j Q, by simp only [List.set_cons_zero, List.set_cons_succ]; exact .here, cW.idx (by simpa using hj)⟩⟩
 | z :: zs, i + 1, 0, _, hi, _ => ⟨zs.eraseIdx i, fun P Q => ⟨Q :: zs.eraseIdx i, by simp only [List.set_cons_zero, List.set_cons_succ]; exact .there (cW.idx (by simpa using hi)), .here⟩⟩
 | z :: zs, i + 1, j + 1, h, hi, hj => by
  obtain ⟨rest, hr⟩ := cW.two zs i j (by omega) (by simpa using hi) (by simpa using hj)
  refine ⟨z :: rest, fun P Q => ?_⟩
  obtain ⟨l1, h1, h2⟩ := hr P Q
  exact ⟨z :: l1, by simp only [List.set_cons_succ]; exact .there h1, .there h2⟩
section
variable {α : Type} {r : ug α} {R : Mem} {L L' om : List HP} {M : Mem} {bs : List Nat} {cs : List α} {b b' i j : Nat} {c c' : α}
theorem Hp.Qj (h : Hp R L M) (r : ug α) {bs : List Nat} {cs : List α} [o : fX r L bs cs L'] (hij : i ≠ j) (hb : bs[i]? = some b) (hc : cs[i]? = some c) (hb' : bs[j]? = some b') (HV : cs[j]? = some c') :
  ∃ X : HP, Hp R (ax r b c :: ax r b' c' :: X :: L') M ∧ ∀ {R' : Mem} {L2 : List HP} {M' : Mem} {d d' : α}, Hp R' (ax r b d :: ax r b' d' :: X :: L2) M' → Hp R' (bl r bs ((cs.set i d).set j d') :: L2) M' := by
 have hi := (List.getElem?_eq_some_iff.1 hb).1
 have hj := (List.getElem?_eq_some_iff.1 hb').1
 have Qk := (List.getElem?_eq_some_iff.1 hc).1
 have KA := (List.getElem?_eq_some_iff.1 HV).1
 have hl : (List.zipWith (ax r) bs cs).length = min bs.length cs.length := List.length_zipWith
 obtain ⟨rest, hr⟩ := cW.two (List.zipWith (ax r) bs cs) i j hij (by omega) (by omega)
 refine ⟨sep rest, ?_, ?_⟩
 ·have h0 : Hp R (sep (List.zipWith (ax r) bs cs) :: L') M := h.pick o.pick
  obtain ⟨l1, p1, p2⟩ := hr (ax r b c) (ax r b' c')
  have e : ((List.zipWith (ax r) bs cs).set i (ax r b c)).set j (ax r b' c') = List.zipWith (ax r) bs cs := by
   rw [oy hb, oy hb']
   congr 1
   obtain ⟨_, e1⟩ := List.getElem?_eq_some_iff.1 hc
   obtain ⟨_, e2⟩ := List.getElem?_eq_some_iff.1 HV
   subst e1; subst e2
   rw [List.set_getElem_self, List.set_getElem_self]
  rw [e] at p1
  refine h0.map fun A hs => ?_
  have h1 := ck.pick p1.app (ck.bk.1 hs)
  exact h1.tail fun B N5 => (ck.pick p2.app N5).tail fun C RT => ck.bk.2 RT
 ·intro R' L2 M' d d' h1
  obtain ⟨l1, p1, p2⟩ := hr (ax r b d) (ax r b' d')
  rw [oy hb, oy hb'] at p1
  show Hp R' (sep (List.zipWith (ax r) bs ((cs.set i d).set j d')) :: L2) M'
  refine h1.map fun A hs => ck.bk.2 (ck.oh p1.app ?_)
  exact hs.tail fun B N5 => ck.oh p2.app (N5.tail fun C RT => ck.bk.1 RT)
end
end Go.AF
