/- A part of proofs about one program. -/
import Derived.Test.YtnnlgknlialpmaaGreatProg
import Derived.Test.YtnnlgknlialpmaaGreatZSchedWakesStC
import Derived.Test.YtnnlgknlialpmaaGreatZSchedWakesMod
set_option linter.unusedVariables false
namespace Go.Proofs
open Go.AF
noncomputable def Cx : Ctx := ⟨Tryz.prog, 255⟩
theorem good : Cx.Good := by
 refine ⟨?_, by kernel_rfl⟩
 have h : (List.range 253).all (fun g => nt Tryz.prog (g + 2)) = true := by kernel_rfl
 intro g hg
 have h1 : g < 255 := hg.2
 have := List.all_eq_true.1 h (g - 2) (List.mem_range.2 (by omega))
 have e : g - 2 + 2 = g := by omega
 simp only [e] at this
 exact this
def sy : List Nat → Ex → Ex
 | [], e => e
 | i :: l, e => .step i (sy l e)
abbrev aA (t : Nat) (A : Option Addr) (n c : Nat) (B : Option Addr) (m d : Nat) (M : Mem) (K : Value → Mem → Prop) (Kp : List PanicEntry → Mem → Prop) : Prop := aW Tryz.prog (Go.Builtin.append_ #[t, t] t #[.slice A n c, .slice B m d]) M K Kp
theorem vw {f : FuncId} {fn : Func} {args : List Value} {M : Mem} {K : Value → Mem → Prop} {Kp : List PanicEntry → Mem → Prop} (H : List (Nat × Hint)) (hf : Cx.P.funcs[f]? = some fn) {vc : Prop} (h : vc) (h1 : vB fn args.length = true := by kernel_rfl)
  (h2 : vc = cX Cx H Kp (dY fn) 0 (Gd Cx.P fn K) (fy args) M := by kernel_rfl) : aa Cx.P f args.toArray M K Kp := bR (C := Cx) good H hf h1 h2 h
end Go.Proofs
namespace Go.Proofs
open Go.AF
set_option maxRecDepth 100000
variable {M : Mem} {K : Value → Mem → Prop} {Kp : List PanicEntry → Mem → Prop}
theorem zW {x0 : Int} (h :
bh M (cl [(iV (if (16 : Int) < (if (0 : Int) > x0 then 0 else x0) then 16 else (if (0 : Int) > x0 then 0 else x0))), (.slice none 0 0), (.slice none 0 0), (.slice none 0 0), (.bool false)] 305) fun k1 M2 =>
K (.pointer (some ⟨k1, 0, none⟩)) M2) :
 aa Tryz.prog 113 #[.int .i64 x0] M K Kp := vw [] Tryz.func113 h
theorem lW {b0 o0 : Nat} {cH : Int} {cI : Int} {cJ : Int} (h :
bh M (cl [(iV cH), (iV cI), (iV cJ)] 280) fun k1 M2 =>
rS M2 b0 (o0 + 3) fun A3 k4 k5 =>
nF M2 k1 0 fun n6 n7 n8 =>
bh M2 (cl [(iV n6), (iV n7), (iV n8)] 280) fun k9 jL =>
aA 195 A3 k4 k5 (some ⟨k9, 0, none⟩) 1 1 jL (fun v11 ry =>
az (some v11) fun K7 iL gI =>
sT ry b0 (o0 + 3) (.slice K7 iL gI) fun eZ =>
K (.tuple #[]) eZ) Kp) :
 aa Tryz.prog 235 #[.pointer (some ⟨b0, o0, none⟩), .agg #[.int .i64 cH, .int .i64 cI, .int .i64 cJ]] M K Kp := vw [(1, .bN [0, 0, 2, 6, 14, 0, 32, 126, 255, 511, 1023] (sy [0, 1, 2, 3, 4, 5, 6, 7, 8, 9, 10] .done))] Tryz.func235 h
theorem lX {b0 o0 : Nat} {cH : Int} {cI : Int} {cJ : Int} (h :
bh M (cl [(iV cH), (iV cI), (iV cJ)] 280) fun k1 M2 =>
rS M2 b0 (o0 + 2) fun A3 k4 k5 =>
nF M2 k1 0 fun n6 n7 n8 =>
bh M2 (cl [(iV n6), (iV n7), (iV n8)] 280) fun k9 jL =>
aA 195 A3 k4 k5 (some ⟨k9, 0, none⟩) 1 1 jL (fun v11 ry =>
az (some v11) fun K7 iL gI =>
sT ry b0 (o0 + 2) (.slice K7 iL gI) fun eZ =>
K (.tuple #[]) eZ) Kp) :
 aa Tryz.prog 236 #[.pointer (some ⟨b0, o0, none⟩), .agg #[.int .i64 cH, .int .i64 cI, .int .i64 cJ]] M K Kp := vw [(1, .bN [0, 0, 2, 6, 14, 0, 32, 126, 255, 511, 1023] (sy [0, 1, 2, 3, 4, 5, 6, 7, 8, 9, 10] .done))] Tryz.func236 h
theorem qq {b0 o0 : Nat} {x1 : Int} (h :
bh M ji fun k1 M2 =>
rB M2 b0 (o0 + 4) fun t3 =>
aO t3
 (sT M2 k1 0 (iV 0) fun M4 =>
 sT M4 k1 1 (iV 0) fun M5 =>
 sT M5 k1 2 (iV 0) fun M6 =>
 nF M6 k1 0 fun n7 n8 n9 =>
 K (.tuple #[(.agg #[(iV n7), (iV n8), (iV n9)]), (.bool false), (iV 10)]) M6)
 (rS M2 b0 (o0 + 3) fun C3 en gh =>
 aO (decide ((en : Int) > 0))
 (bh M2 ji fun dH nh =>
 rS nh b0 (o0 + 3) fun vE gi eK =>
 aa Tryz.prog 250 #[(.slice vE gi eK)] nh (fun DD ku =>
 ∃ iu rz va : Int, ∃ S5 : Option Addr, ∃ r6 vb : Nat, (DD = (.tuple #[(.agg #[(iV iu), (iV rz), (iV va)]), (.slice S5 r6 vb)])) ∧
 IG ku dH (iV iu) (iV rz) (iV va) fun AU =>
 sT AU b0 (o0 + 3) (.slice S5 r6 vb) fun ni =>
 sT ni dH 2 (iV x1) fun wC =>
 nF wC dH 0 fun vF n32 E6 =>
 IG wC k1 (iV vF) (iV n32) (iV E6) fun N6 =>
 nF N6 k1 0 fun LK Gr HI =>
 K (.tuple #[(.agg #[(iV LK), (iV Gr), (iV HI)]), (.bool true), (iV 0)]) N6) Kp)
 (rS M2 b0 (o0 + 1) fun A40 LM Pd =>
 rI M2 b0 o0 fun DE =>
 aO (decide ((LM : Int) < DE))
 (rS M2 b0 (o0 + 1) fun A44 LN LO =>
 bh M2 (cl [(iV x1)] 2) fun S6 RP =>
 aA 53 A44 LN LO (some ⟨S6, 0, none⟩) 1 1 RP (fun IU xM =>
 az (some IU) fun Pe tp r7 =>
 sT xM b0 (o0 + 1) (.slice Pe tp r7) fun LP =>
 IG LP k1 (iV 0) (iV 0) (iV 0) fun IV =>
 nF IV k1 0 fun LQ IW Pf =>
 K (.tuple #[(.agg #[(iV LQ), (iV IW), (iV Pf)]), (.bool false), (iV 0)]) IV) Kp)
 (sT M2 k1 0 (iV 0) fun DF =>
 sT DF k1 1 (iV 0) fun rA =>
 sT rA k1 2 (iV 0) fun BN =>
 nF BN k1 0 fun n64 BO Wp =>
 K (.tuple #[(.agg #[(iV n64), (iV BO), (iV Wp)]), (.bool false), (iV 6)]) BN)))) :
 aa Tryz.prog 237 #[.pointer (some ⟨b0, o0, none⟩), .int .i64 x1] M K Kp := vw [(8, .bN [0, 1, 3, 7, 15, 0, 32, 96, 224, 511, 1023] (sy [0, 1, 2, 5, 6, 7, 3, 4, 8, 9, 10] .done))] Tryz.func237 h
theorem qt {b0 o0 : Nat} (h :
bh M lV fun k1 M2 =>
bh M2 lV fun k3 M4 =>
rS M4 b0 (o0 + 2) fun A5 k6 k7 =>
∃ J8 : List Value → Mem → Prop, (aO (decide ((k6 : Int) > 0))
 (rS M4 b0 (o0 + 2) fun A9 eJ en =>
 aa Tryz.prog 250 #[(.slice A9 eJ en)] M4 (fun HG kz =>
 ∃ mK jM oV : Int, ∃ K8 : Option Addr, ∃ gq iI : Nat, (HG = (.tuple #[(.agg #[(iV mK), (iV jM), (iV oV)]), (.slice K8 gq iI)])) ∧
 sT kz k3 2 (iV mK) fun r8 =>
 sT r8 k3 (2 + 1) (iV jM) fun uI =>
 sT uI k3 (2 + 2) (iV oV) fun mE =>
 sT mE b0 (o0 + 2) (.slice K8 gq iI) fun mF =>
 sT mF k3 5 (.bool true) fun jj =>
 rS jj b0 (o0 + 1) fun LR r9 zX =>
 rI jj k3 (2 + 2) fun sg =>
 bh jj (cl [(iV sg)] 2) fun uJ wC =>
 aA 53 LR r9 zX (some ⟨uJ, 0, none⟩) 1 1 wC (fun Pg oW =>
 az (some Pg) fun IX yS yT =>
 sT oW b0 (o0 + 1) (.slice IX yS yT) fun N6 =>
 J8 [] N6) Kp) Kp)
 (J8 [] M4)) ∧
∀ Wq : Nat → Value, ∀ lG : Mem, (J8 [] lG) → rS lG b0 (o0 + 1) fun U8 K9 LM =>
aO (decide ((K9 : Int) > 0))
 (rS lG b0 (o0 + 1) fun RQ yU qu =>
 ((0 : Int) ≤ 0) ∧
 ((0 : Int) < yU) ∧
 aD RQ fun LN LO =>
 rI lG LN (LO + 0) fun AV =>
 Wl lG k3 (iV AV) (.bool true) fun ve =>
 bh ve (cl [] 2) fun Ph U9 =>
 rS U9 b0 (o0 + 1) fun A52 r7 N7 =>
 ((0 : Int) ≤ N7) ∧
 ((N7 : Int) ≤ N7) ∧
 ((0 : Int) ≤ r7) ∧
 ((r7 : Int) ≤ N7) ∧
 ((0 : Int) ≤ 1) ∧
 ((1 : Int) ≤ r7) ∧
 aW Tryz.prog (Go.Builtin.append_ #[53, 53] 53 #[(.slice (some ⟨Ph, 0, none⟩) 0 0), (.slice (lF A52 1 (Int.toNat (N7 : Int)) 1) ((Int.toNat (r7 : Int)) - 1) ((Int.toNat (N7 : Int)) - 1))]) U9 (fun S7 Pj =>
 az (some S7) fun Wr DG Ws =>
 sT Pj b0 (o0 + 1) (.slice Wr DG Ws) fun BP =>
 vC BP k3 0 fun vf t62 tq n64 BO t66 =>
 U6 BP k1 (iV vf) (.bool t62) (iV tq) (iV n64) (iV BO) (.bool t66) fun AW =>
 vC AW k1 0 fun Pk t74 LS LU DH t78 =>
 K (.tuple #[(.agg #[(iV Pk), (.bool t74), (iV LS), (iV LU), (iV DH), (.bool t78)]), (iV 0)]) AW) Kp)
 (rB lG b0 (o0 + 4) fun t79 =>
 aO t79
 (rI lG k3 0 fun Wu =>
 rB lG k3 1 fun t81 =>
 rI lG k3 2 fun HJ =>
 rI lG k3 3 fun RR =>
 rI lG k3 4 fun N8 =>
 rB lG k3 5 fun t85 =>
 U6 lG k1 (iV Wu) (.bool t81) (iV HJ) (iV RR) (iV N8) (.bool t85) fun oX =>
 vC oX k1 0 fun Wv t93 Pm LV Pn t97 =>
 K (.tuple #[(.agg #[(iV Wv), (.bool t93), (iV Pm), (iV LV), (iV Pn), (.bool t97)]), (iV 0)]) oX)
 (rI lG k3 0 fun Va =>
 rB lG k3 1 fun t99 =>
 rI lG k3 2 fun si =>
 rI lG k3 3 fun IY =>
 rI lG k3 4 fun Ww =>
 rB lG k3 5 fun t103 =>
 U6 lG k1 (iV Va) (.bool t99) (iV si) (iV IY) (iV Ww) (.bool t103) fun qv =>
 vC qv k1 0 fun Po t111 DI IZ I0 t115 =>
 K (.tuple #[(.agg #[(iV Po), (.bool t111), (iV DI), (iV IZ), (iV I0), (.bool t115)]), (iV 5)]) qv))) :
 aa Tryz.prog 239 #[.pointer (some ⟨b0, o0, none⟩)] M K Kp := vw [(3000010, .cut []), (5, .bN [0, 0, 2, 6, 14, 0, 32, 96, 224, 510, 1023, 2047, 4095] (sy [0, 1, 2, 3, 5, 6, 4, 7, 8, 9, 10, 11, 12] .done))] Tryz.func239 h
theorem pq {b0 o0 : Nat} (h :
rB M b0 (o0 + 4) fun t1 =>
aO t1
 (K (.tuple #[(.slice none 0 0), (.slice none 0 0), (iV 10)]) M)
 (rS M b0 (o0 + 3) fun A2 k3 k4 =>
 rS M b0 (o0 + 2) fun A5 k6 k7 =>
 sT M b0 (o0 + 4) (.bool true) fun M8 =>
 sT M8 b0 (o0 + 3) (.slice none 0 0) fun M9 =>
 sT M9 b0 (o0 + 2) (.slice none 0 0) fun jL =>
 K (.tuple #[(.slice A2 k3 k4), (.slice A5 k6 k7), (iV 0)]) jL)) :
 aa Tryz.prog 243 #[.pointer (some ⟨b0, o0, none⟩)] M K Kp := vw [(3, .bN [0, 1, 3, 7, 0, 16, 48, 112, 15, 511] (sy [0, 1, 2, 4, 5, 6, 3, 8, 7, 9] .done))] Tryz.func243 h
theorem mL {b0 o0 : Nat} (h :
rB M b0 (o0 + 4) fun t1 =>
aO t1
 (K (.bool true) M)
 (rS M b0 (o0 + 2) fun A2 k3 k4 =>
 aO (decide ((k3 : Int) > 0))
 (K (.bool true) M)
 (rS M b0 (o0 + 1) fun A5 k6 k7 =>
 K (.bool (decide ((k6 : Int) > 0))) M))) :
 aa Tryz.prog 248 #[.pointer (some ⟨b0, o0, none⟩)] M K Kp := vw [] Tryz.func248 h
theorem mN {b0 o0 : Nat} (h :
rB M b0 (o0 + 4) fun t1 =>
aO t1
 (K (.bool true) M)
 (rS M b0 (o0 + 3) fun A2 k3 k4 =>
 aO (decide ((k3 : Int) > 0))
 (K (.bool true) M)
 (rS M b0 (o0 + 1) fun A5 k6 k7 =>
 rI M b0 o0 fun n8 =>
 K (.bool (decide ((k6 : Int) < n8))) M))) :
 aa Tryz.prog 249 #[.pointer (some ⟨b0, o0, none⟩)] M K Kp := vw [(1, .bN [0, 1, 3, 7, 15, 31, 63, 127, 255, 511, 1023, 2047, 4095, 8191, 16383, 32767, 65535, 131071, 8191, 270335, 794623, 1843199, 4194303, 8388607, 16777215] (sy [0, 1, 2, 3, 4, 5, 6, 7, 8, 9, 10, 11, 12, 13, 14, 15, 18, 19, 20, 16, 17, 21, 22, 23, 24] .done))] Tryz.func249 h
theorem wD {B0 : Option Addr} {m0 c0 : Nat} (h :
bh M ji fun k1 M2 =>
((0 : Int) ≤ 0) ∧
((0 : Int) < m0) ∧
aD B0 fun k3 k4 =>
((0 : Int) ≤ c0) ∧
((c0 : Int) ≤ c0) ∧
((0 : Int) ≤ m0) ∧
((m0 : Int) ≤ c0) ∧
((0 : Int) ≤ 1) ∧
((1 : Int) ≤ m0) ∧
nF M2 k3 (k4 + 0) fun n5 n6 n7 =>
bh M2 (cl [] 280) fun k8 M9 =>
aW Tryz.prog (Go.Builtin.append_ #[195, 195] 195 #[(.slice (some ⟨k8, 0, none⟩) 0 0), (.slice (lF B0 1 (Int.toNat (c0 : Int)) 3) ((Int.toNat (m0 : Int)) - 1) ((Int.toNat (c0 : Int)) - 1))]) M9 (fun v10 jZ =>
az (some v10) fun xN dH iL =>
((Mem.gp jZ ⟨k3, (k4 + 0), none⟩ 0 3) = some [(iV n5), (iV n6), (iV n7)]) ∧
IG jZ k1 (iV n5) (iV n6) (iV n7) fun pz =>
((Mem.gp pz ⟨k3, (k4 + 0), none⟩ 0 3) = some [(iV n5), (iV n6), (iV n7)]) ∧
nF pz k1 0 fun mO zY iu =>
K (.tuple #[(.agg #[(iV mO), (iV zY), (iV iu)]), (.slice xN dH iL)]) pz) Kp) :
 aa Tryz.prog 250 #[.slice B0 m0 c0] M K Kp := vw [(1, .bN [0, 1, 3, 0, 0, 16, 56, 127, 255] (sy [0, 1, 4, 5] (.fT 2 (sy [3, 6, 7, 8] .done))))] Tryz.func250 h
theorem qw {b0 o0 : Nat} {x1 : Int} (h :
rS M b0 (o0 + 2) fun A1 k2 k3 =>
(aa Tryz.prog 254 #[(.slice A1 k2 k3), (iV x1)] M (fun v4 M5 =>
 az (some v4) fun A6 k7 k8 =>
 rS M5 b0 (o0 + 3) fun A9 eJ en =>
 aa Tryz.prog 254 #[(.slice A9 eJ en), (iV x1)] M5 (fun HG kz =>
 az (some HG) fun nj gI gi =>
 sT kz b0 (o0 + 2) (.slice A6 k7 k8) fun pz =>
 sT pz b0 (o0 + 3) (.slice nj gI gi) fun qx =>
 K (.tuple #[]) qx) Kp) Kp) ∧
(rS M b0 (o0 + 3) fun AX iZ fe =>
 aa Tryz.prog 254 #[(.slice A1 k2 k3), (iV x1)] M (fun Gs mF =>
 az (some Gs) fun LW vb r9 =>
 aa Tryz.prog 254 #[(.slice AX iZ fe), (iV x1)] mF (fun I2 AU =>
 az (some I2) fun Gt lH nH =>
 sT AU b0 (o0 + 2) (.slice LW vb r9) fun oW =>
 sT oW b0 (o0 + 3) (.slice Gt lH nH) fun BQ =>
 K (.tuple #[]) BQ) Kp) Kp) ∧
True) :
 aa Tryz.prog 253 #[.pointer (some ⟨b0, o0, none⟩), .int .i64 x1] M K Kp := vw [(0, .bN [0, 0, 0, 4, 12, 28, 0, 124, 0, 256, 768, 1792, 0, 8188, 16381, 32765, 65533, 131071, 262143, 524287] (sy [0, 1, 2, 3, 4, 6, 8, 9, 10, 12, 5] (.fork 7 (sy [11, 13, 14, 15, 16, 17, 18, 19] .done) (.fork 11 (sy [7, 13, 14, 15, 16, 17, 18, 19] .done) .dead))))] Tryz.func253 h
theorem tP {B0 : Option Addr} {m0 c0 : Nat} {x1 : Int} (h :
∃ I1 : IT, (∃ k2, I1 k2 [(.slice none 0 0), (iV 0)] M) ∧
∀ (k3 : Nat) (_ : Nat → Value) (A5 : Option Addr) (k6 : Nat) (k7 : Nat) (n8 : Int) (M9 : Mem), (I1 k3 [(.slice A5 k6 k7), (iV n8)] M9) → aO (decide (n8 < m0))
 ((0 ≤ n8) ∧
 (n8 < m0) ∧
 aD B0 fun eJ en =>
 nF M9 eJ (en + ((Int.toNat n8) * 3)) fun iw jN mK =>
 bh M9 ji fun gI eZ =>
 IG eZ gI (iV iw) (iV jN) (iV mK) fun ku =>
 rI ku gI 0 fun iu =>
 aO (iu != x1)
 (rI ku gI 0 fun rz =>
 rI ku gI 1 fun va =>
 rI ku gI 2 fun zZ =>
 bh ku (cl [(iV rz), (iV va), (iV zZ)] 280) fun r6 E7 =>
 aA 195 A5 k6 k7 (some ⟨r6, 0, none⟩) 1 1 E7 (fun Pp tr =>
 az (some Pp) fun Gu uJ lH =>
 ∃ nH : Nat, (nH < k3) ∧
 I1 nH [(.slice Gu uJ lH), (iV (IntKind.wrap .i64 (n8 + 1)))] tr) Kp)
 (∃ nI : Nat, (nI < k3) ∧
 I1 nI [(.slice A5 k6 k7), (iV (IntKind.wrap .i64 (n8 + 1)))] ku))
 (K (.slice A5 k6 k7) M9)) :
 aa Tryz.prog 254 #[.slice B0 m0 c0, .int .i64 x1] M K Kp := vw [(2000000, .loop [(5, .c .sl), (10, .c (.int .i64))])] Tryz.func254 h
end Go.Proofs
namespace Go.Proofs
open Go.AF
set_option maxRecDepth 100000
set_option maxHeartbeats 1000000
attribute [local irreducible] aG cV fC b8 az e7 aD aF bh aW bG aO
theorem wE : bA Tryz.prog 53 2 1 8 [.int .i64 0] := bA.mk' (zv := .int .i64 0) (by kernel_rfl) (by kernel_rfl) rfl (by omega)
theorem vG : bA Tryz.prog 195 280 3 24 [.int .i64 0, .int .i64 0, .int .i64 0] := bA.mk' (zv := .agg #[.int .i64 0, .int .i64 0, .int .i64 0]) (by kernel_rfl) (by kernel_rfl) rfl (by omega)
abbrev qy (A : Option Addr) (c : Nat) (l : List Int) : HP := bV bB 2 A c l
abbrev sj (A : Option Addr) (c : Nat) (l : List Wt) : HP := bV hO 280 A c l
abbrev gF (c : aL) (Ab : Option Addr) (cb : Nat) (As : Option Addr) (cs : Nat) (Ar : Option Addr) (cr : Nat) : List Value :=
 [.int .i64 (c.room : Int), .slice Ab c.buf.length cb, .slice As c.snd.length cs, .slice Ar c.dS.length cr, .bool c.closed]
def br : ru aL := ⟨fun b c => exs fun Ab : Option Addr => exs fun cb : Nat => exs fun As : Option Addr => exs fun cs : Nat => exs fun Ar : Option Addr => exs fun cr : Nat =>
 sep [pt b (gF c Ab cb As cs Ar cr) 305, qy Ab cb c.buf, sj As cs c.snd, sj Ar cr c.dS]⟩
section
variable {R : Mem} {L L' : List HP} {M : Mem} {K : Value → Mem → Prop} {Kp : List PanicEntry → Mem → Prop} {b : Nat} {c : aL}
theorem gG (h : Hp R L M) [o : bZ br b L c L'] : ∃ Ab cb As cs Ar cr, Hp R (pt b (gF c Ab cb As cs Ar cr) 305 :: qy Ab cb c.buf :: sj As cs c.snd :: sj Ar cr c.dS :: L') M := by
 have := h.obj br b
 simpa only [br, Hp.dg, Hp.aQ, List.cons_append, List.nil_append] using this
theorem E8 {Ab As Ar : Option Addr} {cb cs cr : Nat} (h : Hp R (pt b (gF c Ab cb As cs Ar cr) 305 :: qy Ab cb c.buf :: sj As cs c.snd :: sj Ar cr c.dS :: L) M) : Hp R (ax br b c :: L) M := by
 refine Hp.u6 ?_
 simp only [br, Hp.dg, Hp.aQ, List.cons_append, List.nil_append]
 exact ⟨_, _, _, _, _, _, h⟩
theorem cD {Ab As Ar : Option Addr} {nb cb ns cs nr cr room : Nat} {closed : Bool} {buf : List Int} {snd dS : List Wt} {L1 L2 L3 L4 : List HP} (h : Hp R L M) (b : Nat)
  [p : jP b L [.int .i64 (room : Int), .slice Ab nb cb, .slice As ns cs, .slice Ar nr cr, .bool closed] 305 L1] [p1 : cq Ab L1 Int bB 2 cb buf L2] [p2 : cq As L2 Wt hO 280 cs snd L3] [p3 : cq Ar L3 Wt hO 280 cr dS L4]
  (e1 : nb = buf.length := by first | rfl | simp) (e2 : ns = snd.length := by first | rfl | simp) (e3 : nr = dS.length := by first | rfl | simp) : Hp R (ax br b ⟨room, buf, snd, dS, closed⟩ :: L4) M := by
 subst e1; subst e2; subst e3
 exact E8 (h.sub (.cons p.pick (.cons p1.pick (.cons p2.pick (.cons p3.pick .refl)))))
theorem yV {room : Int} (h : Hp R L M) (k : ∀ b M', Hp R (ax br b (.new room) :: L) M' → K (.pointer (some ⟨b, 0, none⟩)) M') :
  aa Tryz.prog 113 #[.int .i64 room] M K Kp := by
 refine zW ?_
 rw [IK]
 refine aj h fun b M' h => k b M' (E8 ((((h.cz hO _).cz hO _).cz bB _).sub bM))
theorem uK {B : Option Addr} {m c : Nat} {w : Wt} {r : List Wt} (h : Hp R L M) (hB : Src R L B (hO.cells (w :: r))) (hm : m = r.length + 1) (hc : m ≤ c) (hn : m ≤ 1000000000)
  (k : ∀ A' c' M', Hp R (sj A' c' r :: L) M' → K (.tuple #[.agg #[.int .i64 w.g, .int .i64 w.cs, .int .i64 w.v], .slice A' r.length c']) M') :
  aa Tryz.prog 250 #[.slice B m c] M K Kp := by
 refine wD ?_
 obtain ⟨b, o, rfl⟩ := hB.jY h (by simp) (by decide)
 repeat (first|(refine aj h ?_;clear h;intro kb M h)|(refine aq h ?_;clear h;intro M h)|refine St.to h ?_|(apply Exists.intro;(repeat apply Exists.intro);refine And.intro rfl ?_)|refine au ?_|refine af ?_|refine ai ?_)
 refine bq (hB.cons.at h (i := 0) (j := 0) rfl rfl (by omega)) ?_
 refine bq (hB.cons.at h (i := 0) (j := 1) rfl rfl (by omega)) ?_
 refine bq (hB.cons.at h (i := 0) (j := 2) rfl rfl (by omega)) ?_
 repeat (first|(refine aj h ?_;clear h;intro kb M h)|(refine aq h ?_;clear h;intro M h)|refine St.to h ?_|(apply Exists.intro;(repeat apply Exists.intro);refine And.intro rfl ?_)|refine au ?_|refine af ?_|refine ai ?_)
 have s2 := hB.drop (m := 1) (c := c) (by simp; omega)
 simp only [Int.toNat_natCast]
 refine h.iY hO vG r s2.cons.cons (by omega) (by omega) ?_
 clear h
 intro A' c' M h
 repeat (first|(refine aj h ?_;clear h;intro kb M h)|(refine aq h ?_;clear h;intro M h)|refine St.to h ?_|(apply Exists.intro;(repeat apply Exists.intro);refine And.intro rfl ?_)|refine au ?_|refine af ?_|refine ai ?_)
 refine ⟨hB.cons.cons.gp h (i := 0) rfl (by omega), ?_⟩
 repeat (first|(refine aj h ?_;clear h;intro kb M h)|(refine aq h ?_;clear h;intro M h)|refine St.to h ?_|(apply Exists.intro;(repeat apply Exists.intro);refine And.intro rfl ?_)|refine au ?_|refine af ?_|refine ai ?_)
 refine ⟨hB.cons.cons.gp h (i := 0) rfl (by omega), ?_⟩
 repeat (first|(refine aj h ?_;clear h;intro kb M h)|(refine aq h ?_;clear h;intro M h)|refine St.to h ?_|(apply Exists.intro;(repeat apply Exists.intro);refine And.intro rfl ?_)|refine au ?_|refine af ?_|refine ai ?_)
 exact k _ _ _ h.wB
theorem xZ (h : Hp R L M) [o : bZ br b L c L'] (k : K (.bool c.rV) M) : aa Tryz.prog 249 #[.pointer (some ⟨b, 0, none⟩)] M K Kp := by
 refine mN ?_
 have h' := gG h (b := b)
 clear h
 obtain ⟨Ab, cb, As, cs, Ar, cr, h⟩ := h'
 repeat (first|(refine aj h ?_;clear h;intro kb M h)|(refine aq h ?_;clear h;intro M h)|refine St.to h ?_|(apply Exists.intro;(repeat apply Exists.intro);refine And.intro rfl ?_)|refine au ?_|refine af ?_|refine ai ?_)
 refine fV.2 ⟨fun hc => ?_, fun hc => ?_⟩
 ·rwa [aL.rV, hc] at k
 ·repeat (first|(refine aj h ?_;clear h;intro kb M h)|(refine aq h ?_;clear h;intro M h)|refine St.to h ?_|(apply Exists.intro;(repeat apply Exists.intro);refine And.intro rfl ?_)|refine au ?_|refine af ?_|refine ai ?_)
  refine aM.2 ⟨fun hr => ?_, fun hr => ?_⟩
  ·have : c.dS.isEmpty = false := by cases hc : c.dS <;> simp_all
   rwa [aL.rV, hc, this] at k
  ·repeat (first|(refine aj h ?_;clear h;intro kb M h)|(refine aq h ?_;clear h;intro M h)|refine St.to h ?_|(apply Exists.intro;(repeat apply Exists.intro);refine And.intro rfl ?_)|refine au ?_|refine af ?_|refine ai ?_)
   have : c.dS.isEmpty = true := by cases hc : c.dS <;> simp_all
   rw [aL.rV, hc, this] at k
   simpa using k
theorem ya (h : Hp R L M) [o : bZ br b L c L'] (k : K (.bool c.rX) M) : aa Tryz.prog 248 #[.pointer (some ⟨b, 0, none⟩)] M K Kp := by
 refine mL ?_
 have h' := gG h (b := b)
 clear h
 obtain ⟨Ab, cb, As, cs, Ar, cr, h⟩ := h'
 repeat (first|(refine aj h ?_;clear h;intro kb M h)|(refine aq h ?_;clear h;intro M h)|refine St.to h ?_|(apply Exists.intro;(repeat apply Exists.intro);refine And.intro rfl ?_)|refine au ?_|refine af ?_|refine ai ?_)
 refine fV.2 ⟨fun hc => ?_, fun hc => ?_⟩
 ·rwa [aL.rX, hc] at k
 ·repeat (first|(refine aj h ?_;clear h;intro kb M h)|(refine aq h ?_;clear h;intro M h)|refine St.to h ?_|(apply Exists.intro;(repeat apply Exists.intro);refine And.intro rfl ?_)|refine au ?_|refine af ?_|refine ai ?_)
  refine aM.2 ⟨fun hr => ?_, fun hr => ?_⟩
  ·have : c.snd.isEmpty = false := by cases hc : c.snd <;> simp_all
   rwa [aL.rX, hc, this] at k
  ·repeat (first|(refine aj h ?_;clear h;intro kb M h)|(refine aq h ?_;clear h;intro M h)|refine St.to h ?_|(apply Exists.intro;(repeat apply Exists.intro);refine And.intro rfl ?_)|refine au ?_|refine af ?_|refine ai ?_)
   have : c.snd.isEmpty = true := by cases hc : c.snd <;> simp_all
   rw [aL.rX, hc, this] at k
   have e : (!c.buf.isEmpty) = decide ((c.buf.length : Int) > 0) := by cases c.buf <;> simp
   rw [← e]; simpa using k
theorem nJ {w : Wt} (h : Hp R L M) [o : bZ br b L c L'] (hs : c.Small 1000000000) (k : ∀ M', Hp R (ax br b { c with snd := c.snd ++ [w] } :: L') M' → K (.tuple #[]) M') :
  aa Tryz.prog 236 #[.pointer (some ⟨b, 0, none⟩), .agg #[.int .i64 w.g, .int .i64 w.cs, .int .i64 w.v]] M K Kp := by
 refine lX ?_
 have h' := gG h (b := b)
 clear h
 obtain ⟨Ab, cb, As, cs, Ar, cr, h⟩ := h'
 obtain ⟨h1, h2, h3⟩ := hs
 repeat (first|(refine aj h ?_;clear h;intro kb M h)|(refine aq h ?_;clear h;intro M h)|refine St.to h ?_|(apply Exists.intro;(repeat apply Exists.intro);refine And.intro rfl ?_)|refine au ?_|refine af ?_|refine ai ?_)
 refine h.bF vG [w] rfl rfl (by simp; omega) ?_
 clear h
 intro A' c' M h
 repeat (first|(refine aj h ?_;clear h;intro kb M h)|(refine aq h ?_;clear h;intro M h)|refine St.to h ?_|(apply Exists.intro;(repeat apply Exists.intro);refine And.intro rfl ?_)|refine au ?_|refine af ?_|refine ai ?_)
 exact k _ (cD h b).bP
theorem nK {w : Wt} (h : Hp R L M) [o : bZ br b L c L'] (hs : c.Small 1000000000) (k : ∀ M', Hp R (ax br b { c with dS := c.dS ++ [w] } :: L') M' → K (.tuple #[]) M') :
  aa Tryz.prog 235 #[.pointer (some ⟨b, 0, none⟩), .agg #[.int .i64 w.g, .int .i64 w.cs, .int .i64 w.v]] M K Kp := by
 refine lW ?_
 have h' := gG h (b := b)
 clear h
 obtain ⟨Ab, cb, As, cs, Ar, cr, h⟩ := h'
 obtain ⟨h1, h2, h3⟩ := hs
 repeat (first|(refine aj h ?_;clear h;intro kb M h)|(refine aq h ?_;clear h;intro M h)|refine St.to h ?_|(apply Exists.intro;(repeat apply Exists.intro);refine And.intro rfl ?_)|refine au ?_|refine af ?_|refine ai ?_)
 refine h.bF vG [w] rfl rfl (by simp; omega) ?_
 clear h
 intro A' c' M h
 repeat (first|(refine aj h ?_;clear h;intro kb M h)|(refine aq h ?_;clear h;intro M h)|refine St.to h ?_|(apply Exists.intro;(repeat apply Exists.intro);refine And.intro rfl ?_)|refine au ?_|refine af ?_|refine ai ?_)
 exact k _ (cD h b).bP
def N9 (x : Wt × Bool × Int) : Value := .tuple #[.agg #[.int .i64 x.1.g, .int .i64 x.1.cs, .int .i64 x.1.v], .bool x.2.1, .int .i64 x.2.2]
theorem DJ {v : Int} (h : Hp R L M) [o : bZ br b L c L'] (hs : c.Small 1000000000) (k : ∀ M', Hp R (ax br b (c.send v).1 :: L') M' → K (N9 (c.send v).2) M') :
  aa Tryz.prog 237 #[.pointer (some ⟨b, 0, none⟩), .int .i64 v] M K Kp := by
 refine qq ?_
 obtain ⟨room, buf, snd, dS, closed⟩ := c
 obtain ⟨h1, h2, h3⟩ := hs
 have h' := gG h (b := b)
 clear h
 obtain ⟨Ab, cb, As, cs, Ar, cr, h⟩ := h'
 dsimp only [gF] at h1 h2 h3 h
 repeat (first|(refine aj h ?_;clear h;intro kb M h)|(refine aq h ?_;clear h;intro M h)|refine St.to h ?_|(apply Exists.intro;(repeat apply Exists.intro);refine And.intro rfl ?_)|refine au ?_|refine af ?_|refine ai ?_)
 refine fV.2 ⟨fun hc => ?_, fun hc => ?_⟩
 ·subst hc
  repeat (first|(refine aj h ?_;clear h;intro kb M h)|(refine aq h ?_;clear h;intro M h)|refine St.to h ?_|(apply Exists.intro;(repeat apply Exists.intro);refine And.intro rfl ?_)|refine au ?_|refine af ?_|refine ai ?_)
  exact k _ (cD h b).bP
 subst hc
 repeat (first|(refine aj h ?_;clear h;intro kb M h)|(refine aq h ?_;clear h;intro M h)|refine St.to h ?_|(apply Exists.intro;(repeat apply Exists.intro);refine And.intro rfl ?_)|refine au ?_|refine af ?_|refine ai ?_)
 refine aM.2 ⟨fun hr => ?_, fun hr => ?_⟩
 ·cases dS with
  | nil => simp at hr
  | cons w r =>
   repeat (first|(refine aj h ?_;clear h;intro kb M h)|(refine aq h ?_;clear h;intro M h)|refine St.to h ?_|(apply Exists.intro;(repeat apply Exists.intro);refine And.intro rfl ?_)|refine au ?_|refine af ?_|refine ai ?_)
   refine uK h (h.src (A := Ar)) rfl (h.iJ Ar) (by simpa using h3) ?_
   clear h
   intro A' c' M h
   repeat (first|(refine aj h ?_;clear h;intro kb M h)|(refine aq h ?_;clear h;intro M h)|refine St.to h ?_|(apply Exists.intro;(repeat apply Exists.intro);refine And.intro rfl ?_)|refine au ?_|refine af ?_|refine ai ?_)
   exact k _ (cD h b).bP
 cases dS with
 | cons w r => simp at hr
 | nil =>
 simp only [aL.send, Bool.false_eq_true, if_false] at k
 repeat (first|(refine aj h ?_;clear h;intro kb M h)|(refine aq h ?_;clear h;intro M h)|refine St.to h ?_|(apply Exists.intro;(repeat apply Exists.intro);refine And.intro rfl ?_)|refine au ?_|refine af ?_|refine ai ?_)
 refine aM.2 ⟨fun hl => ?_, fun hl => ?_⟩
 ·rw [if_pos (by omega)] at k
  repeat (first|(refine aj h ?_;clear h;intro kb M h)|(refine aq h ?_;clear h;intro M h)|refine St.to h ?_|(apply Exists.intro;(repeat apply Exists.intro);refine And.intro rfl ?_)|refine au ?_|refine af ?_|refine ai ?_)
  refine h.bF wE [v] rfl rfl (by simp; omega) ?_
  clear h
  intro A' c' M h
  repeat (first|(refine aj h ?_;clear h;intro kb M h)|(refine aq h ?_;clear h;intro M h)|refine St.to h ?_|(apply Exists.intro;(repeat apply Exists.intro);refine And.intro rfl ?_)|refine au ?_|refine af ?_|refine ai ?_)
  exact k _ (cD h b).bP
 ·rw [if_neg (by omega)] at k
  repeat (first|(refine aj h ?_;clear h;intro kb M h)|(refine aq h ?_;clear h;intro M h)|refine St.to h ?_|(apply Exists.intro;(repeat apply Exists.intro);refine And.intro rfl ?_)|refine au ?_|refine af ?_|refine ai ?_)
  exact k _ (cD h b).bP
def Oa (x : Int × Bool × Wt × Bool × Int) : Value := .tuple #[.agg #[.int .i64 x.1, .bool x.2.1, .int .i64 x.2.2.1.g, .int .i64 x.2.2.1.cs, .int .i64 x.2.2.1.v, .bool x.2.2.2.1], .int .i64 x.2.2.2.2]
theorem DK (h : Hp R L M) [o : bZ br b L c L'] (hs : c.Small 1000000000) (k : ∀ M', Hp R (ax br b c.recv.1 :: L') M' → K (Oa c.recv.2) M') :
  aa Tryz.prog 239 #[.pointer (some ⟨b, 0, none⟩)] M K Kp := by
 refine qt ?_
 obtain ⟨room, buf, snd, dS, closed⟩ := c
 obtain ⟨h1, h2, h3⟩ := hs
 have h' := gG h (b := b)
 clear h
 obtain ⟨Ab, cb, As, cs, Ar, cr, h⟩ := h'
 dsimp only [gF] at h1 h2 h3 h
 refine aj h ?_
 clear h
 intro kr M h
 refine aj h ?_
 clear h
 intro kg M h
 repeat (first|(refine aj h ?_;clear h;intro kb M h)|(refine aq h ?_;clear h;intro M h)|refine St.to h ?_|(apply Exists.intro;(repeat apply Exists.intro);refine And.intro rfl ?_)|refine au ?_|refine af ?_|refine ai ?_)
 refine ⟨fun vs M => vs = [] ∧ ∃ Ab cb As cs, Hp R (pt kr [.int .i64 0, .bool false, .int .i64 0, .int .i64 0, .int .i64 0, .bool false] 381 ::
  pt kg [.int .i64 0, .bool false, .int .i64 (snd.headD .zero).g, .int .i64 (snd.headD .zero).cs, .int .i64 (snd.headD .zero).v, .bool (!snd.isEmpty)] 381 ::
  pt b (gF ⟨room, aL.all ⟨room, buf, snd, dS, closed⟩, snd.tail, dS, closed⟩ Ab cb As cs Ar cr) 305 :: qy Ab cb (aL.all ⟨room, buf, snd, dS, closed⟩) :: sj As cs snd.tail :: sj Ar cr dS :: L') M, ?_, ?_⟩
 ·refine aM.2 ⟨fun hr => ?_, fun hr => ?_⟩
  ·cases snd with
   | nil => simp at hr
   | cons w r =>
    repeat (first|(refine aj h ?_;clear h;intro kb M h)|(refine aq h ?_;clear h;intro M h)|refine St.to h ?_|(apply Exists.intro;(repeat apply Exists.intro);refine And.intro rfl ?_)|refine au ?_|refine af ?_|refine ai ?_)
    refine uK h (h.src (A := As)) rfl (h.iJ As) (by simpa using h2) ?_
    clear h
    intro A' c' M h
    repeat (first|(refine aj h ?_;clear h;intro kb M h)|(refine aq h ?_;clear h;intro M h)|refine St.to h ?_|(apply Exists.intro;(repeat apply Exists.intro);refine And.intro rfl ?_)|refine au ?_|refine af ?_|refine ai ?_)
    refine h.bF wE [w.v] rfl rfl (by simp; omega) ?_
    clear h
    intro A2 c2 M h
    repeat (first|(refine aj h ?_;clear h;intro kb M h)|(refine aq h ?_;clear h;intro M h)|refine St.to h ?_|(apply Exists.intro;(repeat apply Exists.intro);refine And.intro rfl ?_)|refine au ?_|refine af ?_|refine ai ?_)
    exact ⟨A2, c2, A', c', h.sub bM⟩
  ·cases snd with
   | cons w r => simp at hr
   | nil => exact ⟨rfl, Ab, cb, As, cs, h.sub bM⟩
 clear h
 rintro _ M ⟨_, Ab, cb, As, cs, h⟩
 unfold aL.recv at k
 dsimp only at k
 have fJ : (aL.all ⟨room, buf, snd, dS, closed⟩).length ≤ 1000000001 := by unfold aL.all; split <;> simp <;> omega
 have Lw : aL.all ⟨room, buf, snd, dS, closed⟩ = [] → snd = [] ∧ buf = [] := by unfold aL.all; dsimp only; cases snd <;> simp
 generalize aL.all ⟨room, buf, snd, dS, closed⟩ = all at h k fJ Lw
 dsimp only [gF] at h
 repeat (first|(refine aj h ?_;clear h;intro kb M h)|(refine aq h ?_;clear h;intro M h)|refine St.to h ?_|(apply Exists.intro;(repeat apply Exists.intro);refine And.intro rfl ?_)|refine au ?_|refine af ?_|refine ai ?_)
 refine aM.2 ⟨fun hr => ?_, fun hr => ?_⟩
 ·cases all with
  | nil => simp at hr
  | cons v l =>
   dsimp only at k
   repeat (first|(refine aj h ?_;clear h;intro kb M h)|(refine aq h ?_;clear h;intro M h)|refine St.to h ?_|(apply Exists.intro;(repeat apply Exists.intro);refine And.intro rfl ?_)|refine au ?_|refine af ?_|refine ai ?_)
   obtain ⟨x, rfl⟩ := h.bz (A := Ab) (by simp) (by decide)
   repeat (first|(refine aj h ?_;clear h;intro kb M h)|(refine aq h ?_;clear h;intro M h)|refine St.to h ?_|(apply Exists.intro;(repeat apply Exists.intro);refine And.intro rfl ?_)|refine au ?_|refine af ?_|refine ai ?_)
   refine bq ((h.src (A := some ⟨x, 0, none⟩)).at h (i := 0) (j := 0) rfl rfl (by omega)) ?_
   have hcap := h.iJ (some ⟨x, 0, none⟩)
   have hlen : l.length + 1 ≤ 1000000001 := by simpa using fJ
   repeat (first|(refine aj h ?_;clear h;intro kb M h)|(refine aq h ?_;clear h;intro M h)|refine St.to h ?_|(apply Exists.intro;(repeat apply Exists.intro);refine And.intro rfl ?_)|refine au ?_|refine af ?_|refine ai ?_)
   simp only [Int.toNat_natCast]
   refine h.iY bB wE l ((h.src (A := some ⟨x, 0, none⟩)).drop (m := 1) hcap) (by simp) (by omega) ?_
   clear h
   intro A' c' M h
   repeat (first|(refine aj h ?_;clear h;intro kb M h)|(refine aq h ?_;clear h;intro M h)|refine St.to h ?_|(apply Exists.intro;(repeat apply Exists.intro);refine And.intro rfl ?_)|refine au ?_|refine af ?_|refine ai ?_)
   exact k _ (cD h b).bP
 ·cases all with
  | cons v l => simp at hr
  | nil =>
  obtain ⟨rfl, rfl⟩ := Lw rfl
  repeat (first|(refine aj h ?_;clear h;intro kb M h)|(refine aq h ?_;clear h;intro M h)|refine St.to h ?_|(apply Exists.intro;(repeat apply Exists.intro);refine And.intro rfl ?_)|refine au ?_|refine af ?_|refine ai ?_)
  refine fV.2 ⟨fun hc => ?_, fun hc => ?_⟩
  ·subst hc
   repeat (first|(refine aj h ?_;clear h;intro kb M h)|(refine aq h ?_;clear h;intro M h)|refine St.to h ?_|(apply Exists.intro;(repeat apply Exists.intro);refine And.intro rfl ?_)|refine au ?_|refine af ?_|refine ai ?_)
   exact k _ (cD h b).bP
  ·subst hc
   repeat (first|(refine aj h ?_;clear h;intro kb M h)|(refine aq h ?_;clear h;intro M h)|refine St.to h ?_|(apply Exists.intro;(repeat apply Exists.intro);refine And.intro rfl ?_)|refine au ?_|refine af ?_|refine ai ?_)
   exact k _ (cD h b).bP
theorem BR (h : Hp R L M) [o : bZ br b L c L']
  (k : ∀ A ca B cb M', Hp R (ax br b c.close.1 :: sj B cb c.close.2.2.1 :: sj A ca c.close.2.1 :: L') M' → K (.tuple #[.slice A c.close.2.1.length ca, .slice B c.close.2.2.1.length cb, .int .i64 c.close.2.2.2]) M') :
  aa Tryz.prog 243 #[.pointer (some ⟨b, 0, none⟩)] M K Kp := by
 refine pq ?_
 obtain ⟨room, buf, snd, dS, closed⟩ := c
 have h' := gG h (b := b)
 clear h
 obtain ⟨Ab, cb, As, cs, Ar, cr, h⟩ := h'
 dsimp only [gF] at h
 repeat (first|(refine aj h ?_;clear h;intro kb M h)|(refine aq h ?_;clear h;intro M h)|refine St.to h ?_|(apply Exists.intro;(repeat apply Exists.intro);refine And.intro rfl ?_)|refine au ?_|refine af ?_|refine ai ?_)
 refine fV.2 ⟨fun hc => ?_, fun hc => ?_⟩
 ·subst hc
  have h := cD ((h.cz hO 280).cz hO 280) b
  exact k none 0 none 0 _ h
 ·subst hc
  repeat (first|(refine aj h ?_;clear h;intro kb M h)|(refine aq h ?_;clear h;intro M h)|refine St.to h ?_|(apply Exists.intro;(repeat apply Exists.intro);refine And.intro rfl ?_)|refine au ?_|refine af ?_|refine ai ?_)
  have h := (h.cz hO 280).cz hO 280
  exact k _ _ _ _ _ ((cD h b).sub bM)
theorem iy {B : Option Addr} {n cc : Nat} {g : Int} {l : List Wt} (h : Hp R L M) (hB : Src R L B (hO.cells l)) (hn : n = l.length) (hs : l.length ≤ 1000000000)
  (k : ∀ A' c' M', Hp R (sj A' c' (wo g l) :: L) M' → K (.slice A' (wo g l).length c') M') :
  aa Tryz.prog 254 #[.slice B n cc, .int .i64 g] M K Kp := by
 subst hn
 refine tP ⟨fun d vs M => ∃ i A c, vs = [.slice A (wo g (l.take i)).length c, .int .i64 (i : Int)] ∧ d = l.length - i ∧ i ≤ l.length ∧ Hp R (sj A c (wo g (l.take i)) :: L) M,
  ⟨_, 0, none, 0, rfl, rfl, by omega, h.cz _ _⟩, ?_⟩
 clear h
 rintro d _ A n c' ii M ⟨i, _, _, he, hd, hi, h⟩
 simp only [List.cons.injEq, Value.slice.injEq, Value.int.injEq, and_true, true_and] at he
 obtain ⟨⟨rfl, rfl, rfl⟩, rfl⟩ := he
 refine aM.2 ⟨fun hlt => ?_, fun hge => ?_⟩
 ·obtain ⟨w, hw⟩ := aK (l := l) (i := i) (by omega)
  obtain ⟨b, o, rfl⟩ := hB.cons.jY h (by omega) (by decide)
  have e1 : IntKind.wrap .i64 ((i : Int) + 1) = ((i + 1 : Nat) : Int) := bn (by omega)
  have hl := DB g (l.take i)
  have kA := List.length_take_le i l
  rw [e1]
  repeat (first|(refine aj h ?_;clear h;intro kb M h)|(refine aq h ?_;clear h;intro M h)|refine St.to h ?_|(apply Exists.intro;(repeat apply Exists.intro);refine And.intro rfl ?_)|refine au ?_|refine af ?_|refine ai ?_)
  refine bq (hB.cons.at h (j := 0) hw rfl (by simp [hO])) ?_
  refine bq (hB.cons.at h (j := 1) hw rfl (by simp [hO]; omega)) ?_
  refine bq (hB.cons.at h (j := 2) hw rfl (by simp [hO]; omega)) ?_
  repeat (first|(refine aj h ?_;clear h;intro kb M h)|(refine aq h ?_;clear h;intro M h)|refine St.to h ?_|(apply Exists.intro;(repeat apply Exists.intro);refine And.intro rfl ?_)|refine au ?_|refine af ?_|refine ai ?_)
  refine de.2 ⟨fun hne => ?_, fun heq => ?_⟩
  ·have e2 : wo g (l.take (i + 1)) = wo g (l.take i) ++ [w] := by rw [dN hw, IM]; simp [wo, hne]
   repeat (first|(refine aj h ?_;clear h;intro kb M h)|(refine aq h ?_;clear h;intro M h)|refine St.to h ?_|(apply Exists.intro;(repeat apply Exists.intro);refine And.intro rfl ?_)|refine au ?_|refine af ?_|refine ai ?_)
   refine h.bF vG [w] rfl rfl (by simp; omega) ?_
   clear h
   intro A' c' M h
   repeat (first|(refine aj h ?_;clear h;intro kb M h)|(refine aq h ?_;clear h;intro M h)|refine St.to h ?_|(apply Exists.intro;(repeat apply Exists.intro);refine And.intro rfl ?_)|refine au ?_|refine af ?_|refine ai ?_)
   exact ⟨l.length - (i + 1), by omega, i + 1, A', c', by rw [e2], rfl, by omega, by rw [e2]; exact h.bP⟩
  ·have e2 : wo g (l.take (i + 1)) = wo g (l.take i) := by rw [dN hw, IM]; simp [wo, heq]
   exact ⟨l.length - (i + 1), by omega, i + 1, A, c', by rw [e2], rfl, by omega, by rw [e2]; exact h.wB⟩
 ·have : i = l.length := by omega
  subst this
  rw [List.take_length] at h ⊢
  exact k _ _ _ h
theorem DL {g : Int} (h : Hp R L M) [o : bZ br b L c L'] (hs : c.Small 1000000000) (k : ∀ M', Hp R (ax br b (c.drop g) :: L') M' → K (.tuple #[]) M') :
  aa Tryz.prog 253 #[.pointer (some ⟨b, 0, none⟩), .int .i64 g] M K Kp := by
 refine qw ?_
 have h' := gG h (b := b)
 clear h
 obtain ⟨Ab, cb, As, cs, Ar, cr, h⟩ := h'
 obtain ⟨h1, h2, h3⟩ := hs
 repeat (first|(refine aj h ?_;clear h;intro kb M h)|(refine aq h ?_;clear h;intro M h)|refine St.to h ?_|(apply Exists.intro;(repeat apply Exists.intro);refine And.intro rfl ?_)|refine au ?_|refine af ?_|refine ai ?_)
 refine ⟨?_, ?_, trivial⟩
 ·refine iy h (h.src (A := As)) rfl h2 ?_
  clear h
  intro A' c' M h
  repeat (first|(refine aj h ?_;clear h;intro kb M h)|(refine aq h ?_;clear h;intro M h)|refine St.to h ?_|(apply Exists.intro;(repeat apply Exists.intro);refine And.intro rfl ?_)|refine au ?_|refine af ?_|refine ai ?_)
  refine iy h (h.src (A := Ar)) rfl h3 ?_
  clear h
  intro B' d' M h
  repeat (first|(refine aj h ?_;clear h;intro kb M h)|(refine aq h ?_;clear h;intro M h)|refine St.to h ?_|(apply Exists.intro;(repeat apply Exists.intro);refine And.intro rfl ?_)|refine au ?_|refine af ?_|refine ai ?_)
  exact k _ (cD h b).bP
 ·repeat (first|(refine aj h ?_;clear h;intro kb M h)|(refine aq h ?_;clear h;intro M h)|refine St.to h ?_|(apply Exists.intro;(repeat apply Exists.intro);refine And.intro rfl ?_)|refine au ?_|refine af ?_|refine ai ?_)
  refine iy h (h.src (A := As)) rfl h2 ?_
  clear h
  intro A' c' M h
  repeat (first|(refine aj h ?_;clear h;intro kb M h)|(refine aq h ?_;clear h;intro M h)|refine St.to h ?_|(apply Exists.intro;(repeat apply Exists.intro);refine And.intro rfl ?_)|refine au ?_|refine af ?_|refine ai ?_)
  refine iy h (h.src (A := Ar)) rfl h3 ?_
  clear h
  intro B' d' M h
  repeat (first|(refine aj h ?_;clear h;intro kb M h)|(refine aq h ?_;clear h;intro M h)|refine St.to h ?_|(apply Exists.intro;(repeat apply Exists.intro);refine And.intro rfl ?_)|refine au ?_|refine af ?_|refine ai ?_)
  exact k _ (cD h b).bP
end
end Go.Proofs
namespace Go.AF
theorem lY {α β γ : Type} {f : α → β → γ} : ∀ {l : List α} {m : List β} {i : Nat} {a : α} {b : β}, l[i]? = some a → (List.zipWith f l m).set i (f a b) = List.zipWith f l (m.set i b)
 | [], _, _, _, _, h => by simp at h
 | x :: l, [], i, a, b, h => by simp
 | x :: l, y :: m, 0, a, b, h => by simp at h; subst h; rfl
 | x :: l, y :: m, i + 1, a, b, h => by
  have := lY (f := f) (m := m) (b := b) (show l[i]? = some a from by simpa using h)
  simp [this]
theorem DM {α β γ : Type} {f : α → β → γ} : ∀ {l : List α} {m : List β} {i : Nat} {a : α} {b : β}, l[i]? = some a → m[i]? = some b → (List.zipWith f l m)[i]? = some (f a b)
 | [], _, _, _, _, h, _ => by simp at h
 | x :: l, [], i, a, b, h, g => by simp at g
 | x :: l, y :: m, 0, a, b, h, g => by simp at h g; subst h; subst g; rfl
 | x :: l, y :: m, i + 1, a, b, h, g => by simpa using DM (f := f) (show l[i]? = some a from by simpa using h) (show m[i]? = some b from by simpa using g)
theorem cy.S8 {P : HP} {L : List HP} : ∀ (l : List HP), cy (l ++ P :: L) P (l ++ L)
 | [] => .here
 | Q :: l => .there (cy.S8 l)
section
variable {α : Type} {r : ru α} {R : Mem} {L L' mD : List HP} {M : Mem} {bs : List Nat} {cs : List α} {b i : Nat} {c : α}
def aP (r : ru α) (bs : List Nat) (cs : List α) : HP := sep (List.zipWith (ax r) bs cs)
def j0 (r : ru α) (bs : List Nat) (cs : List α) (i : Nat) : HP := sep ((List.zipWith (ax r) bs cs).eraseIdx i)
class eU (r : ru α) (L : List HP) (bs : outParam (List Nat)) (cs : outParam (List α)) (L' : outParam (List HP)) : Prop where
 pick : cy L (aP r bs cs) L'
instance eU.here : eU r (aP r bs cs :: L) bs cs L := ⟨.here⟩
instance (priority := low) eU.there {P : HP} [h : eU r L bs cs L'] : eU r (P :: L) bs cs (P :: L') := ⟨.there h.pick⟩
class uL (r : ru α) (L : List HP) (bs : outParam (List Nat)) (cs : outParam (List α)) (i : outParam Nat) (L' : outParam (List HP)) : Prop where
 pick : cy L (j0 r bs cs i) L'
instance uL.here : uL r (j0 r bs cs i :: L) bs cs i L := ⟨.here⟩
instance (priority := low) uL.there {P : HP} [h : uL r L bs cs i L'] : uL r (P :: L) bs cs i (P :: L') := ⟨.there h.pick⟩
theorem Hp.lZ (h : Hp R L M) (r : ru α) {bs : List Nat} {cs : List α} [o : eU r L bs cs L'] : Hp R (aP r bs cs :: L') M := h.pick o.pick
theorem Hp.sk (h : Hp R L M) (r : ru α) : Hp R (aP r [] [] :: L) M := Hp.aQ.2 h
theorem Hp.cB (h : Hp R L M) (r : ru α) {bs : List Nat} {cs : List α} [o : eU r L bs cs L'] (hb : bs[i]? = some b) (hc : cs[i]? = some c) : Hp R (ax r b c :: j0 r bs cs i :: L') M :=
 (h.pick o.pick).focus (DM hb hc)
theorem Hp.dh (h : Hp R L M) (r : ru α) (b : Nat) {bs : List Nat} {cs : List α} {i : Nat} {c : α} [o : bZ r b L c L'] [x : uL r L' bs cs i mD] (hb : bs[i]? = some b) (hc : i < cs.length) : Hp R (aP r bs (cs.set i c) :: mD) M := by
 have h1 : Hp R (ax r b c :: j0 r bs cs i :: mD) M := (h.pick o.pick).map fun _ hs => hs.tail (fun _ => bO.pick x.pick)
 have h2 := Hp.LD (ls := List.zipWith (ax r) bs cs) h1 (by rw [List.length_zipWith]; have := (List.getElem?_eq_some_iff.1 hb).1; omega)
 rw [lY hb] at h2
 exact h2
theorem Hp.tQ (h : Hp R L M) (r : ru α) (b : Nat) {bs : List Nat} {cs : List α} {i : Nat} {c : α} [o : bZ r b L c L'] [x : uL r L' bs cs i mD] (hb : bs[i]? = some b) (hc : cs[i]? = some c) : Hp R (aP r bs cs :: mD) M := by
 have := h.dh r b hb (List.getElem?_eq_some_iff.1 hc).1
 obtain ⟨hi, rfl⟩ := List.getElem?_eq_some_iff.1 hc
 rwa [List.set_getElem_self] at this
theorem Hp.jk (h : Hp R L M) (r : ru α) (b : Nat) {bs : List Nat} {cs : List α} {c : α} [o : bZ r b L c L'] [x : eU r L' bs cs mD] (hl : bs.length = cs.length) : Hp R (aP r (bs ++ [b]) (cs ++ [c]) :: mD) M := by
 have h1 : Hp R (ax r b c :: aP r bs cs :: mD) M := (h.pick o.pick).map fun _ hs => hs.tail (fun _ => bO.pick x.pick)
 refine Hp.aQ.2 ?_
 rw [List.zipWith_append hl, List.append_assoc]
 refine Hp.lS (P := ax r b c) ?_ (cy.S8 _)
 exact h1.map fun _ hs => hs.tail fun _ hb => bO.aQ.1 hb
end
end Go.AF
namespace Go.Proofs
open Go.AF
set_option maxRecDepth 100000
variable {M : Mem} {K : Value → Mem → Prop} {Kp : List PanicEntry → Mem → Prop}
theorem tR {B0 : Option Addr} {m0 c0 : Nat} {B1 : Option Addr} {m1 c1 : Nat} (h :
∃ I1 : IT, (∃ k2, I1 k2 [(.slice none 0 0), (iV 0)] M) ∧
∀ (k3 : Nat) (_ : Nat → Value) (A5 : Option Addr) (k6 : Nat) (k7 : Nat) (n8 : Int) (M9 : Mem), (I1 k3 [(.slice A5 k6 k7), (iV n8)] M9) → aO (decide (n8 < m0))
 ((0 ≤ n8) ∧
 (n8 < m0) ∧
 aD B0 fun eJ en =>
 nF M9 eJ (en + ((Int.toNat n8) * 3)) fun iw jN mK =>
 bh M9 oT fun gI eZ =>
 IG eZ gI (iV iw) (iV jN) (iV mK) fun ku =>
 nF ku gI 0 fun iu rz va =>
 aa Tryz.prog 234 #[(.agg #[(iV iu), (iV rz), (iV va)]), (.slice B1 m1 c1)] ku (fun S9 jj =>
 cV (some S9) fun t25 =>
 aO t25
 (bh jj (cl [(iV n8)] 3) fun r9 tr =>
 aA 36 A5 k6 k7 (some ⟨r9, 0, none⟩) 1 1 tr (fun Pq ni =>
 az (some Pq) fun Ta nH nI =>
 ∃ z0 : Nat, (z0 < k3) ∧
 I1 z0 [(.slice Ta nH nI), (iV (IntKind.wrap .i64 (n8 + 1)))] ni) Kp)
 (∃ yS : Nat, (yS < k3) ∧
 I1 yS [(.slice A5 k6 k7), (iV (IntKind.wrap .i64 (n8 + 1)))] jj)) Kp)
 (K (.slice A5 k6 k7) M9)) :
 aa Tryz.prog 205 #[.slice B0 m0 c0, .slice B1 m1 c1] M K Kp := vw [(2000000, .loop [(5, .c .sl), (10, .c (.int .i64))])] Tryz.func205 h
theorem yb {B0 : Option Addr} {m0 c0 : Nat} (h :
∃ I1 : IT, (∃ k2, I1 k2 [(iV 0)] M) ∧
∀ (k3 : Nat) (_ : Nat → Value) (n5 : Int) (M6 : Mem), (I1 k3 [(iV n5)] M6) → aO (decide (n5 < m0))
 ((0 ≤ n5) ∧
 (n5 < m0) ∧
 aD B0 fun k7 k8 =>
 nF M6 k7 (k8 + ((Int.toNat n5) * 3)) fun n9 kB gQ =>
 bh M6 oT fun gh kz =>
 IG kz gh (iV n9) (iV kB) (iV gQ) fun eZ =>
 rI eZ gh 0 fun kC =>
 aO (kC == 2)
 (K (.tuple #[(iV n5), (.bool true)]) eZ)
 (∃ gq : Nat, (gq < k3) ∧
 I1 gq [(iV (IntKind.wrap .i64 (n5 + 1)))] eZ))
 (K (.tuple #[(iV 0), (.bool false)]) M6)) :
 aa Tryz.prog 206 #[.slice B0 m0 c0] M K Kp := vw [(2000000, .loop [(8, .c (.int .i64))])] Tryz.func206 h
theorem yc {x0 : Int} {B1 : Option Addr} {m1 c1 : Nat} {B2 : Option Addr} {m2 c2 : Nat} {B3 : Option Addr} {m3 c3 : Nat} (h :
∃ I1 : IT, (∃ k2, I1 k2 [(iV 0)] M) ∧
∀ (k3 : Nat) (_ : Nat → Value) (n5 : Int) (M6 : Mem), (I1 k3 [(iV n5)] M6) → aO (decide (n5 < m1))
 ((0 ≤ n5) ∧
 (n5 < m1) ∧
 aD B1 fun k7 k8 =>
 nF M6 k7 (k8 + ((Int.toNat n5) * 3)) fun n9 kB gQ =>
 bh M6 oT fun gh kz =>
 IG kz gh (iV n9) (iV kB) (iV gQ) fun eZ =>
 rI eZ gh 0 fun kC =>
 aO (kC == 0)
 (rI eZ gh 1 fun mO =>
 (0 ≤ mO) ∧
 (mO < m3) ∧
 aD B3 fun iI iZ =>
 rP eZ iI (iZ + (Int.toNat mO)) fun yd =>
 aa Tryz.prog 235 #[(.pointer yd), (.agg #[(iV x0), (iV n5), (iV 0)])] eZ (fun Gs mF =>
 (Gs = (.tuple #[])) ∧
 ∃ r6 : Nat, (r6 < k3) ∧
 I1 r6 [(iV (IntKind.wrap .i64 (n5 + 1)))] mF) Kp)
 (aO (kC == 1)
 (rI eZ gh 1 fun tS =>
 (0 ≤ tS) ∧
 (tS < m3) ∧
 aD B3 fun r9 zX =>
 rP eZ r9 (zX + (Int.toNat tS)) fun Gu =>
 rI eZ gh 2 fun yW =>
 (0 ≤ yW) ∧
 (yW < m2) ∧
 aD B2 fun lH nH =>
 rI eZ lH (nH + (Int.toNat yW)) fun n32 =>
 aa Tryz.prog 236 #[(.pointer Gu), (.agg #[(iV x0), (iV n5), (iV n32)])] eZ (fun Wx rC =>
 (Wx = (.tuple #[])) ∧
 ∃ yT : Nat, (yT < k3) ∧
 I1 yT [(iV (IntKind.wrap .i64 (n5 + 1)))] rC) Kp)
 (∃ Gv : Nat, (Gv < k3) ∧
 I1 Gv [(iV (IntKind.wrap .i64 (n5 + 1)))] eZ)))
 (K (.tuple #[]) M6)) :
 aa Tryz.prog 207 #[.int .i64 x0, .slice B1 m1 c1, .slice B2 m2 c2, .slice B3 m3 c3] M K Kp := vw [(2000000, .loop [(12, .c (.int .i64))]), (7, .bN [0, 0, 2, 7, 15, 0, 0, 0, 0, 256, 896, 1920, 4064, 8191] (sy [0, 1, 5, 6, 7, 8, 2, 3, 4, 9, 10, 11, 12, 13] .done))] Tryz.func207 h
theorem so {BS : Int} {BT : Int} {sq : Int} {B1 : Option Addr} {m1 c1 : Nat} (h :
bh M (cl [(iV BS), (iV BT), (iV sq)] 165) fun k1 M2 =>
rI M2 k1 0 fun n3 =>
aO (n3 == 0)
 (rI M2 k1 1 fun n4 =>
 (0 ≤ n4) ∧
 (n4 < m1) ∧
 aD B1 fun k5 k6 =>
 rP M2 k5 (k6 + (Int.toNat n4)) fun A7 =>
 aa Tryz.prog 248 #[(.pointer A7)] M2 (fun v8 M9 =>
 cV (some v8) fun t10 =>
 K (.bool t10) M9) Kp)
 (aO (n3 == 1)
 (rI M2 k1 1 fun gQ =>
 (0 ≤ gQ) ∧
 (gQ < m1) ∧
 aD B1 fun gh dH =>
 rP M2 gh (dH + (Int.toNat gQ)) fun nj =>
 aa Tryz.prog 249 #[(.pointer nj)] M2 (fun DN eZ =>
 cV (some DN) fun t17 =>
 K (.bool t17) eZ) Kp)
 (K (.bool false) M2))) :
 aa Tryz.prog 234 #[.agg #[.int .i64 BS, .int .i64 BT, .int .i64 sq], .slice B1 m1 c1] M K Kp := vw [] Tryz.func234 h
theorem wF {x0 : Int} {B1 : Option Addr} {m1 c1 : Nat} (h :
∃ I1 : IT, (∃ k2, I1 k2 [(iV 0)] M) ∧
∀ (k3 : Nat) (_ : Nat → Value) (n5 : Int) (M6 : Mem), (I1 k3 [(iV n5)] M6) → aO (decide (n5 < m1))
 ((0 ≤ n5) ∧
 (n5 < m1) ∧
 aD B1 fun k7 k8 =>
 rP M6 k7 (k8 + (Int.toNat n5)) fun A9 =>
 aa Tryz.prog 253 #[(.pointer A9), (iV x0)] M6 (fun v10 jZ =>
 (v10 = (.tuple #[])) ∧
 ∃ gh : Nat, (gh < k3) ∧
 I1 gh [(iV (IntKind.wrap .i64 (n5 + 1)))] jZ) Kp)
 (K (.tuple #[]) M6)) :
 aa Tryz.prog 252 #[.int .i64 x0, .slice B1 m1 c1] M K Kp := vw [(2000000, .loop [(8, .c (.int .i64))])] Tryz.func252 h
end Go.Proofs
namespace Go.Proofs
open Go.AF
set_option maxRecDepth 100000
set_option maxHeartbeats 1000000
attribute [local irreducible] aG cV fC b8 az e7 aD aF bh aW bG aO
structure oY where
 way : Int
 ch : Int
 bN : Int
 deriving DecidableEq
def wG : jO oY := ⟨3, fun w => [.int .i64 w.way, .int .i64 w.ch, .int .i64 w.bN], fun _ => rfl, fun w v hv => by
 simp only [List.mem_cons, List.not_mem_nil, or_false] at hv; obtain rfl | rfl | rfl := hv <;> rfl⟩
def oY.Ok (n : Nat) (c : oY) : Prop := 0 ≤ c.way ∧ c.way ≤ 2 ∧ (c.way ≠ 2 → 0 ≤ c.ch ∧ c.ch < n ∧ 0 ≤ c.bN ∧ c.bN < 8)
instance (n : Nat) (c : oY) : Decidable (c.Ok n) := by unfold oY.Ok; infer_instance
def cR (cs : List aL) (k : Int) : aL := cs.getD k.toNat ⟨0, [], [], [], false⟩
def can (cs : List aL) (c : oY) : Bool := if c.way = 0 then (cR cs c.ch).rX else if c.way = 1 then (cR cs c.ch).rV else false
def I3 (cases : List oY) (cs : List aL) (j : Nat) : Bool := match cases[j]? with
 | some c => can cs c
 | none => false
def z8 (cases : List oY) (cs : List aL) (i : Nat) : List Int := ((List.range i).filter (I3 cases cs)).map Int.ofNat
def enabled (cases : List oY) (cs : List aL) : List Int := z8 cases cs cases.length
theorem BU (cases : List oY) (cs : List aL) (i : Nat) : (z8 cases cs i).length ≤ i := by
 unfold z8; rw [List.length_map]; exact Nat.le_trans (List.length_filter_le ..) (by simp)
theorem yX {cases : List oY} {cs : List aL} {i : Nat} {c : oY} (h : cases[i]? = some c) : z8 cases cs (i + 1) = z8 cases cs i ++ (if can cs c then [(i : Int)] else []) := by
 unfold z8
 rw [List.range_succ, List.filter_append, List.map_append]
 simp only [List.filter_cons, I3, h, List.filter_nil]
 split <;> simp_all
def els (cases : List oY) : Option Nat := cases.findIdx? (fun c => c.way == 2)
def ja (g : Int) (eV : List Int) (i : Nat) (c : oY) (cs : List aL) : List aL :=
 if c.way = 0 then cs.set c.ch.toNat { cR cs c.ch with dS := (cR cs c.ch).dS ++ [⟨g, i, 0⟩] }
 else if c.way = 1 then cs.set c.ch.toNat { cR cs c.ch with snd := (cR cs c.ch).snd ++ [⟨g, i, eV.getD c.bN.toNat 0⟩] } else cs
def dF (g : Int) (eV : List Int) (cases : List oY) (cs : List aL) : Nat → List aL
 | 0 => cs
 | i + 1 => match cases[i]? with
  | some c => ja g eV i c (dF g eV cases cs i)
  | none => dF g eV cases cs i
theorem BV (g : Int) (eV : List Int) (i : Nat) (c : oY) (cs : List aL) : (ja g eV i c cs).length = cs.length := by
 unfold ja; split
 ·simp
 ·split <;> simp
theorem jz (g : Int) (eV : List Int) (cases : List oY) (cs : List aL) : ∀ i, (dF g eV cases cs i).length = cs.length
 | 0 => rfl
 | i + 1 => by
  unfold dF; split
  ·rw [BV, jz _ _ _ _ i]
  ·exact jz _ _ _ _ i
theorem mem_set {α : Type} {l : List α} {i : Nat} {x y : α} (h : y ∈ l.set i x) : y ∈ l ∨ y = x := by
 rcases List.mem_or_eq_of_mem_set h with h | h
 ·exact .inl h
 ·exact .inr h
theorem sr {cs : List aL} {k : Int} (h0 : 0 ≤ k) (h : k < cs.length) : cR cs k ∈ cs := by
 unfold cR; rw [List.getD_eq_getElem?_getD, List.getElem?_eq_getElem (by omega)]; exact List.getElem_mem _
theorem ye {g : Int} {eV : List Int} {i : Nat} {c : oY} {cs : List aL} {N : Nat} (hs : ∀ x ∈ cs, x.Small N) (hc : c.Ok cs.length) : ∀ x ∈ ja g eV i c cs, x.Small (N + 1) := by
 obtain ⟨_, _, kk⟩ := hc
 intro x hm
 unfold ja at hm
 split at hm
 ·rename_i hw
  have hx := hs _ (sr (kk (by omega)).1 (kk (by omega)).2.1)
  rcases mem_set hm with h | rfl
  ·exact (hs x h).mono (by omega)
  ·exact hx.wr _
 split at hm
 ·rename_i hw
  have hx := hs _ (sr (kk (by omega)).1 (kk (by omega)).2.1)
  rcases mem_set hm with h | rfl
  ·exact (hs x h).mono (by omega)
  ·exact hx.ws _
 ·exact (hs x hm).mono (by omega)
theorem l8 {g : Int} {eV : List Int} {cases : List oY} {cs : List aL} {N : Nat} (hs : ∀ x ∈ cs, x.Small N) (hok : ∀ c ∈ cases, c.Ok cs.length) : ∀ i, ∀ x ∈ dF g eV cases cs i, x.Small (N + i)
 | 0 => hs
 | i + 1 => by
  unfold dF; split
  ·rename_i c hc
   exact ye (l8 hs hok i) (by rw [jz]; exact hok c (List.mem_of_getElem? hc))
  ·exact fun x hx => (l8 hs hok i x hx).mono (by omega)
section
variable {R : Mem} {L L' : List HP} {M : Mem} {K : Value → Mem → Prop} {Kp : List PanicEntry → Mem → Prop} {bs : List Nat} {cs : List aL}
theorem z9 : bA Tryz.prog 36 3 1 8 [.int .i64 0] := bA.mk' (zv := .int .i64 0) (by kernel_rfl) (by kernel_rfl) rfl (by omega)
theorem I7 {cases : List oY} {i : Nat} {c : oY} (hc : cases[i]? = some c) (hw : c.way = 2) (hp : ∀ j c, j < i → cases[j]? = some c → c.way ≠ 2) : els cases = some i := by
 obtain ⟨hi, e⟩ := List.getElem?_eq_some_iff.1 hc
 refine List.findIdx?_eq_some_iff_getElem.2 ⟨hi, by rw [e]; simpa using hw, fun j hj => ?_⟩
 have := hp j _ hj (List.getElem?_eq_getElem (by omega))
 simpa using this
theorem I9 {cases : List oY} (hp : ∀ j c, j < cases.length → cases[j]? = some c → c.way ≠ 2) : els cases = none := by
 refine List.findIdx?_eq_none_iff.2 fun c hc => ?_
 obtain ⟨j, hj, e⟩ := List.getElem_of_mem hc
 have := hp j c hj (by rw [← e]; exact List.getElem?_eq_getElem hj)
 simpa using this
theorem DO {B : Option Addr} {m cc : Nat} {cases : List oY} (h : Hp R L M) (hB : Src R L B (wG.cells cases)) (hm : m = cases.length) (hb : cases.length ≤ 1000000000)
  (k : ∀ M', Hp R L M' → K (.tuple #[.int .i64 (match els cases with | some i => (i : Int) | none => 0), .bool (els cases).isSome]) M') :
  aa Tryz.prog 206 #[.slice B m cc] M K Kp := by
 subst hm
 refine yb ⟨fun d ws M => ∃ i : Nat, ws = [.int .i64 (i : Int)] ∧ d = cases.length - i ∧ i ≤ cases.length ∧ (∀ j c, j < i → cases[j]? = some c → c.way ≠ 2) ∧ Hp R L M, ⟨_, 0, rfl, rfl, by omega, fun j c hj => by omega, h⟩, ?_⟩
 clear h
 rintro d _ ii M ⟨i, he, hd, hi, hp, h⟩
 simp only [List.cons.injEq, Value.int.injEq, and_true, true_and] at he
 subst he
 refine aM.2 ⟨fun hlt => ?_, fun hge => ?_⟩
 ·obtain ⟨c, hc⟩ := aK (l := cases) (i := i) (by omega)
  obtain ⟨b, o, rfl⟩ := hB.jY h (by omega) (by decide)
  repeat (first|(refine aj h ?_;clear h;intro kb M h)|(refine aq h ?_;clear h;intro M h)|refine St.to h ?_|(apply Exists.intro;(repeat apply Exists.intro);refine And.intro rfl ?_)|refine au ?_|refine af ?_|refine ai ?_)
  simp only [Int.toNat_natCast]
  refine bq (hB.at h (i := i) (j := 0) hc rfl rfl) ?_
  refine bq (hB.at h (i := i) (j := 1) hc rfl rfl) ?_
  refine bq (hB.at h (i := i) (j := 2) hc rfl rfl) ?_
  repeat (first|(refine aj h ?_;clear h;intro kb M h)|(refine aq h ?_;clear h;intro M h)|refine St.to h ?_|(apply Exists.intro;(repeat apply Exists.intro);refine And.intro rfl ?_)|refine au ?_|refine af ?_|refine ai ?_)
  refine bU.2 ⟨fun e => ?_, fun e => ?_⟩
  ·have := I7 hc e hp
   rw [this] at k
   exact k _ h.wB
  ·rw [bn (by omega)]
   refine ⟨cases.length - (i + 1), by omega, i + 1, rfl, rfl, by omega, fun j c' hj C4 => ?_, h.wB⟩
   rcases Nat.lt_or_ge j i with iH | iH
   ·exact hp j c' iH C4
   ·obtain rfl : j = i := by omega
    rw [hc] at C4; cases C4; exact e
 ·obtain rfl : i = cases.length := by omega
  rw [I9 hp] at k
  exact k _ h
theorem Gw {c : oY} {B : Option Addr} {m cc : Nat} (h : Hp R L M) [o : eU br L bs cs L'] (hB : Src R L' B (kq.cells bs)) (hm : m = bs.length) (hl : bs.length = cs.length) (hc : c.way ≠ 2 → 0 ≤ c.ch ∧ c.ch < cs.length) (DP : 0 ≤ c.way ∧ c.way ≤ 2)
  (k : ∀ M', Hp R (aP br bs cs :: L') M' → K (.bool (can cs c)) M') : aa Tryz.prog 234 #[.agg #[.int .i64 c.way, .int .i64 c.ch, .int .i64 c.bN], .slice B m cc] M K Kp := by
 subst hm
 replace h := h.lZ br
 obtain ⟨way, ch, bN⟩ := c
 dsimp only at *
 by_cases Vb : way = 2
 ·subst Vb
  refine so ?_
  repeat (first|(refine aj h ?_;clear h;intro kb M h)|(refine aq h ?_;clear h;intro M h)|refine St.to h ?_|(apply Exists.intro;(repeat apply Exists.intro);refine And.intro rfl ?_)|refine au ?_|refine af ?_|refine ai ?_)
  exact k _ h.wB
 replace hc := hc Vb
 obtain ⟨q, rfl⟩ := Int.eq_ofNat_of_zero_le hc.1
 obtain ⟨x, hx⟩ := aK (l := cs) (i := q) (by omega)
 obtain ⟨b, hb⟩ := aK (l := bs) (i := q) (by omega)
 have Wy : cR cs (q : Int) = x := by simp [cR, hx]
 obtain ⟨b0, o0, rfl⟩ := hB.cons.jY h (by omega) (by decide)
 simp only [can, Wy] at k
 refine so ?_
 repeat (first|(refine aj h ?_;clear h;intro kb M h)|(refine aq h ?_;clear h;intro M h)|refine St.to h ?_|(apply Exists.intro;(repeat apply Exists.intro);refine And.intro rfl ?_)|refine au ?_|refine af ?_|refine ai ?_)
 refine bU.2 ⟨fun e => ?_, fun e => ?_⟩
 ·rw [if_pos e] at k
  repeat (first|(refine aj h ?_;clear h;intro kb M h)|(refine aq h ?_;clear h;intro M h)|refine St.to h ?_|(apply Exists.intro;(repeat apply Exists.intro);refine And.intro rfl ?_)|refine au ?_|refine af ?_|refine ai ?_)
  refine kU (hB.cons.cons.at h (i := q) (j := 0) hb rfl (by simp [kq])) ?_
  replace h := h.cB br hb hx
  refine ya h ?_
  repeat (first|(refine aj h ?_;clear h;intro kb M h)|(refine aq h ?_;clear h;intro M h)|refine St.to h ?_|(apply Exists.intro;(repeat apply Exists.intro);refine And.intro rfl ?_)|refine au ?_|refine af ?_|refine ai ?_)
  exact k _ (h.tQ br b hb hx).bP
 rw [if_neg e] at k
 refine bU.2 ⟨fun e => ?_, fun e => ?_⟩
 ·rw [if_pos e] at k
  repeat (first|(refine aj h ?_;clear h;intro kb M h)|(refine aq h ?_;clear h;intro M h)|refine St.to h ?_|(apply Exists.intro;(repeat apply Exists.intro);refine And.intro rfl ?_)|refine au ?_|refine af ?_|refine ai ?_)
  refine kU (hB.cons.cons.at h (i := q) (j := 0) hb rfl (by simp [kq])) ?_
  replace h := h.cB br hb hx
  refine xZ h ?_
  repeat (first|(refine aj h ?_;clear h;intro kb M h)|(refine aq h ?_;clear h;intro M h)|refine St.to h ?_|(apply Exists.intro;(repeat apply Exists.intro);refine And.intro rfl ?_)|refine au ?_|refine af ?_|refine ai ?_)
  exact k _ (h.tQ br b hb hx).bP
 ·rw [if_neg e] at k
  exact k _ h.wB
theorem yf {B A : Option Addr} {m cc n ca : Nat} {cases : List oY} (h : Hp R L M) [o : eU br L bs cs L'] (hB : Src R L' B (wG.cells cases)) (hA : Src R L' A (kq.cells bs)) (hm : m = cases.length) (hn : n = bs.length)
  (hb : cases.length ≤ 1000000000) (hl : bs.length = cs.length) (hok : ∀ c ∈ cases, c.Ok cs.length)
  (k : ∀ A' c' M', Hp R (bV bB 3 A' c' (enabled cases cs) :: aP br bs cs :: L') M' → K (.slice A' (enabled cases cs).length c') M') :
  aa Tryz.prog 205 #[.slice B m cc, .slice A n ca] M K Kp := by
 subst hm
 replace h := h.lZ br
 refine tR ⟨fun d ws M => ∃ (i : Nat) (X : Option Addr) (cx : Nat), ws = [.slice X (z8 cases cs i).length cx, .int .i64 (i : Int)] ∧ d = cases.length - i ∧ i ≤ cases.length ∧ Hp R (bV bB 3 X cx (z8 cases cs i) :: aP br bs cs :: L') M, ⟨_, 0, none, 0, rfl, rfl, by omega, h.cz bB _⟩, ?_⟩
 clear h
 rintro d _ X n1 cx ii M ⟨i, _, _, he, hd, hi, h⟩
 simp only [List.cons.injEq, Value.int.injEq, Value.slice.injEq, and_true, true_and] at he
 obtain ⟨⟨rfl, rfl, rfl⟩, rfl⟩ := he
 refine aM.2 ⟨fun hlt => ?_, fun hge => ?_⟩
 ·obtain ⟨c, hc⟩ := aK (l := cases) (i := i) (by omega)
  obtain ⟨b, o, rfl⟩ := hB.cons.cons.jY h (by omega) (by decide)
  repeat (first|(refine aj h ?_;clear h;intro kb M h)|(refine aq h ?_;clear h;intro M h)|refine St.to h ?_|(apply Exists.intro;(repeat apply Exists.intro);refine And.intro rfl ?_)|refine au ?_|refine af ?_|refine ai ?_)
  simp only [Int.toNat_natCast]
  refine bq (hB.cons.cons.at h (i := i) (j := 0) hc rfl rfl) ?_
  refine bq (hB.cons.cons.at h (i := i) (j := 1) hc rfl rfl) ?_
  refine bq (hB.cons.cons.at h (i := i) (j := 2) hc rfl rfl) ?_
  repeat (first|(refine aj h ?_;clear h;intro kb M h)|(refine aq h ?_;clear h;intro M h)|refine St.to h ?_|(apply Exists.intro;(repeat apply Exists.intro);refine And.intro rfl ?_)|refine au ?_|refine af ?_|refine ai ?_)
  have hco := hok c (List.mem_of_getElem? hc)
  obtain ⟨w1, w2, k1⟩ := hco
  refine Gw (c := c) h hA.cons.cons hn hl (fun e => ⟨(k1 e).1, (k1 e).2.1⟩) ⟨w1, w2⟩ ?_
  clear h
  intro M h
  repeat (first|(refine aj h ?_;clear h;intro kb M h)|(refine aq h ?_;clear h;intro M h)|refine St.to h ?_|(apply Exists.intro;(repeat apply Exists.intro);refine And.intro rfl ?_)|refine au ?_|refine af ?_|refine ai ?_)
  have hlen := BU cases cs i
  refine fV.2 ⟨fun hb => ?_, fun hb => ?_⟩
  ·have e := yX (cs := cs) hc
   rw [if_pos hb] at e
   repeat (first|(refine aj h ?_;clear h;intro kb M h)|(refine aq h ?_;clear h;intro M h)|refine St.to h ?_|(apply Exists.intro;(repeat apply Exists.intro);refine And.intro rfl ?_)|refine au ?_|refine af ?_|refine ai ?_)
   refine h.bF z9 [(i : Int)] rfl rfl (by simp; omega) ?_
   clear h
   intro A' c' M h
   repeat (first|(refine aj h ?_;clear h;intro kb M h)|(refine aq h ?_;clear h;intro M h)|refine St.to h ?_|(apply Exists.intro;(repeat apply Exists.intro);refine And.intro rfl ?_)|refine au ?_|refine af ?_|refine ai ?_)
   rw [bn (by omega)]
   rw [← e] at h
   refine ⟨cases.length - (i + 1), by omega, i + 1, A', c', ?_, rfl, by omega, h.bP⟩
   rw [e]
  ·have e := yX (cs := cs) hc
   rw [if_neg (by simp [hb]), List.append_nil] at e
   rw [bn (by omega)]
   refine ⟨cases.length - (i + 1), by omega, i + 1, X, cx, by rw [e], rfl, by omega, ?_⟩
   rw [e]; exact h.sub bM
 ·obtain rfl : i = cases.length := by omega
  exact k _ _ _ h
theorem BW {g : Int} {A : Option Addr} {n ca : Nat} (h : Hp R L M) [o : eU br L bs cs L'] (hA : Src R L' A (kq.cells bs)) (hn : n = bs.length) (hb : bs.length ≤ 1000000000) (hl : bs.length = cs.length) (hs : ∀ c ∈ cs, c.Small 1000000000)
  (k : ∀ M', Hp R (aP br bs (cs.map (·.drop g)) :: L') M' → K (.tuple #[]) M') :
  aa Tryz.prog 252 #[.int .i64 g, .slice A n ca] M K Kp := by
 subst hn
 replace h := h.lZ br
 refine wF ⟨fun d ws M => ∃ (i : Nat), ws = [.int .i64 (i : Int)] ∧ d = bs.length - i ∧ i ≤ bs.length ∧ Hp R (aP br bs ((cs.take i).map (·.drop g) ++ cs.drop i) :: L') M, ⟨_, 0, rfl, rfl, by omega, h⟩, ?_⟩
 clear h
 rintro d _ ii M ⟨i, he, hd, hi, h⟩
 simp only [List.cons.injEq, Value.int.injEq, and_true, true_and] at he
 subst he
 refine aM.2 ⟨fun hlt => ?_, fun hge => ?_⟩
 ·obtain ⟨c, hc⟩ := aK (l := cs) (i := i) (by omega)
  obtain ⟨b, xL⟩ := aK (l := bs) (i := i) (by omega)
  obtain ⟨b0, o0, rfl⟩ := hA.cons.jY h (by omega) (by decide)
  have Ob : ((cs.take i).map (·.drop g) ++ cs.drop i)[i]? = some c := by
   rw [List.getElem?_append_right (by simp; omega)]; simp [List.length_take, Nat.min_eq_left (show i ≤ cs.length by omega), hc]
  repeat (first|(refine aj h ?_;clear h;intro kb M h)|(refine aq h ?_;clear h;intro M h)|refine St.to h ?_|(apply Exists.intro;(repeat apply Exists.intro);refine And.intro rfl ?_)|refine au ?_|refine af ?_|refine ai ?_)
  refine kU (hA.cons.at h (i := i) (j := 0) xL rfl (by simp [kq])) ?_
  replace h := h.cB br xL Ob
  refine DL h (hs c (List.mem_of_getElem? hc)) ?_
  clear h
  intro M h
  repeat (first|(refine aj h ?_;clear h;intro kb M h)|(refine aq h ?_;clear h;intro M h)|refine St.to h ?_|(apply Exists.intro;(repeat apply Exists.intro);refine And.intro rfl ?_)|refine au ?_|refine af ?_|refine ai ?_)
  rw [bn (by omega)]
  refine ⟨bs.length - (i + 1), by omega, i + 1, rfl, rfl, by omega, ?_⟩
  have := (h.dh br b xL (by simp; omega)).bP (T := L')
  rw [List.set_append_right _ _ (by simp; omega)] at this
  rw [dN hc, List.map_append, List.append_assoc]
  have e : (cs.drop i).set (i - ((cs.take i).map (·.drop g)).length) (c.drop g) = [c.drop g] ++ cs.drop (i + 1) := by
   rw [show i - ((cs.take i).map (·.drop g)).length = 0 from by simp; omega]
   obtain ⟨hi', e'⟩ := List.getElem?_eq_some_iff.1 hc
   rw [List.drop_eq_getElem_cons hi']; rfl
  rw [e] at this
  exact this
 ·obtain rfl : i = bs.length := by omega
  rw [hl, List.take_length, List.drop_length, List.append_nil] at h
  exact k _ h
theorem DQ {g : Int} {B A D : Option Addr} {m cc n ca r cr : Nat} {cases : List oY} {eV : List Int} (h : Hp R L M) [o : eU br L bs cs L'] (hB : Src R L' B (wG.cells cases)) (hA : Src R L' A (kq.cells bs)) (hD : Src R L' D (bB.cells eV))
  (hm : m = cases.length) (hn : n = bs.length) (hr : r = 8) (hr8 : eV.length = 8) (hb : cases.length ≤ 1000000) (hl : bs.length = cs.length) (hok : ∀ c ∈ cases, c.Ok cs.length) (hs : ∀ c ∈ cs, c.Small 1000000)
  (k : ∀ M', Hp R (aP br bs (dF g eV cases cs cases.length) :: L') M' → K (.tuple #[]) M') :
  aa Tryz.prog 207 #[.int .i64 g, .slice B m cc, .slice D r cr, .slice A n ca] M K Kp := by
 subst hm
 subst hn
 subst hr
 replace h := h.lZ br
 refine yc ⟨fun d ws M => ∃ (i : Nat), ws = [.int .i64 (i : Int)] ∧ d = cases.length - i ∧ i ≤ cases.length ∧ Hp R (aP br bs (dF g eV cases cs i) :: L') M, ⟨_, 0, rfl, rfl, by omega, h⟩, ?_⟩
 clear h
 rintro d _ ii M ⟨i, he, hd, hi, h⟩
 simp only [List.cons.injEq, Value.int.injEq, and_true, true_and] at he
 subst he
 refine aM.2 ⟨fun hlt => ?_, fun hge => ?_⟩
 ·obtain ⟨c, hc⟩ := aK (l := cases) (i := i) (by omega)
  obtain ⟨w1, w2, kk⟩ := hok c (List.mem_of_getElem? hc)
  obtain ⟨b, o, rfl⟩ := hB.cons.jY h (by omega) (by decide)
  by_cases Vb : c.way = 2
  ·have e : dF g eV cases cs (i + 1) = dF g eV cases cs i := by
    rw [dF, hc]; dsimp only; unfold ja; rw [if_neg (by omega), if_neg (by omega)]
   repeat (first|(refine aj h ?_;clear h;intro kb M h)|(refine aq h ?_;clear h;intro M h)|refine St.to h ?_|(apply Exists.intro;(repeat apply Exists.intro);refine And.intro rfl ?_)|refine au ?_|refine af ?_|refine ai ?_)
   simp only [Int.toNat_natCast]
   refine bq (hB.cons.at h (i := i) (j := 0) hc rfl rfl) ?_
   refine bq (hB.cons.at h (i := i) (j := 1) hc rfl rfl) ?_
   refine bq (hB.cons.at h (i := i) (j := 2) hc rfl rfl) ?_
   repeat (first|(refine aj h ?_;clear h;intro kb M h)|(refine aq h ?_;clear h;intro M h)|refine St.to h ?_|(apply Exists.intro;(repeat apply Exists.intro);refine And.intro rfl ?_)|refine au ?_|refine af ?_|refine ai ?_)
   refine bU.2 ⟨fun e => by omega, fun _ => ?_⟩
   refine bU.2 ⟨fun e => by omega, fun _ => ?_⟩
   rw [bn (by omega)]
   refine ⟨cases.length - (i + 1), by omega, i + 1, rfl, rfl, by omega, ?_⟩
   rw [e]
   exact h.wB
  obtain ⟨k1, k2, k3, k4⟩ := kk Vb
  obtain ⟨b2, o2, rfl⟩ := hA.cons.jY h (by omega) (by decide)
  obtain ⟨b3, o3, rfl⟩ := hD.cons.jY h (by omega) (by decide)
  have hlen := jz g eV cases cs i
  have E9 := l8 (g := g) (eV := eV) hs hok i
  have e : dF g eV cases cs (i + 1) = ja g eV i c (dF g eV cases cs i) := by rw [dF, hc]
  generalize hw : dF g eV cases cs i = ws at h hlen E9 e
  obtain ⟨way, ch, bN⟩ := c
  dsimp only at k1 k2 k3 k4
  obtain ⟨q, rfl⟩ := Int.eq_ofNat_of_zero_le k1
  obtain ⟨q2, rfl⟩ := Int.eq_ofNat_of_zero_le k3
  obtain ⟨b1, xL⟩ := aK (l := bs) (i := q) (by omega)
  obtain ⟨x, hx⟩ := aK (l := ws) (i := q) (by omega)
  obtain ⟨v, hv⟩ := aK (l := eV) (i := q2) (by omega)
  have Wy : cR ws (q : Int) = x := by simp [cR, hx]
  have hvv : eV.getD q2 0 = v := by simp [hv]
  have hxs := E9 x (List.mem_of_getElem? hx)
  simp only [ja, Wy, Int.toNat_natCast, hvv] at e
  repeat (first|(refine aj h ?_;clear h;intro kb M h)|(refine aq h ?_;clear h;intro M h)|refine St.to h ?_|(apply Exists.intro;(repeat apply Exists.intro);refine And.intro rfl ?_)|refine au ?_|refine af ?_|refine ai ?_)
  simp only [Int.toNat_natCast]
  refine bq (hB.cons.at h (i := i) (j := 0) hc rfl rfl) ?_
  refine bq (hB.cons.at h (i := i) (j := 1) hc rfl rfl) ?_
  refine bq (hB.cons.at h (i := i) (j := 2) hc rfl rfl) ?_
  dsimp only
  repeat (first|(refine aj h ?_;clear h;intro kb M h)|(refine aq h ?_;clear h;intro M h)|refine St.to h ?_|(apply Exists.intro;(repeat apply Exists.intro);refine And.intro rfl ?_)|refine au ?_|refine af ?_|refine ai ?_)
  refine bU.2 ⟨fun hw => ?_, fun hw => ?_⟩
  ·rw [if_pos hw] at e
   repeat (first|(refine aj h ?_;clear h;intro kb M h)|(refine aq h ?_;clear h;intro M h)|refine St.to h ?_|(apply Exists.intro;(repeat apply Exists.intro);refine And.intro rfl ?_)|refine au ?_|refine af ?_|refine ai ?_)
   refine kU (hA.cons.cons.at h (i := q) (j := 0) xL rfl (by simp [kq])) ?_
   have K4 := xL
   replace h := h.pick (.there .here)
   replace h := h.cB br xL hx
   refine nK (w := ⟨g, i, 0⟩) h (hxs.mono (by omega)) ?_
   clear h
   intro M h
   repeat (first|(refine aj h ?_;clear h;intro kb M h)|(refine aq h ?_;clear h;intro M h)|refine St.to h ?_|(apply Exists.intro;(repeat apply Exists.intro);refine And.intro rfl ?_)|refine au ?_|refine af ?_|refine ai ?_)
   rw [bn (by omega)]
   refine ⟨cases.length - (i + 1), by omega, i + 1, rfl, rfl, by omega, ?_⟩
   rw [e]
   exact (h.dh br b1 xL (by omega)).bP
  rw [if_neg hw] at e
  refine bU.2 ⟨fun hw => ?_, fun hw => ?_⟩
  ·rw [if_pos hw] at e
   repeat (first|(refine aj h ?_;clear h;intro kb M h)|(refine aq h ?_;clear h;intro M h)|refine St.to h ?_|(apply Exists.intro;(repeat apply Exists.intro);refine And.intro rfl ?_)|refine au ?_|refine af ?_|refine ai ?_)
   refine kU (hA.cons.cons.at h (i := q) (j := 0) xL rfl (by simp [kq])) ?_
   repeat (first|(refine aj h ?_;clear h;intro kb M h)|(refine aq h ?_;clear h;intro M h)|refine St.to h ?_|(apply Exists.intro;(repeat apply Exists.intro);refine And.intro rfl ?_)|refine au ?_|refine af ?_|refine ai ?_)
   refine bq (hD.cons.cons.at h (i := q2) (j := 0) hv rfl (by simp [bB])) ?_
   replace h := h.pick (.there .here)
   replace h := h.cB br xL hx
   refine nJ (w := ⟨g, i, v⟩) h (hxs.mono (by omega)) ?_
   clear h
   intro M h
   repeat (first|(refine aj h ?_;clear h;intro kb M h)|(refine aq h ?_;clear h;intro M h)|refine St.to h ?_|(apply Exists.intro;(repeat apply Exists.intro);refine And.intro rfl ?_)|refine au ?_|refine af ?_|refine ai ?_)
   rw [bn (by omega)]
   refine ⟨cases.length - (i + 1), by omega, i + 1, rfl, rfl, by omega, ?_⟩
   rw [e]
   exact (h.dh br b1 xL (by omega)).bP
  ·rw [if_neg hw] at e
   rw [bn (by omega)]
   refine ⟨cases.length - (i + 1), by omega, i + 1, rfl, rfl, by omega, ?_⟩
   rw [e]
   exact h.wB
 ·obtain rfl : i = cases.length := by omega
  exact k _ h
end
end Go.Proofs
namespace Go.Proofs
open Go.AF
structure cN where
 op : Int
 a : Int
 b : Int
 c : Int
 deriving DecidableEq
def cN.zero : cN := ⟨0, 0, 0, 0⟩
def BX : jO cN := ⟨4, fun x => [.int .i64 x.op, .int .i64 x.a, .int .i64 x.b, .int .i64 x.c], fun _ => rfl, fun w v hv => by
 simp only [List.mem_cons, List.not_mem_nil, or_false] at hv; obtain rfl | rfl | rfl | rfl := hv <;> rfl⟩
structure fh where
 fn : Int
 pc : Int
 r : List Int
 bK : Int
 deriving DecidableEq
def fh.bN (f : fh) (q : Int) : Int := f.r.getD q.toNat 0
def fh.set (f : fh) (q v : Int) : fh := { f with r := (List.range 8).map fun i => if i = q.toNat then v else f.r.getD i 0 }
def fh.next (f : fh) : fh := { f with pc := f.pc + 1 }
def fh.begin (fn v : Int) : fh := ⟨fn, 0, [v, 0, 0, 0, 0, 0, 0, 0], 0⟩
def Tb (f : fh) : List Value := [.int .i64 f.fn, .int .i64 f.pc, .int .i64 (f.r.getD 0 0), .int .i64 (f.r.getD 1 0), .int .i64 (f.r.getD 2 0), .int .i64 (f.r.getD 3 0), .int .i64 (f.r.getD 4 0), .int .i64 (f.r.getD 5 0), .int .i64 (f.r.getD 6 0), .int .i64 (f.r.getD 7 0), .int .i64 f.bK]
def jb : jO fh := ⟨11, Tb, fun _ => rfl, fun w v hv => by
 simp only [Tb, List.mem_cons, List.not_mem_nil, or_false] at hv
 obtain rfl | rfl | rfl | rfl | rfl | rfl | rfl | rfl | rfl | rfl | rfl := hv <;> rfl⟩
theorem Tc {q : Int} (h0 : 0 ≤ q) (h8 : q < 8) : q = 0 ∨ q = 1 ∨ q = 2 ∨ q = 3 ∨ q = 4 ∨ q = 5 ∨ q = 6 ∨ q = 7 := by omega
theorem Pr {f : fh} {q : Int} (h0 : 0 ≤ q) (h8 : q < 8) : (jb.f f)[2 + q.toNat]? = some (.int .i64 (f.bN q)) := by
 obtain rfl | rfl | rfl | rfl | rfl | rfl | rfl | rfl := Tc h0 h8 <;> rfl
theorem LX {f : fh} {q v : Int} (h0 : 0 ≤ q) (h8 : q < 8) : (jb.f f).set (2 + q.toNat) (.int .i64 v) = jb.f (f.set q v) := by
 obtain rfl | rfl | rfl | rfl | rfl | rfl | rfl | rfl := Tc h0 h8 <;> rfl
theorem Ps {f : fh} {v : Int} : (jb.f f).set 1 (.int .i64 v) = jb.f { f with pc := v } := rfl
def fh.pure (f : fh) (x : cN) : fh :=
 if x.op = 0 then f
 else if x.op = 1 then f.set x.a x.b
 else if x.op = 2 then f.set x.a (f.bN x.b)
 else if x.op = 3 then f.set x.a (IntKind.wrap .i64 (f.bN x.b + f.bN x.c))
 else if x.op = 4 then f.set x.a (IntKind.wrap .i64 (f.bN x.b - f.bN x.c))
 else if x.op = 5 then f.set x.a (IntKind.wrap .i64 (f.bN x.b * f.bN x.c))
 else if x.op = 6 then f.set x.a (if f.bN x.b < f.bN x.c then 1 else 0)
 else if x.op = 7 then { f with pc := x.a }
 else if f.bN x.a ≠ 0 then { f with pc := x.b } else f
def bt (q : Int) : Prop := 0 ≤ q ∧ q < 8
instance (q : Int) : Decidable (bt q) := by unfold bt; infer_instance
def cN.kD (x : cN) : Prop :=
 (x.op ∈ [1, 8] → bt x.a) ∧ (x.op = 2 → bt x.a ∧ bt x.b) ∧ (x.op ∈ [3, 4, 5, 6] → bt x.a ∧ bt x.b ∧ bt x.c)
instance (x : cN) : Decidable x.kD := by unfold cN.kD; infer_instance
structure cT where
 st : Int
 fs : List fh
 wt : cN
 deriving DecidableEq
structure Lk where
 owner : Int
 waits : List Int
 deriving DecidableEq
structure aZ where
 t : Int
 seq : Int
 id : Int
 deriving DecidableEq
def nL : jO aZ := ⟨3, fun x => [.int .u64 x.t, .int .u64 x.seq, .int .i64 x.id], fun _ => rfl, fun w v hv => by
 simp only [List.mem_cons, List.not_mem_nil, or_false] at hv; obtain rfl | rfl | rfl := hv <;> rfl⟩
structure ck where
 funcs : List (List cN)
 oZ : List Int
 aS : Int
 cases : List oY
structure Wd where
 gs : List cT
 clock : Int
 ay : List aL
 aS : List Lk
 hl : List aZ
 jA : Int
 out : List Int
 end_ : Int
 code : Int
 ready : List Int
 deriving DecidableEq
def ae (x : Wd) (g : Int) : cT := x.gs.getD g.toNat ⟨0, [], .zero⟩
def Wd.aY (x : Wd) (g : Int) (y : cT) : Wd := { x with gs := x.gs.set g.toNat y }
def cT.top (y : cT) : fh := y.fs.getD (y.fs.length - 1) ⟨0, 0, [], 0⟩
def cT.bW (y : cT) (f : fh) : cT := { y with fs := y.fs.set (y.fs.length - 1) f }
def Wd.be (x : Wd) (g q v : Int) : Wd := x.aY g ((ae x g).bW ((ae x g).top.set q v))
def Wd.cO (x : Wd) (g : Int) : Wd := { x.aY g { ae x g with st := 1 } with ready := x.ready ++ [g] }
def Wd.block (x : Wd) (g : Int) (i : cN) : Wd := x.aY g { ae x g with st := 2, wt := i }
def Wd.leave (x : Wd) (g : Int) : Wd := { x with ay := x.ay.map fun c => c.drop g }
def Wd.fM (x : Wd) (g k : Int) : Wd := (x.be g (ae x g).wt.c k).leave g
def nN (p : ck) (k : Int) : oY := p.cases.getD k.toNat ⟨0, 0, 0⟩
def Wd.received (p : ck) (x : Wd) (v : Wt) (some : Int) : Wd :=
 let i := (ae x v.g).wt
 (if i.op = 16 then ((x.be v.g (nN p (i.a + v.cs)).bN v.v).fM v.g v.cs)
  else (x.be v.g i.b v.v).be v.g i.c some).cO v.g
def Wd.sent (x : Wd) (v : Wt) : Wd := (if (ae x v.g).wt.op = 16 then x.fM v.g v.cs else x).cO v.g
inductive Out (α : Type) where
 | on (a : α)
 | dM (code : Int) (x : Wd)
 | cQ (l : List PanicEntry) (x : Wd)
def Wd.bS (x : Wd) (k : Int) (c : aL) : Wd := { x with ay := x.ay.set k.toNat c }
def Wd.put (p : ck) (x : Wd) (k v : Int) : Out (Wd × Bool) :=
 let s := (cR x.ay k).send v
 if s.2.2.2 = 10 then .dM (-1) (x.bS k s.1)
 else .on ((if s.2.2.1 then (x.bS k s.1).received p s.2.1 1 else x.bS k s.1), s.2.2.2 == 0)
def Wd.get (x : Wd) (k : Int) : Wd × Int × Int × Bool :=
 let s := (cR x.ay k).recv
 let y := if s.2.2.2.2.1 then (x.bS k s.1).sent s.2.2.2.1 else x.bS k s.1
 if s.2.2.1 then (y, s.2.1, 1, true) else (y, 0, 0, s.2.2.2.2.2 == 0)
def aU (x : Wd) (g : Int) : Prop := 0 ≤ g ∧ g < x.gs.length ∧ 0 < (ae x g).fs.length ∧ (ae x g).fs.length ≤ 1000
instance (x : Wd) (g : Int) : Decidable (aU x g) := by unfold aU; infer_instance
def nO (p : ck) (x : Wd) (v : Wt) : Prop := aU x v.g ∧
 if (ae x v.g).wt.op = 16 then 0 ≤ (ae x v.g).wt.a + v.cs ∧ (ae x v.g).wt.a + v.cs < p.cases.length ∧ p.cases.length ≤ 1000 ∧ bt (nN p ((ae x v.g).wt.a + v.cs)).bN ∧ bt (ae x v.g).wt.c
 else bt (ae x v.g).wt.b ∧ bt (ae x v.g).wt.c
instance (p : ck) (x : Wd) (v : Wt) : Decidable (nO p x v) := by unfold nO; infer_instance
def uM (x : Wd) (v : Wt) : Prop := aU x v.g ∧ ((ae x v.g).wt.op = 16 → bt (ae x v.g).wt.c)
instance (x : Wd) (v : Wt) : Decidable (uM x v) := by unfold uM; infer_instance
def Wd.Sm (x : Wd) : Prop := (∀ c ∈ x.ay, c.Small 1000000) ∧ x.ay.length ≤ 1000 ∧ x.gs.length ≤ 1000 ∧ x.ready.length ≤ 1000000 ∧ x.out.length ≤ 1000000 ∧ (∀ l ∈ x.aS, l.waits.length ≤ 1000000) ∧ x.aS.length ≤ 1000 ∧ x.hl.length ≤ 1000000
instance (x : Wd) : Decidable x.Sm := by unfold Wd.Sm; infer_instance
theorem fW {x : Wd} {g : Int} {y : cT} (h0 : 0 ≤ g) (hg : g < x.gs.length) : ae (x.aY g y) g = y := by
 have : g.toNat < x.gs.length := by omega
 simp [ae, Wd.aY, this]
end Go.Proofs
namespace Go.Proofs
open Go.AF
set_option maxRecDepth 100000
variable {M : Mem} {K : Value → Mem → Prop} {Kp : List PanicEntry → Mem → Prop}
theorem qz {B0 : Option Addr} {m0 c0 : Nat} (h :
aO ((m0 : Int) == 0)
 (K (.pointer none) M)
 (((0 : Int) ≤ (IntKind.wrap .i64 ((m0 : Int) - 1))) ∧
 (((IntKind.wrap .i64 ((m0 : Int) - 1)) : Int) < (m0 : Int)) ∧
 aD B0 fun k1 k2 =>
 K (.pointer (some ⟨k1, (k2 + ((Int.toNat (IntKind.wrap .i64 ((m0 : Int) - 1))) * 11)), none⟩)) M)) :
 aa Tryz.prog 189 #[.slice B0 m0 c0] M K Kp := vw [] Tryz.func189 h
theorem mP {b0 o0 : Nat} {x1 : Int} (h :
aO (decide ((x1 : Int) < 0))
 (K (.int .i64 0) M)
 (az (Mem.ld M ⟨b0, (o0 + 4), none⟩) fun A1 k2 k3 =>
 aO (decide ((x1 : Int) ≥ ((k2 : Nat) : Int)))
  (K (.int .i64 0) M)
  (az (Mem.ld M ⟨b0, (o0 + 4), none⟩) fun A4 k5 k6 =>
  ((0 : Int) ≤ x1) ∧
  ((x1 : Int) < ((k5 : Nat) : Int)) ∧
  aD A4 fun k7 k8 =>
  b8 (Mem.ld M ⟨k7, (k8 + (Int.toNat x1)), none⟩) fun A9 =>
  aD A9 fun eJ en =>
  aG (Mem.ld M ⟨eJ, en, none⟩) .i64 fun iw =>
  K (.int .i64 iw) M))) :
 aa Tryz.prog 119 ([.pointer (some ⟨b0, o0, none⟩), .int .i64 x1] : List Value).toArray M K Kp :=
 bR (C := Cx) good [] Tryz.func119 (by kernel_rfl) (by kernel_rfl) h
theorem qA {b0 o0 : Nat} (h :
rI M b0 (o0 + 11) fun n1 =>
rI M b0 (o0 + 12) fun n2 =>
K (.tuple #[(iV n1), (iV n2)]) M) :
 aa Tryz.prog 28 #[.pointer (some ⟨b0, o0, none⟩)] M K Kp := vw [(1, .bN [0, 1, 3, 7, 0, 16, 48, 112, 15, 511] (sy [0, 1, 2, 4, 5, 6, 3, 8, 7, 9] .done))] Tryz.func28 h
theorem pA {b0 o0 : Nat} (h :
aG (Mem.ld M ⟨b0, (o0 + 11), none⟩) .i64 fun n1 =>
aO (n1 != 0)
 (K (.slice none 0 0) M)
 (aG (Mem.ld M ⟨b0, (o0 + 5), none⟩) .u64 fun n2 =>
 aF M ⟨b0, (o0 + 5), none⟩ (.int .u64 (IntKind.wrap .u64 (n2 + 1))) fun M3 =>
 aF M3 ⟨b0, (o0 + 13), none⟩ (.slice none 0 0) fun M4 =>
 aG (Mem.ld M4 ⟨b0, (o0 + 5), none⟩) .u64 fun n5 =>
 aa Tryz.prog 157 #[(.pointer (some ⟨b0, (o0 + 8), none⟩)), (.int .u64 n5)] M4 (fun v6 M7 =>
 az (some v6) fun A8 k9 eJ =>
 ∃ Wz : Nat → List Value → Mem → Prop, (∃ gh : Nat, Wz gh [(.int .i64 0)] M7) ∧
 ∀ dH : Nat, ∀ WB : Nat → Value, ∀ jM : Int, ∀ eZ : Mem, (Wz dH [(.int .i64 jM)] eZ) → aO (decide ((jM : Int) < ((k9 : Nat) : Int)))
  (((0 : Int) ≤ jM) ∧
  ((jM : Int) < ((k9 : Nat) : Int)) ∧
  aD A8 fun eK gq =>
  aG (Mem.ld eZ ⟨eK, (gq + ((Int.toNat jM) * 3)), none⟩) .u64 fun zY =>
  aG (Mem.ld eZ ⟨eK, ((gq + ((Int.toNat jM) * 3)) + 1), none⟩) .u64 fun iu =>
  aG (Mem.ld eZ ⟨eK, ((gq + ((Int.toNat jM) * 3)) + 2), none⟩) .i64 fun rz =>
  bh eZ (.cells #[(.int .u64 0), (.int .u64 0), (.int .i64 0)] 203 (0, 0)) fun hG mF =>
  aF mF ⟨hG, 0, none⟩ (.int .u64 zY) fun jj =>
  aF jj ⟨hG, (0 + 1), none⟩ (.int .u64 iu) fun E7 =>
  aF E7 ⟨hG, (0 + 2), none⟩ (.int .i64 rz) fun uN =>
  aG (Mem.ld uN ⟨hG, (0 + 2), none⟩) .i64 fun yg =>
  aa Tryz.prog 158 #[(.pointer (some ⟨b0, o0, none⟩)), (.int .i64 yg)] uN (fun Pq ni =>
  (Pq = (.tuple #[])) ∧
  ∃ lH : Nat, (lH < dH) ∧
  Wz lH [(.int .i64 (IntKind.wrap .i64 (jM + 1)))] ni) Kp)
  (az (Mem.ld eZ ⟨b0, (o0 + 13), none⟩) fun Td nI z0 =>
  K (.slice Td nI z0) eZ)) Kp)) :
 aa Tryz.prog 120 ([.pointer (some ⟨b0, o0, none⟩)] : List Value).toArray M K Kp :=
 bR (C := Cx) good [(5, .bN [0, 1, 3, 0, 8, 24, 56, 127, 255, 0] (.step 0 (.step 1 (.step 2 (.step 3 (.step 4 (.step 5 (.step 9 (.step 6 (.step 7 (.step 8 .done))))))))))), (2000000, .loop [(29, .c (.int .i64))])] Tryz.func120 (by kernel_rfl) (by kernel_rfl) h
theorem qB {b0 o0 : Nat} (h :
bh M (cl [] 2) fun k1 M2 =>
rS M2 b0 (o0 + 10) fun A3 k4 k5 =>
aA 53 (some ⟨k1, 0, none⟩) 0 0 A3 k4 k5 M2 (fun v6 M7 =>
az (some v6) fun A8 k9 eJ =>
K (.slice A8 k9 eJ) M7) Kp) :
 aa Tryz.prog 23 #[.pointer (some ⟨b0, o0, none⟩)] M K Kp := vw [] Tryz.func23 h
theorem kV {b0 o0 : Nat} (h :
aa Tryz.prog 63 #[(.pointer (some ⟨b0, (o0 + 8), none⟩))] M (fun v1 M2 =>
az (some v1) fun A3 k4 k5 =>
K (.slice A3 k4 k5) M2) Kp) :
 aa Tryz.prog 19 #[.pointer (some ⟨b0, o0, none⟩)] M K Kp := vw [] Tryz.func19 h
theorem wH {x0 : Int} {x1 : Int} (h :
bh M (cl [(iV x0), (iV 0), (iV x1), (iV 0), (iV 0), (iV 0), (iV 0), (iV 0), (iV 0), (iV 0), (iV 0)] 275) fun k1 M2 =>
K (.slice (some ⟨k1, 0, none⟩) 1 1) M2) :
 aa Tryz.prog 112 #[.int .i64 x0, .int .i64 x1] M K Kp := vw [] Tryz.func112 h
theorem Aa  (h :
bh M (cl [(iV (-1)), (.slice none 0 0)] 307) fun k1 M2 =>
K (.pointer (some ⟨k1, 0, none⟩)) M2) :
 aa Tryz.prog 114 #[] M K Kp := vw [] Tryz.func114 h
theorem su {b0 o0 : Nat} {x1 : Int} (h :
∃ I1 : Nat → List Value → Mem → Prop, (∃ k2 : Nat, I1 k2 [(.slice none 0 0)] M) ∧
∀ k3 : Nat, ∀ Oc : Nat → Value, ∀ A5 : Option Addr, ∀ k6 : Nat, ∀ k7 : Nat, ∀ M8 : Mem, (I1 k3 [(.slice A5 k6 k7)] M8) → az (Mem.ld M8 ⟨b0, o0, none⟩) fun A9 eJ en =>
aO (decide ((((eJ : Nat) : Int) : Int) > 0))
 (az (Mem.ld M8 ⟨b0, o0, none⟩) fun xN dH iL =>
 ((0 : Int) ≤ 0) ∧
 ((0 : Int) < ((dH : Nat) : Int)) ∧
 aD xN fun gI gi =>
 aG (Mem.ld M8 ⟨gI, (gi + 0), none⟩) .u64 fun kC =>
 aO (decide ((kC : Int) ≤ x1))
  (aa Tryz.prog 117 #[(.pointer (some ⟨b0, o0, none⟩)), (.int .i64 0)] M8 (fun DD ku =>
  ∃ iu : Int, ∃ rz : Int, ∃ va : Int, (DD = (.agg #[(.int .u64 iu), (.int .u64 rz), (.int .i64 va)])) ∧
  bh ku (.cells #[(.int .u64 iu), (.int .u64 rz), (.int .i64 va)] 203 (0, 0)) fun jB jj =>
  aW Tryz.prog (Go.Builtin.append_ #[46, 46] 46 #[(.slice A5 k6 k7), (.slice (some ⟨jB, 0, none⟩) 1 1)]) jj (fun Pt uN =>
  az (some Pt) fun Pu tT uJ =>
  ∃ lH : Nat, (lH < k3) ∧
  I1 lH [(.slice Pu tT uJ)] uN) Kp) Kp)
  (K (.slice A5 k6 k7) M8))
 (K (.slice A5 k6 k7) M8)) :
 aa Tryz.prog 157 ([.pointer (some ⟨b0, o0, none⟩), .int .u64 x1] : List Value).toArray M K Kp :=
 bR (C := Cx) good [(2000000, .loop [(5, .c .sl)])] Tryz.func157 (by kernel_rfl) (by kernel_rfl) h
theorem pB {b0 o0 : Nat} {x1 : Int} (h :
rS M b0 (o0 + 4) fun A1 k2 k3 =>
((0 : Int) ≤ x1) ∧
((x1 : Int) < k2) ∧
aD A1 fun k4 k5 =>
rP M k4 (k5 + (Int.toNat x1)) fun A6 =>
aD A6 fun k7 k8 =>
sT M k7 k8 (iV 1) fun M9 =>
rS M9 b0 (o0 + 13) fun C3 en gh =>
bh M9 (cl [(iV x1)] 3) fun dH nh =>
aA 36 C3 en gh (some ⟨dH, 0, none⟩) 1 1 nh (fun DN eZ =>
az (some DN) fun K8 gq iI =>
sT eZ b0 (o0 + 13) (.slice K8 gq iI) fun r8 =>
K (.tuple #[]) r8) Kp) :
 aa Tryz.prog 158 #[.pointer (some ⟨b0, o0, none⟩), .int .i64 x1] M K Kp := vw [] Tryz.func158 h
theorem sv {b0 o0 : Nat} (h :
bh M (.cells #[] 203 (0, 0)) fun k1 M2 =>
az (Mem.ld M2 ⟨b0, o0, none⟩) fun A3 k4 k5 =>
aW Tryz.prog (Go.Builtin.append_ #[46, 46] 46 #[(.slice (some ⟨k1, 0, none⟩) 0 0), (.slice A3 k4 k5)]) M2 (fun v6 M7 =>
az (some v6) fun A8 k9 eJ =>
bh M7 (.cells #[(.slice none 0 0), (.int .u64 0)] 159 (0, 0)) fun en ry =>
aF ry ⟨en, 0, none⟩ (.slice A8 k9 eJ) fun kz =>
aF kz ⟨en, (0 + 1), none⟩ (.int .u64 0) fun nh =>
∃ WC : Nat → List Value → Mem → Prop, (∃ gi : Nat, WC gi [(.slice none 0 0)] nh) ∧
∀ eK : Nat, ∀ WD : Nat → Value, ∀ AX : Option Addr, ∀ iZ : Nat, ∀ fe : Nat, ∀ mE : Mem, (WC eK [(.slice AX iZ fe)] mE) → az (Mem.ld mE ⟨en, 0, none⟩) fun S5 r6 vb =>
aO (decide ((((r6 : Nat) : Int) : Int) > 0))
 (aa Tryz.prog 117 #[(.pointer (some ⟨en, 0, none⟩)), (.int .i64 0)] mE (fun Pp tr =>
 ∃ sg : Int, ∃ yW : Int, ∃ Ad : Int, (Pp = (.agg #[(.int .u64 sg), (.int .u64 yW), (.int .i64 Ad)])) ∧
 bh tr (.cells #[(.int .u64 sg), (.int .u64 yW), (.int .i64 Ad)] 203 (0, 0)) fun nH oW =>
 aW Tryz.prog (Go.Builtin.append_ #[46, 46] 46 #[(.slice AX iZ fe), (.slice (some ⟨nH, 0, none⟩) 1 1)]) oW (fun Wx rC =>
 az (some Wx) fun Te Gv vH =>
 ∃ hU : Nat, (hU < eK) ∧
 WC hU [(.slice Te Gv vH)] rC) Kp) Kp)
 (K (.slice AX iZ fe) mE)) Kp) :
 aa Tryz.prog 63 ([.pointer (some ⟨b0, o0, none⟩)] : List Value).toArray M K Kp :=
 bR (C := Cx) good [(2000000, .loop [(4, .c .sl)])] Tryz.func63 (by kernel_rfl) (by kernel_rfl) h
theorem pC {b0 o0 : Nat} {cH : Int} {cI : Int} {cJ : Int} {fj : Int} (h :
bh M (cl [(iV cH), (iV cI), (iV cJ), (iV fj)] 27) fun k1 M2 =>
rI M2 k1 0 fun n3 =>
aa Tryz.prog 203 #[] M2 (fun v4 M5 =>
eI M5 k1 0 n3 ∧
aW Tryz.prog (Go.Instr.lookup 361 v4 (iV n3) true) M5 (fun v6 M7 =>
∃ v8 : Value, ∃ t9 : Bool, (v6 = (.tuple #[v8, (.bool t9)])) ∧
eI M7 k1 0 n3 ∧
aO t9
 (rI M7 b0 (o0 + 1) fun kB =>
 sT M7 b0 (o0 + 1) (iV (IntKind.wrap .i64 (kB + 1))) fun jZ =>
 jy jZ k1 0 fun iw jN mK jM =>
 gK Cx v8 [(.pointer (some ⟨b0, o0, none⟩)), (.agg #[(iV iw), (iV jN), (iV mK), (iV jM)])] jZ (fun LY pz =>
 (LY = (.tuple #[])) ∧
 K (.bool t9) pz) Kp)
 (K (.bool t9) M7)) Kp) Kp) :
 aa Tryz.prog 190 #[.pointer (some ⟨b0, o0, none⟩), .agg #[.int .i64 cH, .int .i64 cI, .int .i64 cJ, .int .i64 fj]] M K Kp := vw [(1, .bN [0, 0, 2, 7, 15, 31, 31, 63, 255] (sy [1] (.fT 2 (sy [0, 3, 4, 5, 6, 7, 8] .done))))] Tryz.func190 h
theorem mQ {b0 o0 : Nat} {x1 : Int} {b2 o2 : Nat} {eC : Int} {eD : Int} {eE : Int} {eF : Int} (h :
bh M (cl [(iV eC), (iV eD), (iV eE), (iV eF)] 27) fun k1 M2 =>
jy M2 k1 0 fun n3 n4 n5 n6 =>
aa Tryz.prog 204 #[(.pointer (some ⟨b0, o0, none⟩)), (.agg #[(iV n3), (iV n4), (iV n5), (iV n6)])] M2 (fun v7 M8 =>
az (some v7) fun A9 eJ en =>
rS M8 b0 (o0 + 6) fun xN dH iL =>
aa Tryz.prog 205 #[(.slice A9 eJ en), (.slice xN dH iL)] M8 (fun DN eZ =>
az (some DN) fun K8 gq iI =>
aO ((gq : Int) == 0)
 (rI eZ b2 (o2 + 1) fun iu =>
 sT eZ b2 (o2 + 1) (iV (IntKind.wrap .i64 (iu + 1))) fun uI =>
 aa Tryz.prog 206 #[(.slice A9 eJ en)] uI (fun Gs mF =>
 ∃ AY : Int, ∃ t25 : Bool, (Gs = (.tuple #[(iV AY), (.bool t25)])) ∧
 aO t25
 (rI mF k1 3 fun sw =>
 (0 ≤ sw) ∧
 (sw < 8) ∧
 sT mF b2 ((o2 + 2) + (Int.toNat sw)) (iV AY) fun tr =>
 K (.tuple #[]) tr)
 (((0 : Int) ≤ 8) ∧
 ((8 : Int) ≤ 8) ∧
 ((0 : Int) ≤ 8) ∧
 ((8 : Int) ≤ 8) ∧
 ((0 : Int) ≤ 0) ∧
 ((0 : Int) ≤ 8) ∧
 rS mF b0 (o0 + 6) fun Gu uJ lH =>
 aa Tryz.prog 207 #[(iV x1), (.slice A9 eJ en), (.slice (lF (some ⟨b2, (o2 + 2), none⟩) 0 8 1) 8 8), (.slice Gu uJ lH)] mF (fun Pg oW =>
 (Pg = (.tuple #[])) ∧
 jy oW k1 0 fun E6 LZ Fa wI =>
 aa Tryz.prog 208 #[(.pointer (some ⟨b0, o0, none⟩)), (iV x1), (.agg #[(iV E6), (iV LZ), (iV Fa), (iV wI)])] oW (fun WE lG =>
 (WE = (.tuple #[])) ∧
 K (.tuple #[]) lG) Kp) Kp)) Kp)
 (e7 (Mem.ld eZ ⟨b0, (o0 + 14), none⟩) fun v39 =>
 gK Cx v39 [(iV 3), (iV (gq : Int))] eZ (fun Ma BY =>
 aG (some Ma) .i64 fun Od =>
 (0 ≤ Od) ∧
 (Od < gq) ∧
 aD K8 fun yU qu =>
 rI BY yU (qu + (Int.toNat Od)) fun Gx =>
 rI BY b2 (o2 + 1) fun Ja =>
 sT BY b2 (o2 + 1) (iV (IntKind.wrap .i64 (Ja + 1))) fun wJ =>
 (0 ≤ Gx) ∧
 (Gx < eJ) ∧
 aD A9 fun Vc Pv =>
 nF wJ Vc (Pv + ((Int.toNat Gx) * 3)) fun Pw Jb WG =>
 bh wJ oT fun r7 LP =>
 IG LP r7 (iV Pw) (iV Jb) (iV WG) fun IV =>
 rI IV r7 0 fun LQ =>
 aO (LQ == 1)
 (rI IV r7 1 fun IW =>
 rI IV r7 2 fun Pf =>
 (0 ≤ Pf) ∧
 (Pf < 8) ∧
 rI IV b2 ((o2 + 2) + (Int.toNat Pf)) fun vf =>
 aa Tryz.prog 209 #[(.pointer (some ⟨b0, o0, none⟩)), (iV IW), (iV vf)] IV (fun Tf BN =>
 cV (some Tf) fun t64 =>
 rI BN k1 3 fun BO =>
 (0 ≤ BO) ∧
 (BO < 8) ∧
 sT BN b2 ((o2 + 2) + (Int.toNat BO)) (iV Gx) fun Mb =>
 K (.tuple #[]) Mb) Kp)
 (rI IV r7 1 fun WH =>
 rI IV r7 2 fun Mc =>
 aa Tryz.prog 210 #[(.pointer (some ⟨b0, o0, none⟩)), (iV WH)] IV (fun Tg Ae =>
 ∃ Vd Th : Int, ∃ t73 : Bool, (Tg = (.tuple #[(iV Vd), (iV Th), (.bool t73)])) ∧
 eI Ae r7 2 Mc ∧
 (0 ≤ Mc) ∧
 (Mc < 8) ∧
 sT Ae b2 ((o2 + 2) + (Int.toNat Mc)) (iV Vd) fun BZ =>
 eI BZ r7 2 Mc ∧
 rI BZ k1 3 fun LS =>
 (0 ≤ LS) ∧
 (LS < 8) ∧
 sT BZ b2 ((o2 + 2) + (Int.toNat LS)) (iV Gx) fun RT =>
 K (.tuple #[]) RT) Kp)) Kp)) Kp) Kp) :
 aa Tryz.prog 191 #[.pointer (some ⟨b0, o0, none⟩), .int .i64 x1, .pointer (some ⟨b2, o2, none⟩), .agg #[.int .i64 eC, .int .i64 eD, .int .i64 eE, .int .i64 eF]] M K Kp := vw [(7, .bN [0, 0, 2, 0, 1, 17, 63, 127] (sy [0, 1, 3, 4, 5, 2, 6, 7] .done)), (8, .bN [0, 0, 0, 4, 12, 28, 0, 64, 192, 448, 1023] (sy [0, 1, 2, 3, 4, 5, 6, 7, 8, 9, 10] .done)), (14, .bN [0, 0, 2, 0, 0, 16, 8, 72, 248, 504, 1023] (sy [0, 1, 3, 4, 6, 7, 2, 5, 8, 9, 10] .done)), (15, .bN [0, 0, 2, 0, 0, 16, 56, 120, 248, 248, 248, 1, 2049, 6655, 14847] (sy [0, 1, 3, 4, 11, 12, 5] (.fT 2 (sy [6, 7, 8, 9, 10, 13, 14] .done)))), (16, .bN [0, 0, 2, 0, 1, 17, 63, 127] (sy [0, 1, 3, 4, 5, 2, 6, 7] .done))] Tryz.func191 h
theorem pD {b0 o0 : Nat} {x1 : Int} {b2 o2 : Nat} {eC : Int} {eD : Int} {eE : Int} {eF : Int} (h :
bh M (cl [(iV eC), (iV eD), (iV eE), (iV eF)] 27) fun k1 M2 =>
e7 (Mem.ld M2 ⟨b0, (o0 + 14), none⟩) fun v3 =>
rI M2 k1 2 fun n4 =>
gK Cx v3 [(iV 4), (iV n4)] M2 (fun v5 M6 =>
aG (some v5) .i64 fun n7 =>
rI M6 b2 (o2 + 1) fun n8 =>
sT M6 b2 (o2 + 1) (iV (IntKind.wrap .i64 (n8 + 1))) fun M9 =>
rI M9 k1 1 fun kB =>
(0 ≤ kB) ∧
(kB < 8) ∧
sT M9 b2 ((o2 + 2) + (Int.toNat kB)) (iV n7) fun jZ =>
K (.tuple #[]) jZ) Kp) :
 aa Tryz.prog 192 #[.pointer (some ⟨b0, o0, none⟩), .int .i64 x1, .pointer (some ⟨b2, o2, none⟩), .agg #[.int .i64 eC, .int .i64 eD, .int .i64 eE, .int .i64 eF]] M K Kp := vw [(1, .bN [0, 1, 3, 7, 0, 16, 63, 127] (sy [0, 1, 2, 4, 3, 5, 6, 7] .done)), (3, .bN [0, 0, 2, 0, 1, 17, 63, 127] (sy [0, 1, 3, 4, 5, 2, 6, 7] .done))] Tryz.func192 h
theorem wK  (h :
bh M (.map #[] 0) fun k1 M2 =>
bG Tryz.prog (Go.Instr.mapUpdate 345 (.map (some k1)) (iV 9) (.func (.func 211) #[] #[])) M2 (fun M3 =>
bG Tryz.prog (Go.Instr.mapUpdate 345 (.map (some k1)) (iV 10) (.func (.func 212) #[] #[])) M3 (fun M4 =>
bG Tryz.prog (Go.Instr.mapUpdate 345 (.map (some k1)) (iV 11) (.func (.func 213) #[] #[])) M4 (fun M5 =>
bG Tryz.prog (Go.Instr.mapUpdate 345 (.map (some k1)) (iV 12) (.func (.func 214) #[] #[])) M5 (fun M6 =>
bG Tryz.prog (Go.Instr.mapUpdate 345 (.map (some k1)) (iV 13) (.func (.func 215) #[] #[])) M6 (fun M7 =>
bG Tryz.prog (Go.Instr.mapUpdate 345 (.map (some k1)) (iV 14) (.func (.func 216) #[] #[])) M7 (fun M8 =>
bG Tryz.prog (Go.Instr.mapUpdate 345 (.map (some k1)) (iV 15) (.func (.func 217) #[] #[])) M8 (fun M9 =>
bG Tryz.prog (Go.Instr.mapUpdate 345 (.map (some k1)) (iV 17) (.func (.func 218) #[] #[])) M9 (fun jL =>
bG Tryz.prog (Go.Instr.mapUpdate 345 (.map (some k1)) (iV 18) (.func (.func 219) #[] #[])) jL (fun jZ =>
bG Tryz.prog (Go.Instr.mapUpdate 345 (.map (some k1)) (iV 19) (.func (.func 220) #[] #[])) jZ (fun ry =>
bG Tryz.prog (Go.Instr.mapUpdate 345 (.map (some k1)) (iV 20) (.func (.func 221) #[] #[])) ry (fun kz =>
bG Tryz.prog (Go.Instr.mapUpdate 345 (.map (some k1)) (iV 22) (.func (.func 222) #[] #[])) kz (fun nh =>
K (.map (some k1)) nh) Kp) Kp) Kp) Kp) Kp) Kp) Kp) Kp) Kp) Kp) Kp) Kp) :
 aa Tryz.prog 193 #[] M K Kp := vw [] Tryz.func193 h
theorem pE {b0 o0 : Nat} {x1 : Int} (h :
bh M (.cells #[(.int .u64 0), (.int .u64 0), (.int .i64 0)] 203 (0, 0)) fun k1 M2 =>
az (Mem.ld M2 ⟨b0, o0, none⟩) fun A3 k4 k5 =>
((0 : Int) ≤ x1) ∧
((x1 : Int) < ((k4 : Nat) : Int)) ∧
aD A3 fun k6 k7 =>
aG (Mem.ld M2 ⟨k6, (k7 + ((Int.toNat x1) * 3)), none⟩) .u64 fun n8 =>
aG (Mem.ld M2 ⟨k6, ((k7 + ((Int.toNat x1) * 3)) + 1), none⟩) .u64 fun n9 =>
aG (Mem.ld M2 ⟨k6, ((k7 + ((Int.toNat x1) * 3)) + 2), none⟩) .i64 fun kB =>
bh M2 (.cells #[(.int .u64 0), (.int .u64 0), (.int .i64 0)] 203 (0, 0)) fun en ry =>
aF ry ⟨en, 0, none⟩ (.int .u64 n8) fun kz =>
aF kz ⟨en, (0 + 1), none⟩ (.int .u64 n9) fun nh =>
aF nh ⟨en, (0 + 2), none⟩ (.int .i64 kB) fun vg =>
az (Mem.ld vg ⟨b0, o0, none⟩) fun RU eK gq =>
aa Tryz.prog 154 #[(.pointer (some ⟨b0, o0, none⟩)), (.int .i64 x1), (.int .i64 (IntKind.wrap .i64 (((eK : Nat) : Int) - 1)))] vg (fun Md r8 =>
(Md = (.tuple #[])) ∧
az (Mem.ld r8 ⟨b0, o0, none⟩) fun yd hG jB =>
((0 : Int) ≤ ((jB : Nat) : Int)) ∧
((((jB : Nat) : Int) : Int) ≤ ((jB : Nat) : Int)) ∧
((0 : Int) ≤ (IntKind.wrap .i64 (((eK : Nat) : Int) - 1))) ∧
(((IntKind.wrap .i64 (((eK : Nat) : Int) - 1)) : Int) ≤ ((jB : Nat) : Int)) ∧
((0 : Int) ≤ 0) ∧
((0 : Int) ≤ (IntKind.wrap .i64 (((eK : Nat) : Int) - 1))) ∧
aF r8 ⟨b0, o0, none⟩ (.slice (lF yd 0 (Int.toNat ((jB : Nat) : Int)) 3) ((Int.toNat (IntKind.wrap .i64 (((eK : Nat) : Int) - 1))) - 0) ((Int.toNat ((jB : Nat) : Int)) - 0)) fun jj =>
aO (decide ((x1 : Int) < (IntKind.wrap .i64 (((eK : Nat) : Int) - 1))))
 (aa Tryz.prog 155 #[(.pointer (some ⟨b0, o0, none⟩)), (.int .i64 x1)] jj (fun Pt uN =>
 (Pt = (.tuple #[])) ∧
 aa Tryz.prog 156 #[(.pointer (some ⟨b0, o0, none⟩)), (.int .i64 x1)] uN (fun I2 AU =>
 (I2 = (.tuple #[])) ∧
 aG (Mem.ld AU ⟨en, 0, none⟩) .u64 fun yW =>
 aG (Mem.ld AU ⟨en, (0 + 1), none⟩) .u64 fun Ad =>
 aG (Mem.ld AU ⟨en, (0 + 2), none⟩) .i64 fun vF =>
 aF AU ⟨k1, 0, none⟩ (.int .u64 yW) fun oW =>
 aF oW ⟨k1, (0 + 1), none⟩ (.int .u64 Ad) fun BQ =>
 aF BQ ⟨k1, (0 + 2), none⟩ (.int .i64 vF) fun rC =>
 aG (Mem.ld rC ⟨k1, 0, none⟩) .u64 fun Fa =>
 aG (Mem.ld rC ⟨k1, (0 + 1), none⟩) .u64 fun wI =>
 aG (Mem.ld rC ⟨k1, (0 + 2), none⟩) .i64 fun LK =>
 K (.agg #[(.int .u64 Fa), (.int .u64 wI), (.int .i64 LK)]) rC) Kp) Kp)
 (aG (Mem.ld jj ⟨en, 0, none⟩) .u64 fun Gr =>
 aG (Mem.ld jj ⟨en, (0 + 1), none⟩) .u64 fun HI =>
 aG (Mem.ld jj ⟨en, (0 + 2), none⟩) .i64 fun Jc =>
 aF jj ⟨k1, 0, none⟩ (.int .u64 Gr) fun BY =>
 aF BY ⟨k1, (0 + 1), none⟩ (.int .u64 HI) fun Me =>
 aF Me ⟨k1, (0 + 2), none⟩ (.int .i64 Jc) fun xO =>
 aG (Mem.ld xO ⟨k1, 0, none⟩) .u64 fun Gy =>
 aG (Mem.ld xO ⟨k1, (0 + 1), none⟩) .u64 fun Gx =>
 aG (Mem.ld xO ⟨k1, (0 + 2), none⟩) .i64 fun Ja =>
 K (.agg #[(.int .u64 Gy), (.int .u64 Gx), (.int .i64 Ja)]) xO)) Kp) :
 aa Tryz.prog 117 ([.pointer (some ⟨b0, o0, none⟩), .int .i64 x1] : List Value).toArray M K Kp :=
 bR (C := Cx) good [] Tryz.func117 (by kernel_rfl) (by kernel_rfl) h
theorem wL  (h :
bh M (.map #[] 0) fun k1 M2 =>
bG Tryz.prog (Go.Instr.mapUpdate 361 (.map (some k1)) (iV 0) (.func (.func 225) #[] #[])) M2 (fun M3 =>
bG Tryz.prog (Go.Instr.mapUpdate 361 (.map (some k1)) (iV 1) (.func (.func 226) #[] #[])) M3 (fun M4 =>
bG Tryz.prog (Go.Instr.mapUpdate 361 (.map (some k1)) (iV 2) (.func (.func 227) #[] #[])) M4 (fun M5 =>
bG Tryz.prog (Go.Instr.mapUpdate 361 (.map (some k1)) (iV 3) (.func (.func 228) #[] #[])) M5 (fun M6 =>
bG Tryz.prog (Go.Instr.mapUpdate 361 (.map (some k1)) (iV 4) (.func (.func 229) #[] #[])) M6 (fun M7 =>
bG Tryz.prog (Go.Instr.mapUpdate 361 (.map (some k1)) (iV 5) (.func (.func 230) #[] #[])) M7 (fun M8 =>
bG Tryz.prog (Go.Instr.mapUpdate 361 (.map (some k1)) (iV 6) (.func (.func 231) #[] #[])) M8 (fun M9 =>
bG Tryz.prog (Go.Instr.mapUpdate 361 (.map (some k1)) (iV 7) (.func (.func 232) #[] #[])) M9 (fun jL =>
bG Tryz.prog (Go.Instr.mapUpdate 361 (.map (some k1)) (iV 8) (.func (.func 233) #[] #[])) jL (fun jZ =>
K (.map (some k1)) jZ) Kp) Kp) Kp) Kp) Kp) Kp) Kp) Kp) Kp) :
 aa Tryz.prog 203 #[] M K Kp := vw [] Tryz.func203 h
theorem nQ {b0 o0 : Nat} {cH : Int} {cI : Int} {cJ : Int} {fj : Int} (h :
bh M (cl [(iV cH), (iV cI), (iV cJ), (iV fj)] 27) fun k1 M2 =>
rS M2 b0 (o0 + 3) fun A3 k4 k5 =>
rI M2 k1 1 fun n6 =>
rI M2 k1 1 fun n7 =>
rI M2 k1 2 fun n8 =>
((0 : Int) ≤ k5) ∧
((k5 : Int) ≤ k5) ∧
((0 : Int) ≤ (IntKind.wrap .i64 (n7 + n8))) ∧
(((IntKind.wrap .i64 (n7 + n8)) : Int) ≤ (k5 : Int)) ∧
(0 ≤ n6) ∧
((n6 : Int) ≤ (IntKind.wrap .i64 (n7 + n8))) ∧
K (.slice (lF A3 (Int.toNat n6) (Int.toNat (k5 : Int)) 3) ((Int.toNat (IntKind.wrap .i64 (n7 + n8))) - (Int.toNat n6)) ((Int.toNat (k5 : Int)) - (Int.toNat n6))) M2) :
 aa Tryz.prog 204 #[.pointer (some ⟨b0, o0, none⟩), .agg #[.int .i64 cH, .int .i64 cI, .int .i64 cJ, .int .i64 fj]] M K Kp := vw [(1, .bN [0, 1, 3, 7, 15, 0, 32, 0, 128, 0, 512, 1920, 4095, 8191] (sy [0, 1, 2, 3, 5, 7, 9, 4, 6, 8, 10, 11, 12, 13] .done))] Tryz.func204 h
theorem nR {b0 o0 : Nat} {x1 : Int} {Ti : Int} {Tj : Int} {Tk : Int} {Tl : Int} (h :
bh M (cl [(iV Ti), (iV Tj), (iV Tk), (iV Tl)] 27) fun k1 M2 =>
rS M2 b0 (o0 + 4) fun A3 k4 k5 =>
((0 : Int) ≤ x1) ∧
((x1 : Int) < k4) ∧
aD A3 fun k6 k7 =>
rP M2 k6 (k7 + (Int.toNat x1)) fun A8 =>
rS M2 b0 (o0 + 4) fun A9 eJ en =>
((0 : Int) ≤ x1) ∧
((x1 : Int) < eJ) ∧
aD A9 fun gh dH =>
rP M2 gh (dH + (Int.toNat x1)) fun nj =>
aD A8 fun gI gi =>
jy M2 k1 0 fun kC mO zY iu =>
sT M2 gI gi (iV 2) fun uI =>
((Mem.gp uI ⟨k1, 0, none⟩ 0 4) = some [(iV kC), (iV mO), (iV zY), (iV iu)]) ∧
aD nj fun hG jB =>
sT uI hG (jB + 2) (iV kC) fun jj =>
sT jj hG ((jB + 2) + 1) (iV mO) fun E7 =>
sT E7 hG ((jB + 2) + 2) (iV zY) fun uN =>
sT uN hG ((jB + 2) + 3) (iV iu) fun tr =>
((Mem.gp tr ⟨k1, 0, none⟩ 0 4) = some [(iV kC), (iV mO), (iV zY), (iV iu)]) ∧
K (.tuple #[]) tr) :
 aa Tryz.prog 208 #[.pointer (some ⟨b0, o0, none⟩), .int .i64 x1, .agg #[.int .i64 Ti, .int .i64 Tj, .int .i64 Tk, .int .i64 Tl]] M K Kp := vw [(1, .bN [0, 1, 3, 7, 0, 31, 63, 0, 128, 384, 896, 0, 3968, 8064, 0, 16383, 49151, 114687, 262143, 524287, 1048575] (sy [0, 1, 2, 4, 7, 8, 9, 11, 3, 5, 6, 10, 12, 13, 15, 16] (.fT 14 (sy [17, 18, 19, 20] .done))))] Tryz.func208 h
theorem qC {b0 o0 : Nat} {x1 : Int} {x2 : Int} (h :
rS M b0 (o0 + 6) fun A1 k2 k3 =>
((0 : Int) ≤ x1) ∧
((x1 : Int) < k2) ∧
aD A1 fun k4 k5 =>
rP M k4 (k5 + (Int.toNat x1)) fun A6 =>
aa Tryz.prog 237 #[(.pointer A6), (iV x2)] M (fun v7 M8 =>
∃ n9 kB gQ : Int, ∃ t12 : Bool, ∃ jN : Int, (v7 = (.tuple #[(.agg #[(iV n9), (iV kB), (iV gQ)]), (.bool t12), (iV jN)])) ∧
bh M8 ji fun iL vg =>
IG vg iL (iV n9) (iV kB) (iV gQ) fun qx =>
aO (jN == 10)
 (Kp [{ v := (.iface 340 (iV (-1))), recovered := false }] qx)
 (aO t12
 (rI qx iL 0 fun zY =>
 rI qx iL 1 fun iu =>
 rI qx iL 2 fun rz =>
 aa Tryz.prog 238 #[(.pointer (some ⟨b0, o0, none⟩)), (.agg #[(iV zY), (iV iu), (iV rz)]), (iV 1)] qx (fun Gs mF =>
 (Gs = (.tuple #[])) ∧
 K (.bool (jN == 0)) mF) Kp)
 (K (.bool (jN == 0)) qx))) Kp) :
 aa Tryz.prog 209 #[.pointer (some ⟨b0, o0, none⟩), .int .i64 x1, .int .i64 x2] M K Kp := vw [] Tryz.func209 h
theorem qD {b0 o0 : Nat} {x1 : Int} (h :
rS M b0 (o0 + 6) fun A1 k2 k3 =>
((0 : Int) ≤ x1) ∧
((x1 : Int) < k2) ∧
aD A1 fun k4 k5 =>
rP M k4 (k5 + (Int.toNat x1)) fun A6 =>
aa Tryz.prog 239 #[(.pointer A6)] M (fun v7 M8 =>
∃ n9 : Int, ∃ t10 : Bool, ∃ gQ iw jN : Int, ∃ t14 : Bool, ∃ jM : Int, (v7 = (.tuple #[(.agg #[(iV n9), (.bool t10), (iV gQ), (iV iw), (iV jN), (.bool t14)]), (iV jM)])) ∧
bh M8 lV fun gi pz =>
U6 pz gi (iV n9) (.bool t10) (iV gQ) (iV iw) (iV jN) (.bool t14) fun mF =>
rB mF gi 5 fun t24 =>
aO t24
 (rI mF gi 2 fun tS =>
 rI mF gi (2 + 1) fun sw =>
 rI mF gi (2 + 2) fun yg =>
 aa Tryz.prog 240 #[(.pointer (some ⟨b0, o0, none⟩)), (.agg #[(iV tS), (iV sw), (iV yg)])] mF (fun Pq ni =>
 (Pq = (.tuple #[])) ∧
 rB ni gi 1 fun t30 =>
 aO t30
 (rI ni gi 0 fun vF =>
 K (.tuple #[(iV vF), (iV 1), (.bool true)]) ni)
 (K (.tuple #[(iV 0), (iV 0), (.bool (jM == 0))]) ni)) Kp)
 (rB mF gi 1 fun t32 =>
 aO t32
 (rI mF gi 0 fun E6 =>
 K (.tuple #[(iV E6), (iV 1), (.bool true)]) mF)
 (K (.tuple #[(iV 0), (iV 0), (.bool (jM == 0))]) mF))) Kp) :
 aa Tryz.prog 210 #[.pointer (some ⟨b0, o0, none⟩), .int .i64 x1] M K Kp := vw [] Tryz.func210 h
theorem pF {b0 o0 : Nat} {x1 : Int} {b2 o2 : Nat} {eC : Int} {eD : Int} {eE : Int} {eF : Int} (h :
bh M (cl [(iV eC), (iV eD), (iV eE), (iV eF)] 27) fun k1 M2 =>
rS M2 b0 (o0 + 4) fun A3 k4 k5 =>
((0 : Int) ≤ x1) ∧
((x1 : Int) < k4) ∧
aD A3 fun k6 k7 =>
rP M2 k6 (k7 + (Int.toNat x1)) fun A8 =>
aD A8 fun k9 eJ =>
rS M2 k9 (eJ + 1) fun Jd gh dH =>
rI M2 k1 1 fun mK =>
rI M2 k1 2 fun jM =>
(0 ≤ jM) ∧
(jM < 8) ∧
rI M2 b2 ((o2 + 2) + (Int.toNat jM)) fun oV =>
rI M2 k1 3 fun kC =>
aa Tryz.prog 241 #[(.slice Jd gh dH), (iV mK), (iV oV), (iV kC)] M2 (fun DD ku =>
∃ Ve : Option Addr, ∃ fe hG : Nat, ∃ t23 : Bool, (DD = (.tuple #[(.slice Ve fe hG), (.bool t23)])) ∧
aO (!t23)
 (Kp [{ v := (.iface 340 (iV (-4))), recovered := false }] ku)
 (rS ku b0 (o0 + 4) fun LW vb r9 =>
 ((0 : Int) ≤ x1) ∧
 ((x1 : Int) < vb) ∧
 aD LW fun zX tT =>
 rP ku zX (tT + (Int.toNat x1)) fun Gt =>
 aD Gt fun lH nH =>
 sT ku lH (nH + 1) (.slice Ve fe hG) fun oW =>
 K (.tuple #[]) oW)) Kp) :
 aa Tryz.prog 211 #[.pointer (some ⟨b0, o0, none⟩), .int .i64 x1, .pointer (some ⟨b2, o2, none⟩), .agg #[.int .i64 eC, .int .i64 eD, .int .i64 eE, .int .i64 eF]] M K Kp := vw [(1, .bN [0, 1, 3, 7, 0, 31, 63, 127, 255, 511, 0, 1024, 0, 0, 8192, 4096, 36864, 126976, 258048, 0, 524288, 2097151, 4194303, 8388607, 8388607, 16777215, 67108863] (sy [0, 1, 2, 4, 10, 12, 13, 15, 16, 19, 3, 5, 6, 7, 8, 9, 11, 14, 17, 18, 20, 21, 22, 23, 24, 25, 26] .done))] Tryz.func211 h
theorem pG {b0 o0 : Nat} {x1 : Int} {b2 o2 : Nat} {eC : Int} {eD : Int} {eE : Int} {eF : Int} (h :
bh M (cl [(iV eC), (iV eD), (iV eE), (iV eF)] 27) fun k1 M2 =>
rS M2 b0 (o0 + 4) fun A3 k4 k5 =>
((0 : Int) ≤ x1) ∧
((x1 : Int) < k4) ∧
aD A3 fun k6 k7 =>
rP M2 k6 (k7 + (Int.toNat x1)) fun A8 =>
aD A8 fun k9 eJ =>
rS M2 k9 (eJ + 1) fun Jd gh dH =>
rI M2 k1 1 fun mK =>
(0 ≤ mK) ∧
(mK < 8) ∧
rI M2 b2 ((o2 + 2) + (Int.toNat mK)) fun jM =>
aa Tryz.prog 242 #[(.slice Jd gh dH), (iV jM)] M2 (fun LY pz =>
∃ Fb : Option Addr, ∃ iI iZ : Nat, ∃ t21 : Bool, (LY = (.tuple #[(.slice Fb iI iZ), (.bool t21)])) ∧
aO t21
 (rS pz b0 (o0 + 4) fun WI jB r6 =>
 ((0 : Int) ≤ x1) ∧
 ((x1 : Int) < jB) ∧
 aD WI fun vb r9 =>
 rP pz vb (r9 + (Int.toNat x1)) fun Pu =>
 aD Pu fun tT uJ =>
 sT pz tT (uJ + 1) (.slice Fb iI iZ) fun wC =>
 K (.tuple #[]) wC)
 (rS pz b0 (o0 + 4) fun Td nI z0 =>
 ((0 : Int) ≤ x1) ∧
 ((x1 : Int) < nI) ∧
 aD Td fun yS yT =>
 rP pz yS (yT + (Int.toNat x1)) fun Oe =>
 aD Oe fun vH hU =>
 sT pz vH hU (iV 4) fun RV =>
 aO (x1 == 0)
 (sT RV b0 (o0 + 11) (iV 1) fun Px =>
 K (.tuple #[]) Px)
 (K (.tuple #[]) RV))) Kp) :
 aa Tryz.prog 212 #[.pointer (some ⟨b0, o0, none⟩), .int .i64 x1, .pointer (some ⟨b2, o2, none⟩), .agg #[.int .i64 eC, .int .i64 eD, .int .i64 eE, .int .i64 eF]] M K Kp := vw [(1, .bN [0, 1, 3, 7, 0, 31, 63, 127, 255, 511, 0, 0, 2048, 1024, 9216, 31744, 64512, 131071, 262143, 524287, 524287, 1048575, 4194303] (sy [0, 1, 2, 4, 10, 11, 13, 14, 3, 5, 6, 7, 8, 9, 12, 15, 16, 17, 18, 19, 20, 21, 22] .done))] Tryz.func212 h
theorem nS {b0 o0 : Nat} {x1 : Int} {b2 o2 : Nat} {eC : Int} {eD : Int} {eE : Int} {eF : Int} (h :
bh M (cl [(iV eC), (iV eD), (iV eE), (iV eF)] 27) fun k1 M2 =>
rS M2 b0 (o0 + 4) fun A3 k4 k5 =>
aO (decide ((k4 : Int) ≥ 100))
 (Kp [{ v := (.iface 340 (iV (-5))), recovered := false }] M2)
 (rS M2 b0 (o0 + 4) fun A6 k7 k8 =>
 ∃ J9 : List Value → Mem → Prop, (rI M2 k1 1 fun kB =>
 rI M2 k1 2 fun gQ =>
 (0 ≤ gQ) ∧
 (gQ < 8) ∧
 rI M2 b2 ((o2 + 2) + (Int.toNat gQ)) fun iw =>
 (rS M2 b0 (o0 + 4) fun K7 iL gI =>
 aa Tryz.prog 112 #[(iV kB), (iV iw)] M2 (fun LY pz =>
 az (some LY) fun Fb iI iZ =>
 bh pz (cl [(iV 0), (.slice Fb iI iZ), (iV 0), (iV 0), (iV 0), (iV 0)] 229) fun fe mE =>
 bh mE (cl [(.pointer (some ⟨fe, 0, none⟩))] 224) fun jB jj =>
 aA 155 K7 iL gI (some ⟨jB, 0, none⟩) 1 1 jj (fun Pt uN =>
 az (some Pt) fun Pu tT uJ =>
 sT uN b0 (o0 + 4) (.slice Pu tT uJ) fun wC =>
 J9 [] wC) Kp) Kp) ∧
 (aa Tryz.prog 112 #[(iV kB), (iV iw)] M2 (fun Pg oW =>
 az (some Pg) fun IX yS yT =>
 rS oW b0 (o0 + 4) fun Oe vH hU =>
 bh oW (cl [(iV 0), (.slice IX yS yT), (iV 0), (iV 0), (iV 0), (iV 0)] 229) fun Af Px =>
 bh Px (cl [(.pointer (some ⟨Af, 0, none⟩))] 224) fun LM Me =>
 aA 155 Oe vH hU (some ⟨LM, 0, none⟩) 1 1 Me (fun v43 Ag =>
 az (some v43) fun A45 LO S6 =>
 sT Ag b0 (o0 + 4) (.slice A45 LO S6) fun RP =>
 J9 [] RP) Kp) Kp) ∧
 True) ∧
 ∀ WJ : Nat → Value, ∀ xM : Mem, (J9 [] xM) → aa Tryz.prog 158 #[(.pointer (some ⟨b0, o0, none⟩)), (iV (k7 : Int))] xM (fun WK Tm =>
 (WK = (.tuple #[])) ∧
 rI Tm k1 3 fun Tn =>
 (0 ≤ Tn) ∧
 (Tn < 8) ∧
 sT Tm b2 ((o2 + 2) + (Int.toNat Tn)) (iV (k7 : Int)) fun LP =>
 K (.tuple #[]) LP) Kp)) :
 aa Tryz.prog 213 #[.pointer (some ⟨b0, o0, none⟩), .int .i64 x1, .pointer (some ⟨b2, o2, none⟩), .agg #[.int .i64 eC, .int .i64 eD, .int .i64 eE, .int .i64 eF]] M K Kp := vw [(4, .Ga [0, 0, 2, 6, 14, 0, 32, 0, 0, 256, 128, 1152, 3968, 8064, 16352, 32736, 65504, 131040, 262142, 524287, 1048575, 2097151] (sy [0, 1, 2, 3, 5, 7, 8, 10, 11, 6, 9, 12, 13] (.fork 4 (sy [14, 15, 16, 17, 18, 19, 20, 21] .done) (.fork 14 (sy [15, 4, 16, 17, 18, 19, 20, 21] .done) .dead))) []), (6, .bN [0, 0, 2, 0, 1, 17, 63, 127] (sy [0, 1, 3, 4, 5, 2, 6, 7] .done))] Tryz.func213 h
theorem nT {b0 o0 : Nat} {x1 : Int} {b2 o2 : Nat} {eC : Int} {eD : Int} {eE : Int} {eF : Int} (h :
bh M (cl [(iV eC), (iV eD), (iV eE), (iV eF)] 27) fun k1 M2 =>
K (.tuple #[]) M2) :
 aa Tryz.prog 214 #[.pointer (some ⟨b0, o0, none⟩), .int .i64 x1, .pointer (some ⟨b2, o2, none⟩), .agg #[.int .i64 eC, .int .i64 eD, .int .i64 eE, .int .i64 eF]] M K Kp := vw [] Tryz.func214 h
theorem pH {b0 o0 : Nat} {x1 : Int} {b2 o2 : Nat} {eC : Int} {eD : Int} {eE : Int} {eF : Int} (h :
bh M (cl [(iV eC), (iV eD), (iV eE), (iV eF)] 27) fun k1 M2 =>
rI M2 k1 1 fun n3 =>
rI M2 k1 2 fun n4 =>
(0 ≤ n4) ∧
(n4 < 8) ∧
rI M2 b2 ((o2 + 2) + (Int.toNat n4)) fun n5 =>
aa Tryz.prog 209 #[(.pointer (some ⟨b0, o0, none⟩)), (iV n3), (iV n5)] M2 (fun v6 M7 =>
cV (some v6) fun t8 =>
aO (!t8)
 (rS M7 b0 (o0 + 6) fun A9 eJ en =>
 rI M7 k1 1 fun iw =>
 (0 ≤ iw) ∧
 (iw < eJ) ∧
 aD A9 fun dH iL =>
 rP M7 dH (iL + (Int.toNat iw)) fun vE =>
 rI M7 k1 2 fun oV =>
 (0 ≤ oV) ∧
 (oV < 8) ∧
 rI M7 b2 ((o2 + 2) + (Int.toNat oV)) fun kC =>
 aa Tryz.prog 236 #[(.pointer vE), (.agg #[(iV x1), (iV 0), (iV kC)])] M7 (fun DD ku =>
 (DD = (.tuple #[])) ∧
 jy ku k1 0 fun iu rz va zZ =>
 aa Tryz.prog 208 #[(.pointer (some ⟨b0, o0, none⟩)), (iV x1), (.agg #[(iV iu), (iV rz), (iV va), (iV zZ)])] ku (fun To E7 =>
 (To = (.tuple #[])) ∧
 K (.tuple #[]) E7) Kp) Kp)
 (K (.tuple #[]) M7)) Kp) :
 aa Tryz.prog 215 #[.pointer (some ⟨b0, o0, none⟩), .int .i64 x1, .pointer (some ⟨b2, o2, none⟩), .agg #[.int .i64 eC, .int .i64 eD, .int .i64 eE, .int .i64 eF]] M K Kp := vw [(1, .bN [0, 0, 2, 0, 0, 16, 8, 72, 248, 504, 1023, 2047] (sy [0, 1, 3, 4, 6, 7, 2, 5, 8, 9, 10, 11] .done)), (2, .bN [0, 1, 3, 7, 0, 16, 63, 127, 0, 0, 0, 1024, 512, 4608, 15872, 32256, 65280, 131071] (sy [0, 1, 2, 4, 8, 9, 10, 12, 13, 3, 5, 6, 7, 11, 14, 15, 16, 17] .done))] Tryz.func215 h
theorem pI {b0 o0 : Nat} {x1 : Int} {b2 o2 : Nat} {eC : Int} {eD : Int} {eE : Int} {eF : Int} (h :
bh M (cl [(iV eC), (iV eD), (iV eE), (iV eF)] 27) fun k1 M2 =>
rI M2 k1 1 fun n3 =>
aa Tryz.prog 210 #[(.pointer (some ⟨b0, o0, none⟩)), (iV n3)] M2 (fun v4 M5 =>
∃ n6 n7 : Int, ∃ t8 : Bool, (v4 = (.tuple #[(iV n6), (iV n7), (.bool t8)])) ∧
aO (!t8)
 (rS M5 b0 (o0 + 6) fun A9 eJ en =>
 rI M5 k1 1 fun iw =>
 (0 ≤ iw) ∧
 (iw < eJ) ∧
 aD A9 fun dH iL =>
 rP M5 dH (iL + (Int.toNat iw)) fun vE =>
 aa Tryz.prog 235 #[(.pointer vE), (.agg #[(iV x1), (iV 0), (iV 0)])] M5 (fun LY pz =>
 (LY = (.tuple #[])) ∧
 jy pz k1 0 fun mO zY iu rz =>
 aa Tryz.prog 208 #[(.pointer (some ⟨b0, o0, none⟩)), (iV x1), (.agg #[(iV mO), (iV zY), (iV iu), (iV rz)])] pz (fun Gs mF =>
 (Gs = (.tuple #[])) ∧
 K (.tuple #[]) mF) Kp) Kp)
 (rI M5 k1 2 fun AY =>
 (0 ≤ AY) ∧
 (AY < 8) ∧
 rI M5 k1 3 fun tS =>
 sT M5 b2 ((o2 + 2) + (Int.toNat AY)) (iV n6) fun uN =>
 eI uN k1 3 tS ∧
 (0 ≤ tS) ∧
 (tS < 8) ∧
 sT uN b2 ((o2 + 2) + (Int.toNat tS)) (iV n7) fun tr =>
 eI tr k1 3 tS ∧
 K (.tuple #[]) tr)) Kp) :
 aa Tryz.prog 216 #[.pointer (some ⟨b0, o0, none⟩), .int .i64 x1, .pointer (some ⟨b2, o2, none⟩), .agg #[.int .i64 eC, .int .i64 eD, .int .i64 eE, .int .i64 eF]] M K Kp := vw [(3, .bN [0, 1, 3, 7, 0, 16, 63, 127, 0, 256, 1023] (sy [0, 1, 2, 4, 8, 9, 3, 5, 6, 7, 10] .done)), (5, .bN [0, 0, 2, 0, 0, 16, 0, 0, 1, 257, 839, 1863, 8, 4104, 16383, 32767] (sy [0, 1, 3, 4, 6, 7, 8, 9, 12, 13, 2, 10] (.fT 5 (sy [11, 14, 15] .done))))] Tryz.func216 h
theorem pJ {b0 o0 : Nat} {x1 : Int} {b2 o2 : Nat} {eC : Int} {eD : Int} {eE : Int} {eF : Int} (h :
bh M (cl [(iV eC), (iV eD), (iV eE), (iV eF)] 27) fun k1 M2 =>
rS M2 b0 (o0 + 6) fun A3 k4 k5 =>
rI M2 k1 1 fun n6 =>
(0 ≤ n6) ∧
(n6 < k4) ∧
aD A3 fun k7 k8 =>
rP M2 k7 (k8 + (Int.toNat n6)) fun A9 =>
aa Tryz.prog 243 #[(.pointer A9)] M2 (fun v10 jZ =>
∃ xN : Option Addr, ∃ dH iL : Nat, ∃ vE : Option Addr, ∃ gi eK : Nat, ∃ mO : Int, (v10 = (.tuple #[(.slice xN dH iL), (.slice vE gi eK), (iV mO)])) ∧
aO (mO != 0)
 (Kp [{ v := (.iface 340 (iV (-2))), recovered := false }] jZ)
 (aO (decide ((gi : Int) > 0))
 (Kp [{ v := (.iface 340 (iV (-1))), recovered := false }] jZ)
 (∃ Vf : IT, (∃ iZ, Vf iZ [(iV 0)] jZ) ∧
 ∀ (fe : Nat) (_ : Nat → Value) (zZ : Int) (jj : Mem), (Vf fe [(iV zZ)] jj) → aO (decide (zZ < dH))
 ((0 ≤ zZ) ∧
 (zZ < dH) ∧
 aD xN fun vb r9 =>
 nF jj vb (r9 + ((Int.toNat zZ) * 3)) fun yg sg yW =>
 bh jj ji fun lH Of =>
 IG Of lH (iV yg) (iV sg) (iV yW) fun rC =>
 rS rC b0 (o0 + 4) fun Te Gv vH =>
 rI rC lH 0 fun Gr =>
 (0 ≤ Gr) ∧
 (Gr < Gv) ∧
 aD Te fun Af K9 =>
 rP rC Af (K9 + (Int.toNat Gr)) fun Tp =>
 aD Tp fun Pd yU =>
 rI rC Pd yU fun Gy =>
 aO (Gy == 2)
 (sT rC lH 2 (iV 0) fun tu =>
 nF tu lH 0 fun Ja AV HK =>
 aa Tryz.prog 238 #[(.pointer (some ⟨b0, o0, none⟩)), (.agg #[(iV Ja), (iV AV), (iV HK)]), (iV 0)] tu (fun IU xM =>
 (IU = (.tuple #[])) ∧
 ∃ Mf : Nat, (Mf < fe) ∧
 Vf Mf [(iV (IntKind.wrap .i64 (zZ + 1)))] xM) Kp)
 (∃ tp : Nat, (tp < fe) ∧
 Vf tp [(iV (IntKind.wrap .i64 (zZ + 1)))] rC))
 (K (.tuple #[]) jj)))) Kp) :
 aa Tryz.prog 217 #[.pointer (some ⟨b0, o0, none⟩), .int .i64 x1, .pointer (some ⟨b2, o2, none⟩), .agg #[.int .i64 eC, .int .i64 eD, .int .i64 eE, .int .i64 eF]] M K Kp := vw [(1, .bN [0, 1, 3, 7, 0, 16, 63, 127, 255, 511, 1023, 1023, 1023, 2047, 12287, 32767] (sy [0, 1, 2, 4, 3, 5, 6, 7, 8, 9, 10, 11, 12, 13, 14, 15] .done)), (2000001, .loop [(37, .c (.int .i64))]), (9, .bN [0, 1, 3, 7, 0, 16, 63, 127, 255, 511, 1023, 2047] (sy [0, 1, 2, 4, 3, 5, 6, 7, 8, 9, 10, 11] .done))] Tryz.func217 h
theorem nU {b0 o0 : Nat} {x1 : Int} {b2 o2 : Nat} {eC : Int} {eD : Int} {eE : Int} {eF : Int} (h :
bh M (cl [(iV eC), (iV eD), (iV eE), (iV eF)] 27) fun k1 M2 =>
rI M2 k1 1 fun n3 =>
(0 ≤ n3) ∧
(n3 < 8) ∧
rI M2 b2 ((o2 + 2) + (Int.toNat n3)) fun n4 =>
aO (decide (((if (1048576 : Int) < n4 then 1048576 else n4) : Int) > 0))
 (rU M2 b0 (o0 + 5) fun n5 =>
 aa Tryz.prog 244 #[(.pointer (some ⟨b0, (o0 + 8), none⟩)), (.int .u64 (IntKind.wrap .u64 (n5 + (IntKind.wrap .u64 (if (1048576 : Int) < n4 then 1048576 else n4))))), (iV x1)] M2 (fun v6 M7 =>
 aG (some v6) .u64 fun n8 =>
 rS M7 b0 (o0 + 4) fun A9 eJ en =>
 ((0 : Int) ≤ x1) ∧
 ((x1 : Int) < eJ) ∧
 aD A9 fun gh dH =>
 rP M7 gh (dH + (Int.toNat x1)) fun nj =>
 aD nj fun gI gi =>
 sT M7 gI gi (iV 3) fun pz =>
 K (.tuple #[]) pz) Kp)
 (K (.tuple #[]) M2)) :
 aa Tryz.prog 218 #[.pointer (some ⟨b0, o0, none⟩), .int .i64 x1, .pointer (some ⟨b2, o2, none⟩), .agg #[.int .i64 eC, .int .i64 eD, .int .i64 eE, .int .i64 eF]] M K Kp := vw [(1, .bN [0, 0, 2, 1, 9, 31, 63, 127, 255] (sy [0, 1, 3, 4, 2, 5, 6, 7, 8] .done)), (3, .bN [0, 1, 3, 0, 8, 24, 56, 0, 128, 504, 0, 2047] (sy [0, 1, 2, 3, 4, 5, 7, 8, 10, 6, 9, 11] .done))] Tryz.func218 h
theorem pK {b0 o0 : Nat} {x1 : Int} {b2 o2 : Nat} {eC : Int} {eD : Int} {eE : Int} {eF : Int} (h :
bh M (cl [(iV eC), (iV eD), (iV eE), (iV eF)] 27) fun k1 M2 =>
rS M2 b0 (o0 + 7) fun A3 k4 k5 =>
rI M2 k1 1 fun n6 =>
(0 ≤ n6) ∧
(n6 < k4) ∧
aD A3 fun k7 k8 =>
rP M2 k7 (k8 + (Int.toNat n6)) fun A9 =>
aa Tryz.prog 245 #[(.pointer A9), (iV x1)] M2 (fun v10 jZ =>
cV (some v10) fun t12 =>
aO (!t12)
 (rI jZ k1 0 fun jN =>
 rI jZ k1 1 fun mK =>
 rI jZ k1 2 fun jM =>
 rI jZ k1 3 fun oV =>
 aa Tryz.prog 208 #[(.pointer (some ⟨b0, o0, none⟩)), (iV x1), (.agg #[(iV jN), (iV mK), (iV jM), (iV oV)])] jZ (fun Tq qx =>
 (Tq = (.tuple #[])) ∧
 K (.tuple #[]) qx) Kp)
 (K (.tuple #[]) jZ)) Kp) :
 aa Tryz.prog 219 #[.pointer (some ⟨b0, o0, none⟩), .int .i64 x1, .pointer (some ⟨b2, o2, none⟩), .agg #[.int .i64 eC, .int .i64 eD, .int .i64 eE, .int .i64 eF]] M K Kp := vw [(1, .bN [0, 1, 3, 7, 0, 16, 63, 127, 0, 511, 1023] (sy [0, 1, 2, 4, 8, 3, 5, 6, 7, 9, 10] .done))] Tryz.func219 h
theorem mR {b0 o0 : Nat} {x1 : Int} {b2 o2 : Nat} {eC : Int} {eD : Int} {eE : Int} {eF : Int} (h :
bh M (cl [(iV eC), (iV eD), (iV eE), (iV eF)] 27) fun k1 M2 =>
rS M2 b0 (o0 + 7) fun A3 k4 k5 =>
rI M2 k1 1 fun n6 =>
(0 ≤ n6) ∧
(n6 < k4) ∧
aD A3 fun k7 k8 =>
rP M2 k7 (k8 + (Int.toNat n6)) fun A9 =>
aa Tryz.prog 246 #[(.pointer A9), (iV x1)] M2 (fun v10 jZ =>
∃ iw jN : Int, (v10 = (.tuple #[(iV iw), (iV jN)])) ∧
aO (jN != 0)
 (Kp [{ v := (.iface 340 (iV (-3))), recovered := false }] jZ)
 (aO (iw != (-1))
 (aa Tryz.prog 158 #[(.pointer (some ⟨b0, o0, none⟩)), (iV iw)] jZ (fun WL vg =>
 (WL = (.tuple #[])) ∧
 K (.tuple #[]) vg) Kp)
 (K (.tuple #[]) jZ))) Kp) :
 aa Tryz.prog 220 #[.pointer (some ⟨b0, o0, none⟩), .int .i64 x1, .pointer (some ⟨b2, o2, none⟩), .agg #[.int .i64 eC, .int .i64 eD, .int .i64 eE, .int .i64 eF]] M K Kp := vw [(1, .bN [0, 1, 3, 7, 0, 16, 63, 127, 0, 511, 1023, 2047, 2047, 4095, 16383] (sy [0, 1, 2, 4, 8, 3, 5, 6, 7, 9, 10, 11, 12, 13, 14] .done))] Tryz.func220 h
theorem pL {b0 o0 : Nat} {x1 : Int} {b2 o2 : Nat} {eC : Int} {eD : Int} {eE : Int} {eF : Int} (h :
bh M (cl [(iV eC), (iV eD), (iV eE), (iV eF)] 27) fun k1 M2 =>
rS M2 b0 (o0 + 10) fun A3 k4 k5 =>
aO (decide ((k4 : Int) ≥ 1000))
 (Kp [{ v := (.iface 340 (iV (-6))), recovered := false }] M2)
 (rS M2 b0 (o0 + 10) fun A6 k7 k8 =>
 rI M2 k1 1 fun n9 =>
 (0 ≤ n9) ∧
 (n9 < 8) ∧
 rI M2 b2 ((o2 + 2) + (Int.toNat n9)) fun kB =>
 bh M2 (cl [(iV kB)] 2) fun en ry =>
 aA 53 A6 k7 k8 (some ⟨en, 0, none⟩) 1 1 ry (fun HH nh =>
 az (some HH) fun vE gi eK =>
 sT nh b0 (o0 + 10) (.slice vE gi eK) fun qx =>
 K (.tuple #[]) qx) Kp)) :
 aa Tryz.prog 221 #[.pointer (some ⟨b0, o0, none⟩), .int .i64 x1, .pointer (some ⟨b2, o2, none⟩), .agg #[.int .i64 eC, .int .i64 eD, .int .i64 eE, .int .i64 eF]] M K Kp := vw [(3, .bN [0, 0, 2, 6, 14, 0, 0, 64, 32, 288, 992, 2016, 4064, 8190, 16383, 32767, 65535] (sy [0, 1, 2, 3, 5, 6, 8, 9, 4, 7, 10, 11, 12, 13, 14, 15, 16] .done))] Tryz.func221 h
theorem pM {b0 o0 : Nat} {x1 : Int} {b2 o2 : Nat} {eC : Int} {eD : Int} {eE : Int} {eF : Int} (h :
bh M (cl [(iV eC), (iV eD), (iV eE), (iV eF)] 27) fun k1 M2 =>
rI M2 k1 1 fun n3 =>
Kp [{ v := (.iface 340 (iV n3)), recovered := false }] M2) :
 aa Tryz.prog 222 #[.pointer (some ⟨b0, o0, none⟩), .int .i64 x1, .pointer (some ⟨b2, o2, none⟩), .agg #[.int .i64 eC, .int .i64 eD, .int .i64 eE, .int .i64 eF]] M K Kp := vw [] Tryz.func222 h
theorem sA {b0 o0 : Nat} {x1 : Int} {x2 : Int} (h :
az (Mem.ld M ⟨b0, o0, none⟩) fun A1 k2 k3 =>
az (Mem.ld M ⟨b0, o0, none⟩) fun A4 k5 k6 =>
az (Mem.ld M ⟨b0, o0, none⟩) fun A7 k8 k9 =>
((0 : Int) ≤ x2) ∧
((x2 : Int) < ((k8 : Nat) : Int)) ∧
aD A7 fun eJ en =>
aG (Mem.ld M ⟨eJ, (en + ((Int.toNat x2) * 3)), none⟩) .u64 fun iw =>
aG (Mem.ld M ⟨eJ, ((en + ((Int.toNat x2) * 3)) + 1), none⟩) .u64 fun jN =>
aG (Mem.ld M ⟨eJ, ((en + ((Int.toNat x2) * 3)) + 2), none⟩) .i64 fun mK =>
az (Mem.ld M ⟨b0, o0, none⟩) fun vE gi eK =>
((0 : Int) ≤ x1) ∧
((x1 : Int) < ((gi : Nat) : Int)) ∧
aD vE fun gq iI =>
aG (Mem.ld M ⟨gq, (iI + ((Int.toNat x1) * 3)), none⟩) .u64 fun iu =>
aG (Mem.ld M ⟨gq, ((iI + ((Int.toNat x1) * 3)) + 1), none⟩) .u64 fun rz =>
aG (Mem.ld M ⟨gq, ((iI + ((Int.toNat x1) * 3)) + 2), none⟩) .i64 fun va =>
((0 : Int) ≤ x1) ∧
((x1 : Int) < ((k2 : Nat) : Int)) ∧
aD A1 fun jB r6 =>
aF M ⟨jB, (r6 + ((Int.toNat x1) * 3)), none⟩ (.int .u64 iw) fun E7 =>
aF E7 ⟨jB, ((r6 + ((Int.toNat x1) * 3)) + 1), none⟩ (.int .u64 jN) fun uN =>
aF uN ⟨jB, ((r6 + ((Int.toNat x1) * 3)) + 2), none⟩ (.int .i64 mK) fun tr =>
((0 : Int) ≤ x2) ∧
((x2 : Int) < ((k5 : Nat) : Int)) ∧
aD A4 fun tT uJ =>
aF tr ⟨tT, (uJ + ((Int.toNat x2) * 3)), none⟩ (.int .u64 iu) fun wC =>
aF wC ⟨tT, ((uJ + ((Int.toNat x2) * 3)) + 1), none⟩ (.int .u64 rz) fun Of =>
aF Of ⟨tT, ((uJ + ((Int.toNat x2) * 3)) + 2), none⟩ (.int .i64 va) fun oW =>
K (.tuple #[]) oW) :
 aa Tryz.prog 154 ([.pointer (some ⟨b0, o0, none⟩), .int .i64 x1, .int .i64 x2] : List Value).toArray M K Kp :=
 bR (C := Cx) good [(0, .bN [0, 1, 3, 7, 0, 0, 32, 96, 224, 0, 0, 1024, 3072, 7168, 0, 31744, 64512, 0, 131072, 393216, 917504, 0, 4063232, 8257536, 16776703, 33553919, 67108863, 134217727] (.step 0 (.step 1 (.step 2 (.step 4 (.step 5 (.step 6 (.step 7 (.step 9 (.step 10 (.step 11 (.step 12 (.step 14 (.step 17 (.step 18 (.step 19 (.step 21 (.step 3 (.step 8 (.step 13 (.step 15 (.step 16 (.step 20 (.step 22 (.step 23 (.step 24 (.step 25 (.step 26 (.step 27 .done)))))))))))))))))))))))))))))] Tryz.func154 (by kernel_rfl) (by kernel_rfl) h
theorem sB {b0 o0 : Nat} {x1 : Int} (h :
aa Tryz.prog 186 #[(.pointer (some ⟨b0, o0, none⟩)), (iV x1)] M (fun v1 M2 =>
aG (some v1) .i64 fun n3 =>
∃ I4 : IT, (∃ k5, I4 k5 [(iV x1), (iV n3)] M2) ∧
∀ (k6 : Nat) (_ : Nat → Value) (n8 : Int) (n9 : Int) (jL : Mem), (I4 k6 [(iV n8), (iV n9)] jL) → aO (n9 != n8)
 (aa Tryz.prog 154 #[(.pointer (some ⟨b0, o0, none⟩)), (iV n8), (iV n9)] jL (fun v11 ry =>
 (v11 = (.tuple #[])) ∧
 aa Tryz.prog 186 #[(.pointer (some ⟨b0, o0, none⟩)), (iV n9)] ry (fun HH nh =>
 aG (some HH) .i64 fun jM =>
 ∃ gi : Nat, (gi < k6) ∧
 I4 gi [(iV n9), (iV jM)] nh) Kp) Kp)
 (K (.tuple #[]) jL)) Kp) :
 aa Tryz.prog 155 #[.pointer (some ⟨b0, o0, none⟩), .int .i64 x1] M K Kp := vw [(2000000, .loop [(1, .c (.int .i64)), (4, .c (.int .i64))])] Tryz.func155 h
theorem vj {b0 o0 : Nat} {x1 : Int} (h :
∃ I1 : Nat → List Value → Mem → Prop, (∃ k2 : Nat, I1 k2 [(.int .i64 x1)] M) ∧
∀ k3 : Nat, ∀ Oc : Nat → Value, ∀ n5 : Int, ∀ M6 : Mem, (I1 k3 [(.int .i64 n5)] M6) → aO (decide ((n5 : Int) > 0))
 (((4 : Int) ≠ 0) ∧
 az (Mem.ld M6 ⟨b0, o0, none⟩) fun A7 k8 k9 =>
 ((0 : Int) ≤ n5) ∧
 ((n5 : Int) < ((k8 : Nat) : Int)) ∧
 aD A7 fun eJ en =>
 aG (Mem.ld M6 ⟨eJ, (en + ((Int.toNat n5) * 3)), none⟩) .u64 fun iw =>
 aG (Mem.ld M6 ⟨eJ, ((en + ((Int.toNat n5) * 3)) + 1), none⟩) .u64 fun jN =>
 aG (Mem.ld M6 ⟨eJ, ((en + ((Int.toNat n5) * 3)) + 2), none⟩) .i64 fun mK =>
 az (Mem.ld M6 ⟨b0, o0, none⟩) fun vE gi eK =>
 ((0 : Int) ≤ (IntKind.wrap .i64 (Int.tdiv (IntKind.wrap .i64 (n5 - 1)) 4))) ∧
 (((IntKind.wrap .i64 (Int.tdiv (IntKind.wrap .i64 (n5 - 1)) 4)) : Int) < ((gi : Nat) : Int)) ∧
 aD vE fun gq iI =>
 aG (Mem.ld M6 ⟨gq, (iI + ((Int.toNat (IntKind.wrap .i64 (Int.tdiv (IntKind.wrap .i64 (n5 - 1)) 4))) * 3)), none⟩) .u64 fun iu =>
 aG (Mem.ld M6 ⟨gq, ((iI + ((Int.toNat (IntKind.wrap .i64 (Int.tdiv (IntKind.wrap .i64 (n5 - 1)) 4))) * 3)) + 1), none⟩) .u64 fun rz =>
 aG (Mem.ld M6 ⟨gq, ((iI + ((Int.toNat (IntKind.wrap .i64 (Int.tdiv (IntKind.wrap .i64 (n5 - 1)) 4))) * 3)) + 2), none⟩) .i64 fun va =>
 aa Tryz.prog 187 #[(.agg #[(.int .u64 iw), (.int .u64 jN), (.int .i64 mK)]), (.agg #[(.int .u64 iu), (.int .u64 rz), (.int .i64 va)])] M6 (fun S9 jj =>
 cV (some S9) fun t25 =>
 aO t25
  (((4 : Int) ≠ 0) ∧
  aa Tryz.prog 154 #[(.pointer (some ⟨b0, o0, none⟩)), (.int .i64 n5), (.int .i64 (IntKind.wrap .i64 (Int.tdiv (IntKind.wrap .i64 (n5 - 1)) 4)))] jj (fun Pp tr =>
  (Pp = (.tuple #[])) ∧
  ((4 : Int) ≠ 0) ∧
  ∃ tT : Nat, (tT < k3) ∧
  I1 tT [(.int .i64 (IntKind.wrap .i64 (Int.tdiv (IntKind.wrap .i64 (n5 - 1)) 4)))] tr) Kp)
  (K (.tuple #[]) jj)) Kp)
 (K (.tuple #[]) M6)) :
 aa Tryz.prog 156 ([.pointer (some ⟨b0, o0, none⟩), .int .i64 x1] : List Value).toArray M K Kp :=
 bR (C := Cx) good [(2000000, .loop [(1, .c (.int .i64))]), (0, .bN [0, 1, 3, 7, 15, 31, 63, 7, 255, 511, 7, 1031, 3079, 7175, 7, 16391, 49159, 130055, 261127, 524287, 1048575] (.step 0 (.step 1 (.step 2 (.step 3 (.step 4 (.step 5 (.step 7 (.step 10 (.step 11 (.step 12 (.step 14 (.step 15 (.step 16 (.step 6 (.step 8 (.step 9 (.step 13 (.step 17 (.step 18 (.step 19 (.step 20 .done))))))))))))))))))))))] Tryz.func156 (by kernel_rfl) (by kernel_rfl) h
theorem qE {b0 o0 : Nat} {cH : Int} {cI : Int} {cJ : Int} {fj : Int} (h :
bh M (cl [(iV cH), (iV cI), (iV cJ), (iV fj)] 27) fun k1 M2 =>
K (.tuple #[]) M2) :
 aa Tryz.prog 225 #[.pointer (some ⟨b0, o0, none⟩), .agg #[.int .i64 cH, .int .i64 cI, .int .i64 cJ, .int .i64 fj]] M K Kp := vw [] Tryz.func225 h
theorem kW {b0 o0 : Nat} {cH : Int} {cI : Int} {cJ : Int} {fj : Int} (h :
bh M (cl [(iV cH), (iV cI), (iV cJ), (iV fj)] 27) fun k1 M2 =>
rI M2 k1 1 fun n3 =>
rI M2 k1 2 fun n4 =>
(0 ≤ n3) ∧
(n3 < 8) ∧
sT M2 b0 ((o0 + 2) + (Int.toNat n3)) (iV n4) fun M5 =>
K (.tuple #[]) M5) :
 aa Tryz.prog 226 #[.pointer (some ⟨b0, o0, none⟩), .agg #[.int .i64 cH, .int .i64 cI, .int .i64 cJ, .int .i64 fj]] M K Kp := vw [(1, .bN [0, 0, 2, 0, 8, 1, 33, 127, 255] (sy [0, 1, 3, 5, 6, 2, 4, 7, 8] .done))] Tryz.func226 h
theorem pN {b0 o0 : Nat} {cH : Int} {cI : Int} {cJ : Int} {fj : Int} (h :
bh M (cl [(iV cH), (iV cI), (iV cJ), (iV fj)] 27) fun k1 M2 =>
rI M2 k1 1 fun n3 =>
rI M2 k1 2 fun n4 =>
(0 ≤ n4) ∧
(n4 < 8) ∧
rI M2 b0 ((o0 + 2) + (Int.toNat n4)) fun n5 =>
(0 ≤ n3) ∧
(n3 < 8) ∧
sT M2 b0 ((o0 + 2) + (Int.toNat n3)) (iV n5) fun M6 =>
K (.tuple #[]) M6) :
 aa Tryz.prog 227 #[.pointer (some ⟨b0, o0, none⟩), .agg #[.int .i64 cH, .int .i64 cI, .int .i64 cJ, .int .i64 fj]] M K Kp := vw [(1, .bN [0, 0, 2, 0, 0, 16, 8, 72, 248, 504, 1, 1025, 4095, 8191] (sy [0, 1, 3, 4, 6, 7, 10, 11, 2, 5, 8, 9, 12, 13] .done))] Tryz.func227 h
theorem qF {b0 o0 : Nat} {cH : Int} {cI : Int} {cJ : Int} {fj : Int} (h :
bh M (cl [(iV cH), (iV cI), (iV cJ), (iV fj)] 27) fun k1 M2 =>
rI M2 k1 1 fun n3 =>
rI M2 k1 2 fun n4 =>
(0 ≤ n4) ∧
(n4 < 8) ∧
rI M2 b0 ((o0 + 2) + (Int.toNat n4)) fun n5 =>
rI M2 k1 3 fun n6 =>
(0 ≤ n6) ∧
(n6 < 8) ∧
rI M2 b0 ((o0 + 2) + (Int.toNat n6)) fun n7 =>
(0 ≤ n3) ∧
(n3 < 8) ∧
sT M2 b0 ((o0 + 2) + (Int.toNat n3)) (iV (IntKind.wrap .i64 (n5 + n7))) fun M8 =>
K (.tuple #[]) M8) :
 aa Tryz.prog 228 #[.pointer (some ⟨b0, o0, none⟩), .agg #[.int .i64 cH, .int .i64 cI, .int .i64 cJ, .int .i64 fj]] M K Kp := vw [(1, .bN [0, 0, 2, 0, 0, 16, 8, 72, 248, 504, 0, 0, 2048, 1024, 9216, 31744, 64512, 131064, 1, 262145, 1048575, 2097151] (sy [0, 1, 3, 4, 6, 7, 10, 11, 13, 14, 18, 19, 2, 5, 8, 9, 12, 15, 16, 17, 20, 21] .done))] Tryz.func228 h
theorem qG {b0 o0 : Nat} {cH : Int} {cI : Int} {cJ : Int} {fj : Int} (h :
bh M (cl [(iV cH), (iV cI), (iV cJ), (iV fj)] 27) fun k1 M2 =>
rI M2 k1 1 fun n3 =>
rI M2 k1 2 fun n4 =>
(0 ≤ n4) ∧
(n4 < 8) ∧
rI M2 b0 ((o0 + 2) + (Int.toNat n4)) fun n5 =>
rI M2 k1 3 fun n6 =>
(0 ≤ n6) ∧
(n6 < 8) ∧
rI M2 b0 ((o0 + 2) + (Int.toNat n6)) fun n7 =>
(0 ≤ n3) ∧
(n3 < 8) ∧
sT M2 b0 ((o0 + 2) + (Int.toNat n3)) (iV (IntKind.wrap .i64 (n5 - n7))) fun M8 =>
K (.tuple #[]) M8) :
 aa Tryz.prog 229 #[.pointer (some ⟨b0, o0, none⟩), .agg #[.int .i64 cH, .int .i64 cI, .int .i64 cJ, .int .i64 fj]] M K Kp := vw [(1, .bN [0, 0, 2, 0, 0, 16, 8, 72, 248, 504, 0, 0, 2048, 1024, 9216, 31744, 64512, 131064, 1, 262145, 1048575, 2097151] (sy [0, 1, 3, 4, 6, 7, 10, 11, 13, 14, 18, 19, 2, 5, 8, 9, 12, 15, 16, 17, 20, 21] .done))] Tryz.func229 h
theorem qH {b0 o0 : Nat} {cH : Int} {cI : Int} {cJ : Int} {fj : Int} (h :
bh M (cl [(iV cH), (iV cI), (iV cJ), (iV fj)] 27) fun k1 M2 =>
rI M2 k1 1 fun n3 =>
rI M2 k1 2 fun n4 =>
(0 ≤ n4) ∧
(n4 < 8) ∧
rI M2 b0 ((o0 + 2) + (Int.toNat n4)) fun n5 =>
rI M2 k1 3 fun n6 =>
(0 ≤ n6) ∧
(n6 < 8) ∧
rI M2 b0 ((o0 + 2) + (Int.toNat n6)) fun n7 =>
(0 ≤ n3) ∧
(n3 < 8) ∧
sT M2 b0 ((o0 + 2) + (Int.toNat n3)) (iV (IntKind.wrap .i64 (n5 * n7))) fun M8 =>
K (.tuple #[]) M8) :
 aa Tryz.prog 230 #[.pointer (some ⟨b0, o0, none⟩), .agg #[.int .i64 cH, .int .i64 cI, .int .i64 cJ, .int .i64 fj]] M K Kp := vw [(1, .bN [0, 0, 2, 0, 0, 16, 8, 72, 248, 504, 0, 0, 2048, 1024, 9216, 31744, 64512, 131064, 1, 262145, 1048575, 2097151] (sy [0, 1, 3, 4, 6, 7, 10, 11, 13, 14, 18, 19, 2, 5, 8, 9, 12, 15, 16, 17, 20, 21] .done))] Tryz.func230 h
theorem pO {b0 o0 : Nat} {cH : Int} {cI : Int} {cJ : Int} {fj : Int} (h :
bh M (cl [(iV cH), (iV cI), (iV cJ), (iV fj)] 27) fun k1 M2 =>
rI M2 k1 2 fun n3 =>
(0 ≤ n3) ∧
(n3 < 8) ∧
rI M2 b0 ((o0 + 2) + (Int.toNat n3)) fun n4 =>
rI M2 k1 3 fun n5 =>
(0 ≤ n5) ∧
(n5 < 8) ∧
rI M2 b0 ((o0 + 2) + (Int.toNat n5)) fun n6 =>
rI M2 k1 1 fun n7 =>
(0 ≤ n7) ∧
(n7 < 8) ∧
sT M2 b0 ((o0 + 2) + (Int.toNat n7)) (iV 0) fun M8 =>
aO (decide (n4 < n6))
 (rI M8 k1 1 fun n9 =>
 (0 ≤ n9) ∧
 (n9 < 8) ∧
 sT M8 b0 ((o0 + 2) + (Int.toNat n9)) (iV 1) fun jL =>
 K (.tuple #[]) jL)
 (K (.tuple #[]) M8)) :
 aa Tryz.prog 231 #[.pointer (some ⟨b0, o0, none⟩), .agg #[.int .i64 cH, .int .i64 cI, .int .i64 cJ, .int .i64 fj]] M K Kp := vw [(1, .bN [0, 0, 2, 1, 9, 31, 63, 0, 0, 256, 128, 1152, 3968, 8064, 16383, 32767] (sy [0, 1, 3, 4, 7, 8, 10, 11, 2, 5, 6, 9, 12, 13, 14, 15] .done)), (2, .bN [0, 0, 2, 1, 9, 31, 63] (sy [0, 1, 3, 4, 2, 5, 6] .done)), (4, .bN [0, 0, 2, 1, 9, 31, 63] (sy [0, 1, 3, 4, 2, 5, 6] .done))] Tryz.func231 h
theorem pP {b0 o0 : Nat} {cH : Int} {cI : Int} {cJ : Int} {fj : Int} (h :
bh M (cl [(iV cH), (iV cI), (iV cJ), (iV fj)] 27) fun k1 M2 =>
rI M2 k1 1 fun n3 =>
sT M2 b0 (o0 + 1) (iV n3) fun M4 =>
K (.tuple #[]) M4) :
 aa Tryz.prog 232 #[.pointer (some ⟨b0, o0, none⟩), .agg #[.int .i64 cH, .int .i64 cI, .int .i64 cJ, .int .i64 fj]] M K Kp := vw [] Tryz.func232 h
theorem mS {b0 o0 : Nat} {cH : Int} {cI : Int} {cJ : Int} {fj : Int} (h :
bh M (cl [(iV cH), (iV cI), (iV cJ), (iV fj)] 27) fun k1 M2 =>
rI M2 k1 1 fun n3 =>
(0 ≤ n3) ∧
(n3 < 8) ∧
rI M2 b0 ((o0 + 2) + (Int.toNat n3)) fun n4 =>
aO (n4 != 0)
 (rI M2 k1 2 fun n5 =>
 sT M2 b0 (o0 + 1) (iV n5) fun M6 =>
 K (.tuple #[]) M6)
 (K (.tuple #[]) M2)) :
 aa Tryz.prog 233 #[.pointer (some ⟨b0, o0, none⟩), .agg #[.int .i64 cH, .int .i64 cI, .int .i64 cJ, .int .i64 fj]] M K Kp := vw [(1, .bN [0, 0, 2, 1, 9, 31, 63, 127] (sy [0, 1, 3, 4, 2, 5, 6, 7] .done))] Tryz.func233 h
theorem kX {b0 o0 : Nat} {cH : Int} {cI : Int} {cJ : Int} {x2 : Int} (h :
bh M (cl [(iV cH), (iV cI), (iV cJ)] 280) fun k1 M2 =>
rS M2 b0 (o0 + 4) fun A3 k4 k5 =>
rI M2 k1 0 fun n6 =>
(0 ≤ n6) ∧
(n6 < k4) ∧
aD A3 fun k7 k8 =>
rP M2 k7 (k8 + (Int.toNat n6)) fun A9 =>
aD A9 fun eJ en =>
rS M2 eJ (en + 1) fun xN dH iL =>
rS M2 b0 (o0 + 4) fun vE gi eK =>
rI M2 k1 0 fun mO =>
(0 ≤ mO) ∧
(mO < gi) ∧
aD vE fun iI iZ =>
rP M2 iI (iZ + (Int.toNat mO)) fun yd =>
aD yd fun hG jB =>
jy M2 hG (jB + 2) fun AY tS sw yg =>
(True) ∧
aa Tryz.prog 189 #[(.slice xN dH iL)] M2 (fun Pq ni =>
b8 (some Pq) fun Ta =>
((Mem.gp ni ⟨hG, (jB + 2), none⟩ 0 4) = some [(iV AY), (iV tS), (iV sw), (iV yg)]) ∧
((Mem.ld ni ⟨iI, (iZ + (Int.toNat mO)), none⟩) = (some (.pointer yd))) ∧
eI ni k1 0 mO ∧
((Mem.ld ni ⟨b0, (o0 + 4), none⟩) = (some (.slice vE gi eK))) ∧
aD Ta fun nH nI =>
bh ni tN fun z0 rC =>
DA rC z0 (iV AY) (iV tS) (iV sw) (iV yg) fun lG =>
((Mem.gp lG ⟨hG, (jB + 2), none⟩ 0 4) = some [(iV AY), (iV tS), (iV sw), (iV yg)]) ∧
((Mem.ld lG ⟨iI, (iZ + (Int.toNat mO)), none⟩) = (some (.pointer yd))) ∧
eI lG k1 0 mO ∧
((Mem.ld lG ⟨b0, (o0 + 4), none⟩) = (some (.slice vE gi eK))) ∧
rI lG z0 0 fun HI =>
aO (HI == 16)
 (rS lG b0 (o0 + 3) fun A40 LM Pd =>
 rI lG z0 1 fun DE =>
 rI lG k1 1 fun Gy =>
 ((0 : Int) ≤ (IntKind.wrap .i64 (DE + Gy))) ∧
 (((IntKind.wrap .i64 (DE + Gy)) : Int) < (LM : Int)) ∧
 aD A40 fun LN LO =>
 rI lG LN ((LO + ((Int.toNat (IntKind.wrap .i64 (DE + Gy))) * 3)) + 2) fun AV =>
 rI lG k1 2 fun HK =>
 (0 ≤ AV) ∧
 (AV < 8) ∧
 sT lG nH ((nI + 2) + (Int.toNat AV)) (iV HK) fun ve =>
 rII ve k1 0 fun Pw Jb =>
 aa Tryz.prog 251 #[(.pointer (some ⟨b0, o0, none⟩)), (iV Pw), (iV Jb)] ve (fun WM Gz =>
 (WM = (.tuple #[])) ∧
 rI Gz k1 0 fun Tr =>
 aa Tryz.prog 158 #[(.pointer (some ⟨b0, o0, none⟩)), (iV Tr)] Gz (fun S7 Pj =>
 (S7 = (.tuple #[])) ∧
 K (.tuple #[]) Pj) Kp) Kp)
 (rI lG z0 2 fun Ts =>
 rI lG k1 2 fun LQ =>
 (0 ≤ Ts) ∧
 (Ts < 8) ∧
 rI lG z0 3 fun IW =>
 sT lG nH ((nI + 2) + (Int.toNat Ts)) (iV LQ) fun BP =>
 eI BP z0 3 IW ∧
 (0 ≤ IW) ∧
 (IW < 8) ∧
 sT BP nH ((nI + 2) + (Int.toNat IW)) (iV x2) fun DF =>
 eI DF z0 3 IW ∧
 rI DF k1 0 fun yY =>
 aa Tryz.prog 158 #[(.pointer (some ⟨b0, o0, none⟩)), (iV yY)] DF (fun v63 WN =>
 (v63 = (.tuple #[])) ∧
 K (.tuple #[]) WN) Kp)) Kp) :
 aa Tryz.prog 238 #[.pointer (some ⟨b0, o0, none⟩), .agg #[.int .i64 cH, .int .i64 cI, .int .i64 cJ], .int .i64 x2] M K Kp := vw [(1, .bN [0, 1, 3, 7, 0, 16, 63, 127, 255, 511, 1023, 0, 2048, 6144, 14336, 0, 32768, 129024, 260096, 522240, 1046528, 2095104, 4192256, 8386560, 16775168, 0, 41943039, 134217727] (sy [0, 1, 2, 4, 11, 12, 13, 15, 14, 16, 17, 18, 19, 20, 21] (.fT 3 (.fT 5 (sy [6] (.fT 7 (sy [8, 9] (.fT 10 (.late 22 (sy [23, 24, 25, 26, 27] .done)))))))))), (3, .bN [0, 0, 2, 6, 14, 30, 0, 64, 0, 256, 960, 2046, 4094, 8190, 0, 16384, 1, 131071, 262143] (sy [0, 1, 2, 3, 4, 6, 8, 14, 16, 5, 7, 9, 10, 11, 12, 13, 15, 17, 18] .done)), (5, .bN [0, 0, 2, 0, 0, 16, 0, 64, 0, 1, 711, 1735, 8, 8191, 16383] (sy [0, 1, 3, 4, 6, 8, 9, 12, 2, 7, 10] (.fT 5 (sy [11, 13, 14] .done))))] Tryz.func238 h
theorem pQ {b0 o0 : Nat} {cH : Int} {cI : Int} {cJ : Int} (h :
bh M (cl [(iV cH), (iV cI), (iV cJ)] 280) fun k1 M2 =>
rS M2 b0 (o0 + 4) fun A3 k4 k5 =>
rI M2 k1 0 fun n6 =>
(0 ≤ n6) ∧
(n6 < k4) ∧
aD A3 fun k7 k8 =>
rP M2 k7 (k8 + (Int.toNat n6)) fun A9 =>
aD A9 fun eJ en =>
rI M2 eJ (en + 2) fun iw =>
aO (iw == 16)
 (rI M2 k1 0 fun jN =>
 rI M2 k1 1 fun mK =>
 aa Tryz.prog 251 #[(.pointer (some ⟨b0, o0, none⟩)), (iV jN), (iV mK)] M2 (fun DN eZ =>
 (DN = (.tuple #[])) ∧
 rI eZ k1 0 fun kC =>
 aa Tryz.prog 158 #[(.pointer (some ⟨b0, o0, none⟩)), (iV kC)] eZ (fun DD ku =>
 (DD = (.tuple #[])) ∧
 K (.tuple #[]) ku) Kp) Kp)
 (rI M2 k1 0 fun iu =>
 aa Tryz.prog 158 #[(.pointer (some ⟨b0, o0, none⟩)), (iV iu)] M2 (fun WO mE =>
 (WO = (.tuple #[])) ∧
 K (.tuple #[]) mE) Kp)) :
 aa Tryz.prog 240 #[.pointer (some ⟨b0, o0, none⟩), .agg #[.int .i64 cH, .int .i64 cI, .int .i64 cJ]] M K Kp := vw [(1, .bN [0, 1, 3, 7, 0, 16, 63, 127, 255, 511, 1023, 2047, 4095] (sy [0, 1, 2, 4, 3, 5, 6, 7, 8, 9, 10, 11, 12] .done))] Tryz.func240 h
theorem pR {B0 : Option Addr} {m0 c0 : Nat} {x1 : Int} {x2 : Int} {x3 : Int} (h :
aO (decide ((m0 : Int) ≥ 16))
 (K (.tuple #[(.slice B0 m0 c0), (.bool false)]) M)
 (((0 : Int) ≤ m0) ∧
 ((m0 : Int) ≤ c0) ∧
 ((0 : Int) ≤ m0) ∧
 ((m0 : Int) ≤ m0) ∧
 ((0 : Int) ≤ 0) ∧
 ((0 : Int) ≤ m0) ∧
 bh M (cl [(iV x1), (iV 0), (iV x2), (iV 0), (iV 0), (iV 0), (iV 0), (iV 0), (iV 0), (iV 0), (iV x3)] 275) fun k1 M2 =>
 aW Tryz.prog (Go.Builtin.append_ #[226, 226] 226 #[(.slice (lF B0 0 (Int.toNat (m0 : Int)) 11) ((Int.toNat (m0 : Int)) - 0) ((Int.toNat (m0 : Int)) - 0)), (.slice (some ⟨k1, 0, none⟩) 1 1)]) M2 (fun v3 M4 =>
 az (some v3) fun A5 k6 k7 =>
 K (.tuple #[(.slice A5 k6 k7), (.bool true)]) M4) Kp)) :
 aa Tryz.prog 241 #[.slice B0 m0 c0, .int .i64 x1, .int .i64 x2, .int .i64 x3] M K Kp := vw [] Tryz.func241 h
theorem mT {B0 : Option Addr} {m0 c0 : Nat} {x1 : Int} (h :
aO (decide ((m0 : Int) < 2))
 (K (.tuple #[(.slice none 0 0), (.bool false)]) M)
 (bh M (cl [] 275) fun k1 M2 =>
 ((0 : Int) ≤ c0) ∧
 ((c0 : Int) ≤ c0) ∧
 ((0 : Int) ≤ (IntKind.wrap .i64 ((m0 : Int) - 1))) ∧
 (((IntKind.wrap .i64 ((m0 : Int) - 1)) : Int) ≤ (c0 : Int)) ∧
 ((0 : Int) ≤ 0) ∧
 ((0 : Int) ≤ (IntKind.wrap .i64 ((m0 : Int) - 1))) ∧
 aW Tryz.prog (Go.Builtin.append_ #[226, 226] 226 #[(.slice (some ⟨k1, 0, none⟩) 0 0), (.slice (lF B0 0 (Int.toNat (c0 : Int)) 11) ((Int.toNat (IntKind.wrap .i64 ((m0 : Int) - 1))) - 0) ((Int.toNat (c0 : Int)) - 0))]) M2 (fun v3 M4 =>
 az (some v3) fun A5 k6 k7 =>
 aa Tryz.prog 189 #[(.slice A5 k6 k7)] M4 (fun v8 M9 =>
 b8 (some v8) fun C3 =>
 aD C3 fun en gh =>
 aa Tryz.prog 189 #[(.slice B0 m0 c0)] M9 (fun HH nh =>
 b8 (some HH) fun vE =>
 aD vE fun gi eK =>
 rI nh gi (eK + 10) fun mO =>
 (0 ≤ mO) ∧
 (mO < 8) ∧
 sT nh en ((gh + 2) + (Int.toNat mO)) (iV x1) fun ku =>
 K (.tuple #[(.slice A5 k6 k7), (.bool true)]) ku) Kp) Kp) Kp)) :
 aa Tryz.prog 242 #[.slice B0 m0 c0, .int .i64 x1] M K Kp := vw [(4, .bN [0, 1, 0, 7, 15, 31, 63, 0, 3, 259, 1023, 2047] (sy [0, 2, 7, 1, 8, 9, 3, 4, 5, 6, 10, 11] .done))] Tryz.func242 h
theorem sC {b0 o0 : Nat} {x1 : Int} {x2 : Int} (h :
az (Mem.ld M ⟨b0, o0, none⟩) fun A1 k2 k3 =>
aG (Mem.ld M ⟨b0, (o0 + 1), none⟩) .u64 fun n4 =>
bh M (.cells #[(.int .u64 x1), (.int .u64 n4), (.int .i64 x2)] 203 (0, 0)) fun k5 M6 =>
aW Tryz.prog (Go.Builtin.append_ #[46, 46] 46 #[(.slice A1 k2 k3), (.slice (some ⟨k5, 0, none⟩) 1 1)]) M6 (fun v7 M8 =>
az (some v7) fun A9 eJ en =>
aF M8 ⟨b0, o0, none⟩ (.slice A9 eJ en) fun ry =>
aG (Mem.ld ry ⟨b0, (o0 + 1), none⟩) .u64 fun jN =>
aF ry ⟨b0, (o0 + 1), none⟩ (.int .u64 (IntKind.wrap .u64 (jN + 1))) fun nh =>
az (Mem.ld nh ⟨b0, o0, none⟩) fun vE gi eK =>
aa Tryz.prog 156 #[(.pointer (some ⟨b0, o0, none⟩)), (.int .i64 (IntKind.wrap .i64 (((gi : Nat) : Int) - 1)))] nh (fun DD ku =>
(DD = (.tuple #[])) ∧
aG (Mem.ld ku ⟨b0, (o0 + 1), none⟩) .u64 fun iu =>
K (.int .u64 (IntKind.wrap .u64 (iu - 1))) ku) Kp) Kp) :
 aa Tryz.prog 244 ([.pointer (some ⟨b0, o0, none⟩), .int .u64 x1, .int .i64 x2] : List Value).toArray M K Kp :=
 bR (C := Cx) good [(1, .bN [0, 0, 2, 6, 14, 0, 0, 64, 192, 448, 0, 2016, 4064, 8190, 16383, 32767, 65535] (.step 0 (.step 1 (.step 2 (.step 3 (.step 5 (.step 6 (.step 7 (.step 8 (.step 10 (.step 4 (.step 9 (.step 11 (.step 12 (.step 13 (.step 14 (.step 15 (.step 16 .done))))))))))))))))))] Tryz.func244 (by kernel_rfl) (by kernel_rfl) h
theorem qI {b0 o0 : Nat} {x1 : Int} (h :
rI M b0 o0 fun n1 =>
aO (n1 != (-1))
 (rS M b0 (o0 + 1) fun A2 k3 k4 =>
 bh M (cl [(iV x1)] 3) fun k5 M6 =>
 aA 36 A2 k3 k4 (some ⟨k5, 0, none⟩) 1 1 M6 (fun v7 M8 =>
 az (some v7) fun A9 eJ en =>
 sT M8 b0 (o0 + 1) (.slice A9 eJ en) fun ry =>
 K (.bool false) ry) Kp)
 (sT M b0 o0 (iV x1) fun kz =>
 K (.bool true) kz)) :
 aa Tryz.prog 245 #[.pointer (some ⟨b0, o0, none⟩), .int .i64 x1] M K Kp := vw [] Tryz.func245 h
theorem qJ {b0 o0 : Nat} {x1 : Int} (h :
rI M b0 o0 fun n1 =>
aO (n1 == (-1))
 (K (.tuple #[(iV (-1)), (iV 5)]) M)
 (rI M b0 o0 fun n2 =>
 aO (n2 != x1)
 (K (.tuple #[(iV (-1)), (iV 5)]) M)
 (sT M b0 o0 (iV (-1)) fun M3 =>
 rS M3 b0 (o0 + 1) fun A4 k5 k6 =>
 aO (decide ((k5 : Int) > 0))
 (rS M3 b0 (o0 + 1) fun A7 k8 k9 =>
 ((0 : Int) ≤ 0) ∧
 ((0 : Int) < k8) ∧
 aD A7 fun eJ en =>
 rI M3 eJ (en + 0) fun iw =>
 sT M3 b0 o0 (iV iw) fun kz =>
 bh kz (cl [] 3) fun iL vg =>
 rS vg b0 (o0 + 1) fun RU eK gq =>
 ((0 : Int) ≤ gq) ∧
 ((gq : Int) ≤ gq) ∧
 ((0 : Int) ≤ eK) ∧
 ((eK : Int) ≤ gq) ∧
 ((0 : Int) ≤ 1) ∧
 ((1 : Int) ≤ eK) ∧
 aW Tryz.prog (Go.Builtin.append_ #[36, 36] 36 #[(.slice (some ⟨iL, 0, none⟩) 0 0), (.slice (lF RU 1 (Int.toNat (gq : Int)) 1) ((Int.toNat (eK : Int)) - 1) ((Int.toNat (gq : Int)) - 1))]) vg (fun Md r8 =>
 az (some Md) fun yd hG jB =>
 sT r8 b0 (o0 + 1) (.slice yd hG jB) fun jj =>
 rI jj b0 o0 fun tS =>
 K (.tuple #[(iV tS), (iV 0)]) jj) Kp)
 (rI M3 b0 o0 fun sw =>
 K (.tuple #[(iV sw), (iV 0)]) M3)))) :
 aa Tryz.prog 246 #[.pointer (some ⟨b0, o0, none⟩), .int .i64 x1] M K Kp := vw [] Tryz.func246 h
theorem qK {b0 o0 : Nat} {x1 : Int} (h :
∃ I1 : Nat → List Value → Mem → Prop, (∃ k2 : Nat, I1 k2 [(.int .i64 x1), (.int .i64 (IntKind.wrap .i64 ((IntKind.wrap .i64 (4 * x1)) + 1)))] M) ∧
∀ k3 : Nat, ∀ Oc : Nat → Value, ∀ n5 : Int, ∀ n6 : Int, ∀ M7 : Mem, (I1 k3 [(.int .i64 n5), (.int .i64 n6)] M7) → aO (decide ((n6 : Int) ≤ (IntKind.wrap .i64 ((IntKind.wrap .i64 (4 * x1)) + 4))))
 (az (Mem.ld M7 ⟨b0, o0, none⟩) fun A8 k9 eJ =>
 aO (decide ((n6 : Int) < ((k9 : Nat) : Int)))
  (az (Mem.ld M7 ⟨b0, o0, none⟩) fun Jd gh dH =>
  ((0 : Int) ≤ n6) ∧
  ((n6 : Int) < ((gh : Nat) : Int)) ∧
  aD Jd fun iL gI =>
  aG (Mem.ld M7 ⟨iL, (gI + ((Int.toNat n6) * 3)), none⟩) .u64 fun oV =>
  aG (Mem.ld M7 ⟨iL, ((gI + ((Int.toNat n6) * 3)) + 1), none⟩) .u64 fun kC =>
  aG (Mem.ld M7 ⟨iL, ((gI + ((Int.toNat n6) * 3)) + 2), none⟩) .i64 fun mO =>
  az (Mem.ld M7 ⟨b0, o0, none⟩) fun AX iZ fe =>
  ((0 : Int) ≤ n5) ∧
  ((n5 : Int) < ((iZ : Nat) : Int)) ∧
  aD AX fun hG jB =>
  aG (Mem.ld M7 ⟨hG, (jB + ((Int.toNat n5) * 3)), none⟩) .u64 fun AY =>
  aG (Mem.ld M7 ⟨hG, ((jB + ((Int.toNat n5) * 3)) + 1), none⟩) .u64 fun tS =>
  aG (Mem.ld M7 ⟨hG, ((jB + ((Int.toNat n5) * 3)) + 2), none⟩) .i64 fun sw =>
  aa Tryz.prog 187 #[(.agg #[(.int .u64 oV), (.int .u64 kC), (.int .i64 mO)]), (.agg #[(.int .u64 AY), (.int .u64 tS), (.int .i64 sw)])] M7 (fun I2 AU =>
  cV (some I2) fun t29 =>
  aO t29
   (∃ lH : Nat, (lH < k3) ∧
   I1 lH [(.int .i64 n6), (.int .i64 (IntKind.wrap .i64 (n6 + 1)))] AU)
   (∃ nH : Nat, (nH < k3) ∧
   I1 nH [(.int .i64 n5), (.int .i64 (IntKind.wrap .i64 (n6 + 1)))] AU)) Kp)
  (K (.int .i64 n5) M7))
 (K (.int .i64 n5) M7)) :
 aa Tryz.prog 186 ([.pointer (some ⟨b0, o0, none⟩), .int .i64 x1] : List Value).toArray M K Kp :=
 bR (C := Cx) good [(2000000, .loop [(5, .c (.int .i64)), (6, .c (.int .i64))]), (5, .bN [0, 1, 3, 7, 0, 31, 63, 0, 128, 384, 896, 0, 3968, 8064, 16383] (.step 0 (.step 1 (.step 2 (.step 4 (.step 7 (.step 8 (.step 9 (.step 11 (.step 3 (.step 5 (.step 6 (.step 10 (.step 12 (.step 13 (.step 14 .done))))))))))))))))] Tryz.func186 (by kernel_rfl) (by kernel_rfl) h
theorem wM {BS : Int} {BT : Int} {sq : Int} {cH : Int} {cI : Int} {cJ : Int} (h :
bh M (cl [(.int .u64 BS), (.int .u64 BT), (iV sq)] 203) fun k1 M2 =>
bh M2 (cl [(.int .u64 cH), (.int .u64 cI), (iV cJ)] 203) fun k3 M4 =>
rU M4 k1 0 fun n5 =>
rU M4 k3 0 fun n6 =>
aO (decide (n5 < n6))
 (K (.bool true) M4)
 (rU M4 k1 0 fun n7 =>
 rU M4 k3 0 fun n8 =>
 aO (n7 == n8)
 (rU M4 k1 1 fun n9 =>
 rU M4 k3 1 fun kB =>
 K (.bool (decide (n9 < kB))) M4)
 (K (.bool false) M4))) :
 aa Tryz.prog 187 #[.agg #[.int .u64 BS, .int .u64 BT, .int .i64 sq], .agg #[.int .u64 cH, .int .u64 cI, .int .i64 cJ]] M K Kp := vw [] Tryz.func187 h
theorem mU {b0 o0 : Nat} {x1 : Int} {x2 : Int} (h :
rS M b0 (o0 + 4) fun A1 k2 k3 =>
((0 : Int) ≤ x1) ∧
((x1 : Int) < k2) ∧
aD A1 fun k4 k5 =>
rP M k4 (k5 + (Int.toNat x1)) fun A6 =>
aD A6 fun k7 k8 =>
jy M k7 (k8 + 2) fun n9 kB gQ iw =>
bh M tN fun dH nh =>
DA nh dH (iV n9) (iV kB) (iV gQ) (iV iw) fun qx =>
rS qx b0 (o0 + 4) fun AX iZ fe =>
((0 : Int) ≤ x1) ∧
((x1 : Int) < iZ) ∧
aD AX fun hG jB =>
rP qx hG (jB + (Int.toNat x1)) fun LW =>
aD LW fun vb r9 =>
rS qx vb (r9 + 1) fun Pu tT uJ =>
rI qx dH 3 fun Ad =>
aa Tryz.prog 189 #[(.slice Pu tT uJ)] qx (fun Pg oW =>
b8 (some Pg) fun IX =>
eI oW dH 3 Ad ∧
aD IX fun yS yT =>
(0 ≤ Ad) ∧
(Ad < 8) ∧
sT oW yS ((yT + 2) + (Int.toNat Ad)) (iV x2) fun N6 =>
eI N6 dH 3 Ad ∧
rS N6 b0 (o0 + 6) fun Mg hU Af =>
aa Tryz.prog 252 #[(iV x1), (.slice Mg hU Af)] N6 (fun Ma BY =>
(Ma = (.tuple #[])) ∧
K (.tuple #[]) BY) Kp) Kp) :
 aa Tryz.prog 251 #[.pointer (some ⟨b0, o0, none⟩), .int .i64 x1, .int .i64 x2] M K Kp := vw [(1, .bN [0, 1, 3, 7, 0, 31, 63, 127, 255, 511, 1023, 0, 2048, 0, 2047, 18431, 65535, 131071] (sy [0, 1, 2, 4, 11, 13, 3, 5, 6, 7, 8, 9] (.fT 12 (sy [10, 14, 15, 16, 17] .done))))] Tryz.func251 h
end Go.Proofs
namespace Go.Proofs
open Go.AF
set_option maxRecDepth 100000
theorem Ah {Je : Option Addr} {Jf Jg : Nat} {Jh : Option Addr} {Ji Jj : Nat} {sq : Int} {Jk : Option Addr} {Jl Jm : Nat} {M : Mem} {K : Value → Mem → Prop} {Kp : List PanicEntry → Mem → Prop} (h :
bh M (cl [(.slice Je Jf Jg), (.slice Jh Ji Jj), (iV sq), (.slice Jk Jl Jm)] 39) fun k1 M2 =>
II M2 k1 0 fun A3 k4 k5 A6 k7 k8 n9 C3 en gh =>
aa Tryz.prog 112 #[(iV 0), (iV 0)] M2 (fun HH nh =>
az (some HH) fun vE gi eK =>
((Mem.gp nh ⟨k1, 0, none⟩ 0 4) = some [(.slice A3 k4 k5), (.slice A6 k7 k8), (iV n9), (.slice C3 en gh)]) ∧
bh nh (cl [(iV 1), (.slice vE gi eK), (iV 0), (iV 0), (iV 0), (iV 0)] 229) fun gq ku =>
bh ku (cl [(.pointer (some ⟨gq, 0, none⟩))] 224) fun iZ uI =>
bh uI (cl [(.slice A3 k4 k5), (.slice A6 k7 k8), (iV n9), (.slice C3 en gh), (.slice (some ⟨iZ, 0, none⟩) 1 1), (.int .u64 0), (.slice none 0 0), (.slice none 0 0), (.slice none 0 0), (.int .u64 0), (.slice none 0 0), (iV 0), (iV 0), (.slice none 0 0), .nilFunc] 161) fun hG mF =>
rS mF k1 1 fun LW vb r9 =>
∃ WQ : IT, (∃ tT, WQ tT [(iV 0)] mF) ∧
∀ (uJ : Nat) (_ : Nat → Value) (vF : Int) (oW : Mem), (WQ uJ [(iV vF)] oW) → aO (decide (vF < vb))
 ((0 ≤ vF) ∧
 (vF < vb) ∧
 aD LW fun z0 yS =>
 rI oW z0 (yS + (Int.toNat vF)) fun Fa =>
 ∃ WR : List Value → Mem → Prop, ((rS oW hG 6 fun Mg hU Af =>
 aa Tryz.prog 113 #[(iV Fa)] oW (fun Ma BY =>
 b8 (some Ma) fun RQ =>
 bh BY (cl [(.pointer RQ)] 230) fun yU Ag =>
 aA 156 Mg hU Af (some ⟨yU, 0, none⟩) 1 1 Ag (fun WS Mh =>
 az (some WS) fun A47 Vc Pv =>
 sT Mh hG 6 (.slice A47 Vc Pv) fun xM =>
 WR [] xM) Kp) Kp) ∧
 (aa Tryz.prog 113 #[(iV Fa)] oW (fun WK Tm =>
 b8 (some WK) fun A53 =>
 rS Tm hG 6 fun La DR Lb =>
 bh Tm (cl [(.pointer A53)] 230) fun yZ Py =>
 aA 156 La DR Lb (some ⟨yZ, 0, none⟩) 1 1 Py (fun v59 BP =>
 az (some v59) fun Tt Tu Og =>
 sT BP hG 6 (.slice Tt Tu Og) fun WN =>
 WR [] WN) Kp) Kp) ∧
 True) ∧
 ∀ WT : Nat → Value, ∀ Mb : Mem, (WR [] Mb) → ∃ jQ : Nat, (jQ < uJ) ∧
 WQ jQ [(iV (IntKind.wrap .i64 (vF + 1)))] Mb)
 (rI oW k1 2 fun Mc =>
 ∃ WU : IT, (∃ Jn, WU Jn [(iV 0)] oW) ∧
 ∀ (Lc : Nat) (_ : Nat → Value) (Pk : Int) (BZ : Mem), (WU Lc [(iV Pk)] BZ) → aO (decide (Pk < Mc))
 (∃ WW : List Value → Mem → Prop, ((rS BZ hG 7 fun WX WY Mi =>
 aa Tryz.prog 114 #[] BZ (fun v79 Ai =>
 b8 (some v79) fun Pz =>
 bh Ai (cl [(.pointer Pz)] 232) fun Ld GB =>
 aA 157 WX WY Mi (some ⟨Ld, 0, none⟩) 1 1 GB (fun v84 M85 =>
 az (some v84) fun A86 k87 PB =>
 sT M85 hG 7 (.slice A86 k87 PB) fun DS =>
 WW [] DS) Kp) Kp) ∧
 (aa Tryz.prog 114 #[] BZ (fun Jo oX =>
 b8 (some Jo) fun PC =>
 rS oX hG 7 fun A93 PD k95 =>
 bh oX (cl [(.pointer PC)] 232) fun WZ Jp =>
 aA 157 A93 PD k95 (some ⟨WZ, 0, none⟩) 1 1 Jp (fun W0 RW =>
 az (some W0) fun PE W1 Mj =>
 sT RW hG 7 (.slice PE W1 Mj) fun PF =>
 WW [] PF) Kp) Kp) ∧
 True) ∧
 ∀ Vg : Nat → Value, ∀ GC : Mem, (WW [] GC) → ∃ sD : Nat, (sD < Lc) ∧
 WU sD [(iV (IntKind.wrap .i64 (Pk + 1)))] GC)
 (K (.pointer (some ⟨hG, 0, none⟩)) BZ))) Kp) :
 aa Tryz.prog 56 #[.agg #[.slice Je Jf Jg, .slice Jh Ji Jj, .int .i64 sq, .slice Jk Jl Jm]] M K Kp := vw [(1, .bN [0, 0, 2, 6, 14, 31, 63, 127] (.fT 0 (sy [1, 2, 3, 4, 5, 6, 7] .done))), (2000000, .loop [(16, .c (.int .i64))]), (5, .Ga [0, 0, 2, 6, 14, 0, 32, 96, 254, 511, 1023, 2047] (sy [0, 1, 2, 3, 5] (.fork 4 (sy [6, 7, 8, 9, 10, 11] .done) (.fork 6 (sy [4, 7, 8, 9, 10, 11] .done) .dead))) []), (2000002, .loop [(34, .c (.int .i64))]), (9, .Ga [0, 0, 2, 6, 14, 0, 32, 126, 255, 511, 1023] (sy [0, 1, 2, 3] (.fork 4 (sy [5, 6, 7, 8, 9, 10] .done) (.fork 5 (sy [4, 6, 7, 8, 9, 10] .done) .dead))) [])] Tryz.func56 h
theorem iQ {b0 o0 : Nat} {x1 : Int} {u2 : Value} {M : Mem} {K : Value → Mem → Prop} {Kp : List PanicEntry → Mem → Prop} (h :
bh M (.cells #[(.bool false), (.slice none 0 0)] 250 (0, 0)) fun k1 M2 =>
aO (decide ((x1 : Int) < 0))
 (aF M2 ⟨k1, 0, none⟩ (.bool false) fun M3 =>
 aF M3 ⟨k1, (0 + 1), none⟩ (.slice none 0 0) fun M4 =>
 cV (Mem.ld M4 ⟨k1, 0, none⟩) fun t5 =>
 az (Mem.ld M4 ⟨k1, (0 + 1), none⟩) fun A6 k7 k8 =>
 K (.agg #[(.bool t5), (.slice A6 k7 k8)]) M4)
 (az (Mem.ld M2 ⟨b0, (o0 + 4), none⟩) fun A9 eJ en =>
 aO (decide ((x1 : Int) ≥ ((eJ : Nat) : Int)))
  (aF M2 ⟨k1, 0, none⟩ (.bool false) fun ry =>
  aF ry ⟨k1, (0 + 1), none⟩ (.slice none 0 0) fun kz =>
  cV (Mem.ld kz ⟨k1, 0, none⟩) fun t14 =>
  az (Mem.ld kz ⟨k1, (0 + 1), none⟩) fun vE gi eK =>
  K (.agg #[(.bool t14), (.slice vE gi eK)]) kz)
  (aG (Mem.ld M2 ⟨b0, (o0 + 11), none⟩) .i64 fun mO =>
  aO (mO != 0)
   (aF M2 ⟨k1, 0, none⟩ (.bool false) fun ku =>
   aF ku ⟨k1, (0 + 1), none⟩ (.slice none 0 0) fun r8 =>
   cV (Mem.ld r8 ⟨k1, 0, none⟩) fun t21 =>
   az (Mem.ld r8 ⟨k1, (0 + 1), none⟩) fun WI jB r6 =>
   K (.agg #[(.bool t21), (.slice WI jB r6)]) r8)
   (az (Mem.ld M2 ⟨b0, (o0 + 4), none⟩) fun LR r9 zX =>
   ((0 : Int) ≤ x1) ∧
   ((x1 : Int) < ((r9 : Nat) : Int)) ∧
   aD LR fun tT uJ =>
   b8 (Mem.ld M2 ⟨tT, (uJ + (Int.toNat x1)), none⟩) fun Ta =>
   aD Ta fun nH nI =>
   aG (Mem.ld M2 ⟨nH, nI, none⟩) .i64 fun E6 =>
   aO (E6 != 1)
    (aF M2 ⟨k1, 0, none⟩ (.bool false) fun rC =>
    aF rC ⟨k1, (0 + 1), none⟩ (.slice none 0 0) fun yh =>
    cV (Mem.ld yh ⟨k1, 0, none⟩) fun t36 =>
    az (Mem.ld yh ⟨k1, (0 + 1), none⟩) fun Mg hU Af =>
    K (.agg #[(.bool t36), (.slice Mg hU Af)]) yh)
    (aF M2 ⟨b0, (o0 + 13), none⟩ (.slice none 0 0) fun Px =>
    yw u2 <|
    aF Px ⟨b0, (o0 + 14), none⟩ u2 fun BY =>
    aa Tryz.prog 159 #[(.pointer (some ⟨b0, o0, none⟩)), (.int .i64 x1)] BY (fun v42 xO =>
    cV (some v42) fun t44 =>
    aO (!t44)
     (aG (Mem.ld xO ⟨b0, (o0 + 11), none⟩) .i64 fun Gx =>
     aO (Gx == 0)
      (az (Mem.ld xO ⟨b0, (o0 + 4), none⟩) fun A46 S6 Vc =>
      ((0 : Int) ≤ x1) ∧
      ((x1 : Int) < ((S6 : Nat) : Int)) ∧
      aD A46 fun Pv Ph =>
      b8 (Mem.ld xO ⟨Pv, (Ph + (Int.toNat x1)), none⟩) fun Pe =>
      aD Pe fun tp r7 =>
      aG (Mem.ld xO ⟨tp, r7, none⟩) .i64 fun Tr =>
      az (Mem.ld xO ⟨b0, (o0 + 13), none⟩) fun A55 Lb yZ =>
      aF xO ⟨k1, 0, none⟩ (.bool (Tr == 1)) fun Py =>
      aF Py ⟨k1, (0 + 1), none⟩ (.slice A55 Lb yZ) fun tv =>
      cV (Mem.ld tv ⟨k1, 0, none⟩) fun t60 =>
      az (Mem.ld tv ⟨k1, (0 + 1), none⟩) fun Tt Tu Og =>
      K (.agg #[(.bool t60), (.slice Tt Tu Og)]) tv)
      (az (Mem.ld xO ⟨b0, (o0 + 13), none⟩) fun A64 Vh Jq =>
      aF xO ⟨k1, 0, none⟩ (.bool false) fun M67 =>
      aF M67 ⟨k1, (0 + 1), none⟩ (.slice A64 Vh Jq) fun PG =>
      cV (Mem.ld PG ⟨k1, 0, none⟩) fun t69 =>
      az (Mem.ld PG ⟨k1, (0 + 1), none⟩) fun A70 Lc W2 =>
      K (.agg #[(.bool t69), (.slice A70 Lc W2)]) PG))
     (az (Mem.ld xO ⟨b0, (o0 + 13), none⟩) fun A73 W3 W4 =>
     aF xO ⟨k1, 0, none⟩ (.bool false) fun RT =>
     aF RT ⟨k1, (0 + 1), none⟩ (.slice A73 W3 W4) fun Tv =>
     cV (Mem.ld Tv ⟨k1, 0, none⟩) fun t78 =>
     az (Mem.ld Tv ⟨k1, (0 + 1), none⟩) fun PI Mk rD =>
     K (.agg #[(.bool t78), (.slice PI Mk rD)]) Tv)) Kp))))) :
 aa Tryz.prog 121 ([.pointer (some ⟨b0, o0, none⟩), .int .i64 x1, u2] : List Value).toArray M K Kp :=
 bR (C := Cx) good [(5, .bN [0, 1, 3, 7, 15, 31, 63, 127, 255, 511, 1023, 2047, 4095, 8191, 1023, 32767, 65535, 131071, 262143, 524287, 1048575, 2097151, 0, 4194304, 12582912, 29360128, 67108863, 134217727] (.step 0 (.step 1 (.step 2 (.step 3 (.step 4 (.step 5 (.step 22 (.step 23 (.step 24 (.step 6 (.step 7 (.step 8 (.step 9 (.step 10 (.step 11 (.step 12 (.step 14 (.step 13 (.step 15 (.step 16 (.step 17 (.step 18 (.step 19 (.step 20 (.step 21 (.step 25 (.step 26 (.step 27 .done)))))))))))))))))))))))))))))] Tryz.func121 (by kernel_rfl) (by kernel_rfl) h
theorem nV {b0 o0 : Nat} {M : Mem} {K : Value → Mem → Prop} {Kp : List PanicEntry → Mem → Prop} (h :
aG (Mem.ld M ⟨b0, (o0 + 11), none⟩) .i64 fun n1 =>
aO (n1 != 0)
 (K (.bool false) M)
 (az (Mem.ld M ⟨b0, (o0 + 4), none⟩) fun A2 k3 k4 =>
 ∃ I5 : Nat → List Value → Mem → Prop, (∃ k6 : Nat, I5 k6 [(.int .i64 0)] M) ∧
 ∀ k7 : Nat, ∀ junk8 : Nat → Value, ∀ n9 : Int, ∀ jL : Mem, (I5 k7 [(.int .i64 n9)] jL) → aO (decide ((n9 : Int) < ((k3 : Nat) : Int)))
  (((0 : Int) ≤ n9) ∧
  ((n9 : Int) < ((k3 : Nat) : Int)) ∧
  aD A2 fun en gh =>
  b8 (Mem.ld jL ⟨en, (gh + (Int.toNat n9)), none⟩) fun K7 =>
  aD K7 fun iL gI =>
  aG (Mem.ld jL ⟨iL, gI, none⟩) .i64 fun oV =>
  aO (oV == 1)
   (K (.bool false) jL)
   (aD K7 fun eK gq =>
   aG (Mem.ld jL ⟨eK, gq, none⟩) .i64 fun zY =>
   aO (zY == 3)
    (K (.bool false) jL)
    (∃ iZ : Nat, (iZ < k7) ∧
    I5 iZ [(.int .i64 (IntKind.wrap .i64 (n9 + 1)))] jL)))
  (K (.bool true) jL))) :
 aa Tryz.prog 65 ([.pointer (some ⟨b0, o0, none⟩)] : List Value).toArray M K Kp :=
 bR (C := Cx) good [(2000000, .loop [(15, .c (.int .i64))])] Tryz.func65 (by kernel_rfl) (by kernel_rfl) h
variable {M : Mem} {K : Value → Mem → Prop} {Kp : List PanicEntry → Mem → Prop}
theorem tU {B0 : Option Addr} {m0 c0 : Nat} (h :
bh M (cl [] 32) fun k1 M2 =>
aA 31 (some ⟨k1, 0, none⟩) 0 0 B0 m0 c0 M2 (fun v3 M4 =>
az (some v3) fun A5 k6 k7 =>
bh M4 (cl [(.slice A5 k6 k7), (iV 0)] 147) fun k8 M9 =>
bh M9 (.cells #[(.func (.func 59) #[(.pointer (some ⟨k8, 0, none⟩))] #[]), (.func (.func 60) #[(.pointer (some ⟨k8, 0, none⟩))] #[]), (.slice none 0 0), .nilFunc] 152 (0, 0)) fun eJ jZ =>
K (.pointer (some ⟨eJ, 0, none⟩)) jZ) Kp) :
 aa Tryz.prog 16 #[.slice B0 m0 c0] M K Kp := vw [] Tryz.func16 h
theorem mV {b0 o0 : Nat} {x1 : Int} {x2 : Int} (h :
aG (Mem.ld M ⟨b0, (o0 + 1), none⟩) .i64 fun n1 =>
az (Mem.ld M ⟨b0, o0, none⟩) fun A2 k3 k4 =>
aO (decide ((n1 : Int) ≥ ((k3 : Nat) : Int)))
 (Kp [{ v := (.iface 240 (.agg #[])), recovered := false }] M)
 (aG (Mem.ld M ⟨b0, (o0 + 1), none⟩) .i64 fun n5 =>
 aF M ⟨b0, (o0 + 1), none⟩ (.int .i64 (IntKind.wrap .i64 (n5 + 1))) fun M6 =>
 az (Mem.ld M6 ⟨b0, o0, none⟩) fun A7 k8 k9 =>
 aG (Mem.ld M6 ⟨b0, (o0 + 1), none⟩) .i64 fun kB =>
 ((0 : Int) ≤ (IntKind.wrap .i64 (kB - 1))) ∧
 (((IntKind.wrap .i64 (kB - 1)) : Int) < ((k8 : Nat) : Int)) ∧
 aD A7 fun en gh =>
 aG (Mem.ld M6 ⟨en, (gh + (Int.toNat (IntKind.wrap .i64 (kB - 1)))), none⟩) .u64 fun jN =>
 (((IntKind.wrap .u64 x2) : Int) ≠ 0) ∧
 K (.int .u64 (Int.tmod jN (IntKind.wrap .u64 x2))) M6)) :
 aa Tryz.prog 59 ([.pointer (some ⟨b0, o0, none⟩), .int .i64 x1, .int .i64 x2] : List Value).toArray M K Kp :=
 bR (C := Cx) good [(1, .bN [0, 1, 3, 7, 0, 16, 48, 112, 240, 511] (.step 0 (.step 1 (.step 2 (.step 4 (.step 5 (.step 6 (.step 3 (.step 7 (.step 8 (.step 9 .done))))))))))), (4, .bN [0, 1, 3, 7, 0, 16, 48, 112, 240, 511, 1023, 0, 2048, 8191, 16383] (.step 0 (.step 1 (.step 2 (.step 4 (.step 5 (.step 6 (.step 11 (.step 12 (.step 3 (.step 7 (.step 8 (.step 9 (.step 10 (.step 13 (.step 14 .done))))))))))))))))] Tryz.func59 (by kernel_rfl) (by kernel_rfl) h
theorem vk {u0 : Value} (h :
bh M qo fun k1 M2 =>
bh M2 yQ fun k3 M4 =>
bh M4 qo fun k5 M6 =>
sT M6 k3 0 (iV 0) fun M7 =>
Wm M7 k5 (iV 0) (iV 0) (iV 0) (iV 0) (.int .u64 0) fun ry =>
aa Tryz.prog 116 #[u0, (.pointer (some ⟨k3, 0, none⟩)), (.pointer (some ⟨k5, 0, none⟩))] ry (fun HH nh =>
(HH = (.tuple #[])) ∧
rI nh k3 0 fun jM =>
IJ nh k5 0 fun oV kC mO zY iu =>
Wm nh k1 (iV oV) (iV kC) (iV mO) (iV zY) (.int .u64 iu) fun E7 =>
IJ E7 k1 0 fun sw yg sg yW Ad =>
K (.tuple #[(iV jM), (.agg #[(iV sw), (iV yg), (iV sg), (iV yW), (.int .u64 Ad)])]) E7) Kp) :
 aa Tryz.prog 61 #[u0] M K Kp := vw [(3, .bN [0, 0, 1, 7] (sy [0, 2, 1, 3] .done))] Tryz.func61 h
theorem pS {b0 o0 : Nat} {x1 : Int} {x2 : Int} (h :
aG (Mem.ld M ⟨b0, (o0 + 1), none⟩) .i64 fun n1 =>
az (Mem.ld M ⟨b0, o0, none⟩) fun A2 k3 k4 =>
aO (decide ((n1 : Int) ≥ ((k3 : Nat) : Int)))
 (Kp [{ v := (.iface 240 (.agg #[])), recovered := false }] M)
 (az (Mem.ld M ⟨b0, o0, none⟩) fun A5 k6 k7 =>
 aG (Mem.ld M ⟨b0, (o0 + 1), none⟩) .i64 fun n8 =>
 ((0 : Int) ≤ n8) ∧
 ((n8 : Int) < ((k6 : Nat) : Int)) ∧
 aD A5 fun k9 eJ =>
 aG (Mem.ld M ⟨k9, (eJ + ((Int.toNat n8) * 2)), none⟩) .i64 fun gQ =>
 aG (Mem.ld M ⟨k9, ((eJ + ((Int.toNat n8) * 2)) + 1), none⟩) .u64 fun iw =>
 bh M (.cells #[(.int .i64 0), (.int .u64 0)] 95 (0, 0)) fun dH nh =>
 aF nh ⟨dH, 0, none⟩ (.int .i64 gQ) fun vg =>
 aF vg ⟨dH, (0 + 1), none⟩ (.int .u64 iw) fun eZ =>
 aG (Mem.ld eZ ⟨dH, 0, none⟩) .i64 fun kC =>
 aO (kC != x1)
  (aG (Mem.ld eZ ⟨b0, (o0 + 1), none⟩) .i64 fun mO =>
  aG (Mem.ld eZ ⟨dH, 0, none⟩) .i64 fun zY =>
  aG (Mem.ld eZ ⟨dH, (0 + 1), none⟩) .u64 fun iu =>
  Kp [{ v := (.iface 97 (.agg #[(.int .i64 mO), (.int .i64 x1), (.int .i64 x2), (.int .i64 zY), (.int .u64 iu)])), recovered := false }] eZ)
  (aG (Mem.ld eZ ⟨dH, (0 + 1), none⟩) .u64 fun rz =>
  aO (decide ((rz : Int) ≥ (IntKind.wrap .u64 x2)))
   (aG (Mem.ld eZ ⟨b0, (o0 + 1), none⟩) .i64 fun va =>
   aG (Mem.ld eZ ⟨dH, 0, none⟩) .i64 fun zZ =>
   aG (Mem.ld eZ ⟨dH, (0 + 1), none⟩) .u64 fun AY =>
   Kp [{ v := (.iface 97 (.agg #[(.int .i64 va), (.int .i64 x1), (.int .i64 x2), (.int .i64 zZ), (.int .u64 AY)])), recovered := false }] eZ)
   (aG (Mem.ld eZ ⟨b0, (o0 + 1), none⟩) .i64 fun tS =>
   aF eZ ⟨b0, (o0 + 1), none⟩ (.int .i64 (IntKind.wrap .i64 (tS + 1))) fun uN =>
   aG (Mem.ld uN ⟨dH, (0 + 1), none⟩) .u64 fun yg =>
   K (.int .u64 yg) uN)))) :
 aa Tryz.prog 198 ([.pointer (some ⟨b0, o0, none⟩), .int .i64 x1, .int .i64 x2] : List Value).toArray M K Kp :=
 bR (C := Cx) good [(1, .bN [0, 1, 3, 7, 0, 16, 48, 112, 240, 511] (.step 0 (.step 1 (.step 2 (.step 4 (.step 5 (.step 6 (.step 3 (.step 7 (.step 8 (.step 9 .done))))))))))), (3, .bN [0, 1, 3, 7, 0, 16, 48, 112, 255, 511, 0, 2047] (.step 0 (.step 1 (.step 2 (.step 4 (.step 5 (.step 6 (.step 3 (.step 7 (.step 8 (.step 9 (.step 10 (.step 11 .done))))))))))))), (5, .bN [0, 1, 3, 7, 0, 0, 0, 127, 255, 511] (.step 0 (.step 1 (.step 2 (.step 4 (.step 5 (.step 3 (.step 6 (.step 7 (.step 8 (.step 9 .done)))))))))))] Tryz.func198 (by kernel_rfl) (by kernel_rfl) h
theorem mW {b0 o0 : Nat} {x1 : Int} {x2 : Int} (h :
e7 (Mem.ld M ⟨b0, o0, none⟩) fun v1 =>
gK Cx v1 [(iV x1), (iV (if (1 : Int) > x2 then 1 else x2))] M (fun v2 M3 =>
aG (some v2) .u64 fun n4 =>
bh M3 LI fun k5 M6 =>
Wl M6 k5 (iV x1) (.int .u64 n4) fun M8 =>
rS M8 b0 (o0 + 2) fun A9 eJ en =>
rIU M8 k5 0 fun iw jN =>
bh M8 (cl [(iV iw), (.int .u64 jN)] 95) fun iL vg =>
aA 149 A9 eJ en (some ⟨iL, 0, none⟩) 1 1 vg (fun LY pz =>
az (some LY) fun Fb iI iZ =>
sT pz b0 (o0 + 2) (.slice Fb iI iZ) fun uI =>
e7 (Mem.ld uI ⟨b0, (o0 + 3), none⟩) fun Gs =>
ER Gs fun t23 =>
aO (!t23)
 (e7 (Mem.ld uI ⟨b0, (o0 + 3), none⟩) fun To =>
 rIU uI k5 0 fun tS sw =>
 gK Cx To [(.agg #[(iV tS), (.int .u64 sw)])] uI (fun I2 AU =>
 (I2 = (.tuple #[])) ∧
 rU AU k5 1 fun yW =>
 K (iV (IntKind.wrap .i64 yW)) AU) Kp)
 (rU uI k5 1 fun Ad =>
 K (iV (IntKind.wrap .i64 Ad)) uI)) Kp) Kp) :
 aa Tryz.prog 107 #[.pointer (some ⟨b0, o0, none⟩), .int .i64 x1, .int .i64 x2] M K Kp := vw [(2, .bN [0, 0, 2, 6, 14, 0, 32, 126, 255, 511, 1023] (sy [0, 1, 2, 3, 4, 5, 6, 7, 8, 9, 10] .done)), (4, .bN [0, 1, 3, 7, 0, 31] (sy [0, 1, 2, 3, 4, 5] .done))] Tryz.func107 h
end Go.Proofs
namespace Go.Proofs
open Go.AF
set_option maxRecDepth 100000
variable {M : Mem} {K : Value → Mem → Prop} {Kp : List PanicEntry → Mem → Prop}
theorem Aj {x0 : Int} (h :
aa Tryz.prog 115 #[(iV x0)] M (fun v1 M2 =>
b8 (some v1) fun A3 =>
bh M2 (cl [(iV (-1)), (.pointer A3)] 237) fun k4 M5 =>
K (.pointer (some ⟨k4, 0, none⟩)) M5) Kp) :
 aa Tryz.prog 57 #[.int .i64 x0] M K Kp := vw [] Tryz.func57 h
theorem pT {b0 o0 : Nat} {B1 : Option Addr} {m1 c1 : Nat} (h :
az (Mem.ld M ⟨b0, o0, none⟩) fun A1 k2 k3 =>
aW Tryz.prog (Go.Builtin.append_ #[36, 36] 36 #[(.slice A1 k2 k3), (.slice B1 m1 c1)]) M (fun v4 M5 =>
az (some v4) fun A6 k7 k8 =>
aF M5 ⟨b0, o0, none⟩ (.slice A6 k7 k8) fun M9 =>
K (.tuple #[]) M9) Kp) :
 aa Tryz.prog 58 ([.pointer (some ⟨b0, o0, none⟩), .slice B1 m1 c1] : List Value).toArray M K Kp :=
 bR (C := Cx) good [] Tryz.func58 (by kernel_rfl) (by kernel_rfl) h
theorem pU {b0 o0 : Nat} (h :
rI M b0 o0 fun n1 =>
K (iV n1) M) :
 aa Tryz.prog 148 #[.pointer (some ⟨b0, o0, none⟩)] M K Kp := vw [] Tryz.func148 h
theorem nW {b0 o0 : Nat} (h :
bh M (.cells #[] 3 (0, 0)) fun k1 M2 =>
az (Mem.ld M2 ⟨b0, o0, none⟩) fun A3 k4 k5 =>
aW Tryz.prog (Go.Builtin.append_ #[36, 36] 36 #[(.slice (some ⟨k1, 0, none⟩) 0 0), (.slice A3 k4 k5)]) M2 (fun v6 M7 =>
az (some v6) fun A8 k9 eJ =>
K (.slice A8 k9 eJ) M7) Kp) :
 aa Tryz.prog 64 ([.pointer (some ⟨b0, o0, none⟩)] : List Value).toArray M K Kp :=
 bR (C := Cx) good [] Tryz.func64 (by kernel_rfl) (by kernel_rfl) h
theorem B4 {x0 : Int} (h :
aW Tryz.prog (Go.Instr.makeSlice 36 (iV (if (1024 : Int) < (if (1 : Int) > x0 then 1 else x0) then 1024 else (if (1 : Int) > x0 then 1 else x0))) (iV (if (1024 : Int) < (if (1 : Int) > x0 then 1 else x0) then 1024 else (if (1 : Int) > x0 then 1 else x0)))) M (fun v1 M2 =>
az (some v1) fun A3 k4 k5 =>
bh M2 (cl [(.slice A3 k4 k5), (iV 0), (iV 0)] 309) fun k6 M7 =>
K (.pointer (some ⟨k6, 0, none⟩)) M7) Kp) :
 aa Tryz.prog 115 #[.int .i64 x0] M K Kp := vw [] Tryz.func115 h
theorem qL {b0 o0 : Nat} (h :
rI M b0 o0 fun n1 =>
aO (n1 != (-1))
 (sT M b0 o0 (iV (-1)) fun M2 =>
 K (.tuple #[(iV n1), (.bool true)]) M2)
 (rP M b0 (o0 + 1) fun A3 =>
 aa Tryz.prog 177 #[(.pointer A3)] M (fun v4 M5 =>
 ∃ n6 : Int, ∃ t7 : Bool, (v4 = (.tuple #[(iV n6), (.bool t7)])) ∧
 aO (!t7)
 (K (.tuple #[(iV (-1)), (.bool false)]) M5)
 (K (.tuple #[(iV n6), (.bool true)]) M5)) Kp)) :
 aa Tryz.prog 149 #[.pointer (some ⟨b0, o0, none⟩)] M K Kp := vw [] Tryz.func149 h
theorem iA {b0 o0 : Nat} {b1 o1 : Nat} (h :
Go.AF.ptrEq M (some ⟨b0, o0, none⟩) (some ⟨b1, o1, none⟩) fun t1 =>
aO t1
 (K (.tuple #[(iV (-1)), (.bool false)]) M)
 (rP M b1 (o1 + 1) fun A2 =>
 aa Tryz.prog 181 #[(.pointer A2)] M (fun v3 M4 =>
 aG (some v3) .i64 fun n5 =>
 aO (n5 == 0)
 (rI M4 b1 o1 fun n6 =>
 sT M4 b1 o1 (iV (-1)) fun M7 =>
 K (.tuple #[(iV n6), (.bool (n6 != (-1)))]) M7)
 (((2 : Int) ≠ 0) ∧
 rP M4 b0 (o0 + 1) fun A8 =>
 rP M4 b1 (o1 + 1) fun A9 =>
 rP M4 b0 (o0 + 1) fun C3 =>
 aa Tryz.prog 183 #[(.pointer A8)] M4 (fun v11 ry =>
 aG (some v11) .i64 fun jN =>
 ((Mem.ld ry ⟨b0, (o0 + 1), none⟩) = (some (.pointer C3))) ∧
 ((Mem.ld ry ⟨b1, (o1 + 1), none⟩) = (some (.pointer A9))) ∧
 aa Tryz.prog 181 #[(.pointer C3)] ry (fun WL vg =>
 aG (some WL) .i64 fun oV =>
 ((Mem.ld vg ⟨b0, (o0 + 1), none⟩) = (some (.pointer C3))) ∧
 ((Mem.ld vg ⟨b1, (o1 + 1), none⟩) = (some (.pointer A9))) ∧
 aa Tryz.prog 182 #[(.pointer A9), (iV (if ((IntKind.wrap .i64 ((IntKind.wrap .i64 (jN - oV)) + 1)) : Int) < (IntKind.wrap .i64 (n5 - (IntKind.wrap .i64 (Int.tdiv n5 2)))) then (IntKind.wrap .i64 ((IntKind.wrap .i64 (jN - oV)) + 1)) else (IntKind.wrap .i64 (n5 - (IntKind.wrap .i64 (Int.tdiv n5 2))))))] vg (fun Tq qx =>
 az (some Tq) fun AX iZ fe =>
 ((Mem.ld qx ⟨b0, (o0 + 1), none⟩) = (some (.pointer C3))) ∧
 ((Mem.ld qx ⟨b1, (o1 + 1), none⟩) = (some (.pointer A9))) ∧
 ((0 : Int) ≤ fe) ∧
 ((fe : Int) ≤ fe) ∧
 ((0 : Int) ≤ iZ) ∧
 ((iZ : Int) ≤ fe) ∧
 ((0 : Int) ≤ 1) ∧
 ((1 : Int) ≤ iZ) ∧
 ∃ W5 : IT, (∃ jB, W5 jB [(iV 0)] qx) ∧
 ∀ (r6 : Nat) (_ : Nat → Value) (sw : Int) (tr : Mem), (W5 r6 [(iV sw)] tr) → aO (decide ((sw : Int) < ((((Int.toNat (iZ : Int)) - 1) : Nat) : Int)))
 ((0 ≤ sw) ∧
 ((sw : Int) < ((((Int.toNat (iZ : Int)) - 1) : Nat) : Int)) ∧
 aD (lF AX 1 (Int.toNat (fe : Int)) 1) fun tT uJ =>
 rI tr tT (uJ + (Int.toNat sw)) fun Ad =>
 rP tr b0 (o0 + 1) fun Td =>
 aa Tryz.prog 184 #[(.pointer Td), (iV Ad)] tr (fun v32 BQ =>
 cV (some v32) fun t34 =>
 ∃ yT : Nat, (yT < r6) ∧
 W5 yT [(iV (IntKind.wrap .i64 (sw + 1)))] BQ) Kp)
 (((0 : Int) ≤ 0) ∧
 ((0 : Int) < iZ) ∧
 aD AX fun Gv vH =>
 rI tr Gv (vH + 0) fun Gr =>
 K (.tuple #[(iV Gr), (.bool true)]) tr)) Kp) Kp) Kp)) Kp)) :
 aa Tryz.prog 151 #[.pointer (some ⟨b0, o0, none⟩), .pointer (some ⟨b1, o1, none⟩)] M K Kp := vw [(8, .bN [0, 1, 3, 7, 0, 0, 32, 112, 0, 256, 768, 1792, 3840, 0, 8192, 24576, 57344, 130816, 261888, 524032, 1048560, 2097151, 4194303] (sy [0, 1, 2, 4, 5, 6, 7, 8, 9, 10, 13, 14, 15, 11] (.fT 3 (.fT 16 (sy [12, 17, 18, 19, 20, 21, 22] .done))))), (2000000, .loop [(56, .c (.int .i64))])] Tryz.func151 h
theorem nX {b0 o0 : Nat} {x1 : Int} {b2 o2 : Nat} (h :
rI M b0 o0 fun n1 =>
sT M b0 o0 (iV x1) fun M2 =>
aO (n1 == (-1))
 (K (iV 0) M2)
 (aa Tryz.prog 185 #[(.pointer (some ⟨b0, o0, none⟩)), (iV n1), (.pointer (some ⟨b2, o2, none⟩))] M2 (fun v3 M4 =>
 aG (some v3) .i64 fun n5 =>
 K (iV n5) M4) Kp)) :
 aa Tryz.prog 152 #[.pointer (some ⟨b0, o0, none⟩), .int .i64 x1, .pointer (some ⟨b2, o2, none⟩)] M K Kp := vw [] Tryz.func152 h
theorem tV {b0 o0 : Nat} (h :
rI M b0 (o0 + 2) fun n1 =>
aO (n1 == 0)
 (K (.tuple #[(iV 0), (.bool false)]) M)
 (rS M b0 o0 fun A2 k3 k4 =>
 rI M b0 (o0 + 1) fun n5 =>
 (0 ≤ n5) ∧
 (n5 < k3) ∧
 aD A2 fun k6 k7 =>
 rI M k6 (k7 + (Int.toNat n5)) fun n8 =>
 rI M b0 (o0 + 1) fun n9 =>
 rS M b0 o0 fun C3 en gh =>
 ((en : Int) ≠ 0) ∧
 sT M b0 (o0 + 1) (iV (Int.tmod (IntKind.wrap .i64 (n9 + 1)) (en : Int))) fun kz =>
 rI kz b0 (o0 + 2) fun mK =>
 sT kz b0 (o0 + 2) (iV (IntKind.wrap .i64 (mK - 1))) fun vg =>
 K (.tuple #[(iV n8), (.bool true)]) vg)) :
 aa Tryz.prog 177 #[.pointer (some ⟨b0, o0, none⟩)] M K Kp := vw [(3, .bN [0, 1, 3, 7, 0, 16, 48, 112, 255, 511, 1023] (sy [0, 1, 2, 4, 5, 6, 3, 7, 8, 9, 10] .done)), (4, .bN [0, 0, 2, 6, 14, 30, 0, 64, 192, 448, 960, 2046, 4095, 8191, 16383] (sy [0, 1, 2, 3, 6, 7, 8, 4, 5, 9, 10, 11, 12, 13, 14] .done))] Tryz.func177 h
theorem pV {b0 o0 : Nat} {b1 o1 : Nat} (h :
rI M b0 o0 fun n1 =>
aO (n1 == (-1))
 (K (iV 0) M)
 (sT M b0 o0 (iV (-1)) fun M2 =>
 aa Tryz.prog 185 #[(.pointer (some ⟨b0, o0, none⟩)), (iV n1), (.pointer (some ⟨b1, o1, none⟩))] M2 (fun v3 M4 =>
 aG (some v3) .i64 fun n5 =>
 K (iV n5) M4) Kp)) :
 aa Tryz.prog 178 #[.pointer (some ⟨b0, o0, none⟩), .pointer (some ⟨b1, o1, none⟩)] M K Kp := vw [] Tryz.func178 h
theorem nY {b0 o0 : Nat} {x1 : Int} (h :
az (Mem.ld M ⟨b0, o0, none⟩) fun A1 k2 k3 =>
bh M (.cells #[] 3 (0, 0)) fun k4 M5 =>
az (Mem.ld M5 ⟨b0, o0, none⟩) fun A6 k7 k8 =>
((0 : Int) ≤ ((k8 : Nat) : Int)) ∧
((((k8 : Nat) : Int) : Int) ≤ ((k8 : Nat) : Int)) ∧
((0 : Int) ≤ (if (((k2 : Nat) : Int) : Int) < (if (0 : Int) > x1 then 0 else x1) then ((k2 : Nat) : Int) else (if (0 : Int) > x1 then 0 else x1))) ∧
(((if (((k2 : Nat) : Int) : Int) < (if (0 : Int) > x1 then 0 else x1) then ((k2 : Nat) : Int) else (if (0 : Int) > x1 then 0 else x1)) : Int) ≤ ((k8 : Nat) : Int)) ∧
((0 : Int) ≤ 0) ∧
((0 : Int) ≤ (if (((k2 : Nat) : Int) : Int) < (if (0 : Int) > x1 then 0 else x1) then ((k2 : Nat) : Int) else (if (0 : Int) > x1 then 0 else x1))) ∧
aW Tryz.prog (Go.Builtin.append_ #[36, 36] 36 #[(.slice (some ⟨k4, 0, none⟩) 0 0), (.slice (lF A6 0 (Int.toNat ((k8 : Nat) : Int)) 1) ((Int.toNat (if (((k2 : Nat) : Int) : Int) < (if (0 : Int) > x1 then 0 else x1) then ((k2 : Nat) : Int) else (if (0 : Int) > x1 then 0 else x1))) - 0) ((Int.toNat ((k8 : Nat) : Int)) - 0))]) M5 (fun v9 jL =>
az (some v9) fun Jd gh dH =>
bh jL (.cells #[] 3 (0, 0)) fun iL vg =>
az (Mem.ld vg ⟨b0, o0, none⟩) fun RU eK gq =>
((0 : Int) ≤ ((gq : Nat) : Int)) ∧
((((gq : Nat) : Int) : Int) ≤ ((gq : Nat) : Int)) ∧
((0 : Int) ≤ ((eK : Nat) : Int)) ∧
((((eK : Nat) : Int) : Int) ≤ ((gq : Nat) : Int)) ∧
((0 : Int) ≤ (if (((k2 : Nat) : Int) : Int) < (if (0 : Int) > x1 then 0 else x1) then ((k2 : Nat) : Int) else (if (0 : Int) > x1 then 0 else x1))) ∧
(((if (((k2 : Nat) : Int) : Int) < (if (0 : Int) > x1 then 0 else x1) then ((k2 : Nat) : Int) else (if (0 : Int) > x1 then 0 else x1)) : Int) ≤ ((eK : Nat) : Int)) ∧
aW Tryz.prog (Go.Builtin.append_ #[36, 36] 36 #[(.slice (some ⟨iL, 0, none⟩) 0 0), (.slice (lF RU (Int.toNat (if (((k2 : Nat) : Int) : Int) < (if (0 : Int) > x1 then 0 else x1) then ((k2 : Nat) : Int) else (if (0 : Int) > x1 then 0 else x1))) (Int.toNat ((gq : Nat) : Int)) 1) ((Int.toNat ((eK : Nat) : Int)) - (Int.toNat (if (((k2 : Nat) : Int) : Int) < (if (0 : Int) > x1 then 0 else x1) then ((k2 : Nat) : Int) else (if (0 : Int) > x1 then 0 else x1)))) ((Int.toNat ((gq : Nat) : Int)) - (Int.toNat (if (((k2 : Nat) : Int) : Int) < (if (0 : Int) > x1 then 0 else x1) then ((k2 : Nat) : Int) else (if (0 : Int) > x1 then 0 else x1)))))]) vg (fun Md r8 =>
az (some Md) fun yd hG jB =>
aF r8 ⟨b0, o0, none⟩ (.slice yd hG jB) fun jj =>
K (.slice Jd gh dH) jj) Kp) Kp) :
 aa Tryz.prog 179 ([.pointer (some ⟨b0, o0, none⟩), .int .i64 x1] : List Value).toArray M K Kp :=
 bR (C := Cx) good [] Tryz.func179 (by kernel_rfl) (by kernel_rfl) h
theorem nZ {b0 o0 : Nat} {b1 o1 : Nat} {x2 : Int} (h :
rP M b0 (o0 + 1) fun A1 =>
rP M b0 (o0 + 1) fun A2 =>
aa Tryz.prog 202 #[(.pointer (some ⟨b1, o1, none⟩))] M (fun v3 M4 =>
aG (some v3) .i64 fun n5 =>
((Mem.ld M4 ⟨b0, (o0 + 1), none⟩) = (some (.pointer A2))) ∧
((Mem.ld M4 ⟨b0, (o0 + 1), none⟩) = (some (.pointer A1))) ∧
(((if (1 : Int) > x2 then 1 else x2) : Int) ≠ 0) ∧
aa Tryz.prog 183 #[(.pointer A1)] M4 (fun v6 M7 =>
aG (some v6) .i64 fun n8 =>
((Mem.ld M7 ⟨b0, (o0 + 1), none⟩) = (some (.pointer A2))) ∧
((Mem.ld M7 ⟨b0, (o0 + 1), none⟩) = (some (.pointer A1))) ∧
aa Tryz.prog 181 #[(.pointer A2)] M7 (fun v9 jL =>
aG (some v9) .i64 fun gQ =>
((Mem.ld jL ⟨b0, (o0 + 1), none⟩) = (some (.pointer A2))) ∧
((Mem.ld jL ⟨b0, (o0 + 1), none⟩) = (some (.pointer A1))) ∧
aO (decide ((x2 : Int) < 1))
 (aa Tryz.prog 179 #[(.pointer (some ⟨b1, o1, none⟩)), (iV 1)] jL (fun HG kz =>
 az (some HG) fun nj gI gi =>
 aO ((gI : Int) == 0)
 (K (.tuple #[(iV (-1)), (.bool false)]) kz)
 (((0 : Int) ≤ gi) ∧
 ((gi : Int) ≤ gi) ∧
 ((0 : Int) ≤ gI) ∧
 ((gI : Int) ≤ gi) ∧
 ((0 : Int) ≤ 1) ∧
 ((1 : Int) ≤ gI) ∧
 ∃ W6 : IT, (∃ gq, W6 gq [(iV 0)] kz) ∧
 ∀ (iI : Nat) (_ : Nat → Value) (rz : Int) (mE : Mem), (W6 iI [(iV rz)] mE) → aO (decide ((rz : Int) < ((((Int.toNat (gI : Int)) - 1) : Nat) : Int)))
 ((0 ≤ rz) ∧
 ((rz : Int) < ((((Int.toNat (gI : Int)) - 1) : Nat) : Int)) ∧
 aD (lF nj 1 (Int.toNat (gi : Int)) 1) fun jB r6 =>
 rI mE jB (r6 + (Int.toNat rz)) fun tS =>
 rP mE b0 (o0 + 1) fun Tw =>
 aa Tryz.prog 184 #[(.pointer Tw), (iV tS)] mE (fun I2 AU =>
 cV (some I2) fun t29 =>
 ∃ lH : Nat, (lH < iI) ∧
 W6 lH [(iV (IntKind.wrap .i64 (rz + 1)))] AU) Kp)
 (((0 : Int) ≤ 0) ∧
 ((0 : Int) < gI) ∧
 aD nj fun nH nI =>
 rI mE nH (nI + 0) fun E6 =>
 K (.tuple #[(iV E6), (.bool true)]) mE))) Kp)
 (aa Tryz.prog 179 #[(.pointer (some ⟨b1, o1, none⟩)), (iV (if ((IntKind.wrap .i64 ((IntKind.wrap .i64 (n8 - gQ)) + 1)) : Int) < (IntKind.wrap .i64 ((IntKind.wrap .i64 (Int.tdiv n5 (if (1 : Int) > x2 then 1 else x2))) + 1)) then (IntKind.wrap .i64 ((IntKind.wrap .i64 (n8 - gQ)) + 1)) else (IntKind.wrap .i64 ((IntKind.wrap .i64 (Int.tdiv n5 (if (1 : Int) > x2 then 1 else x2))) + 1))))] jL (fun v34 yh =>
 az (some v34) fun Oe vH hU =>
 aO ((vH : Int) == 0)
 (K (.tuple #[(iV (-1)), (.bool false)]) yh)
 (((0 : Int) ≤ hU) ∧
 ((hU : Int) ≤ hU) ∧
 ((0 : Int) ≤ vH) ∧
 ((vH : Int) ≤ hU) ∧
 ((0 : Int) ≤ 1) ∧
 ((1 : Int) ≤ vH) ∧
 ∃ W7 : IT, (∃ K9, W7 K9 [(iV 0)] yh) ∧
 ∀ (LM : Nat) (_ : Nat → Value) (DE : Int) (Ag : Mem), (W7 LM [(iV DE)] Ag) → aO (decide ((DE : Int) < ((((Int.toNat (vH : Int)) - 1) : Nat) : Int)))
 ((0 ≤ DE) ∧
 ((DE : Int) < ((((Int.toNat (vH : Int)) - 1) : Nat) : Int)) ∧
 aD (lF Oe 1 (Int.toNat (hU : Int)) 1) fun LN LO =>
 rI Ag LN (LO + (Int.toNat DE)) fun AV =>
 rP Ag b0 (o0 + 1) fun Ml =>
 aa Tryz.prog 184 #[(.pointer Ml), (iV AV)] Ag (fun IU xM =>
 cV (some IU) fun t51 =>
 ∃ tp : Nat, (tp < LM) ∧
 W7 tp [(iV (IntKind.wrap .i64 (DE + 1)))] xM) Kp)
 (((0 : Int) ≤ 0) ∧
 ((0 : Int) < vH) ∧
 aD Oe fun r7 N7 =>
 rI Ag r7 (N7 + 0) fun W8 =>
 K (.tuple #[(iV W8), (.bool true)]) Ag))) Kp)) Kp) Kp) Kp) :
 aa Tryz.prog 180 #[.pointer (some ⟨b0, o0, none⟩), .pointer (some ⟨b1, o1, none⟩), .int .i64 x2] M K Kp := vw [(1, .bN [0, 1, 0, 4, 15, 31, 0, 64, 192, 448, 963, 0, 2048, 6144, 14336, 32707, 65475, 131011, 262143, 524287] (sy [0, 2, 3, 6, 7, 8, 11, 12, 13] (.fT 9 (.fT 14 (sy [1, 4, 5, 10, 15, 16, 17, 18, 19] .done))))), (2000000, .loop [(42, .c (.int .i64))])] Tryz.func180 h
theorem tW {b0 o0 : Nat} (h :
rI M b0 (o0 + 2) fun n1 =>
K (iV n1) M) :
 aa Tryz.prog 181 #[.pointer (some ⟨b0, o0, none⟩)] M K Kp := vw [] Tryz.func181 h
theorem sE {b0 o0 : Nat} {x1 : Int} (h :
∃ I1 : IT, (∃ k2, I1 k2 [(.slice none 0 0)] M) ∧
∀ (k3 : Nat) (_ : Nat → Value) (A5 : Option Addr) (k6 : Nat) (k7 : Nat) (M8 : Mem), (I1 k3 [(.slice A5 k6 k7)] M8) → aO (decide ((k6 : Int) < x1))
 (aa Tryz.prog 177 #[(.pointer (some ⟨b0, o0, none⟩))] M8 (fun v9 jL =>
 ∃ gQ : Int, ∃ t12 : Bool, (v9 = (.tuple #[(iV gQ), (.bool t12)])) ∧
 aO (!t12)
 (K (.slice A5 k6 k7) jL)
 (bh jL (cl [(iV gQ)] 3) fun dH nh =>
 aA 36 A5 k6 k7 (some ⟨dH, 0, none⟩) 1 1 nh (fun DN eZ =>
 az (some DN) fun K8 gq iI =>
 ∃ iZ : Nat, (iZ < k3) ∧
 I1 iZ [(.slice K8 gq iI)] eZ) Kp)) Kp)
 (K (.slice A5 k6 k7) M8)) :
 aa Tryz.prog 182 #[.pointer (some ⟨b0, o0, none⟩), .int .i64 x1] M K Kp := vw [(2000000, .loop [(5, .c .sl)])] Tryz.func182 h
theorem sF {b0 o0 : Nat} (h :
rS M b0 o0 fun A1 k2 k3 =>
K (iV (k2 : Int)) M) :
 aa Tryz.prog 183 #[.pointer (some ⟨b0, o0, none⟩)] M K Kp := vw [] Tryz.func183 h
theorem sG {b0 o0 : Nat} {x1 : Int} (h :
rI M b0 (o0 + 2) fun n1 =>
rS M b0 o0 fun A2 k3 k4 =>
aO (n1 == (k3 : Int))
 (K (.bool false) M)
 (rS M b0 o0 fun A5 k6 k7 =>
 rI M b0 (o0 + 1) fun n8 =>
 rI M b0 (o0 + 2) fun n9 =>
 rS M b0 o0 fun C3 en gh =>
 ((en : Int) ≠ 0) ∧
 ((0 : Int) ≤ (Int.tmod (IntKind.wrap .i64 (n8 + n9)) (en : Int))) ∧
 (((Int.tmod (IntKind.wrap .i64 (n8 + n9)) (en : Int)) : Int) < (k6 : Int)) ∧
 aD A5 fun dH iL =>
 sT M dH (iL + (Int.toNat (Int.tmod (IntKind.wrap .i64 (n8 + n9)) (en : Int)))) (iV x1) fun vg =>
 rI vg b0 (o0 + 2) fun oV =>
 sT vg b0 (o0 + 2) (iV (IntKind.wrap .i64 (oV + 1))) fun pz =>
 K (.bool true) pz)) :
 aa Tryz.prog 184 #[.pointer (some ⟨b0, o0, none⟩), .int .i64 x1] M K Kp := vw [(1, .bN [0, 1, 3, 7, 0, 16, 48, 112, 240, 511] (sy [0, 1, 2, 4, 5, 6, 3, 7, 8, 9] .done)), (3, .bN [0, 1, 3, 7, 0, 16, 48, 112, 0, 256, 768, 1792, 4080, 0, 8192, 24576, 57344, 122880, 262128, 0, 1048575, 2097151] (sy [0, 1, 2, 4, 5, 6, 8, 9, 10, 13, 14, 15, 19, 3, 7, 11, 12, 16, 17, 18, 20, 21] .done))] Tryz.func184 h
theorem qM {b0 o0 : Nat} {x1 : Int} {b2 o2 : Nat} (h :
rP M b0 (o0 + 1) fun A1 =>
aa Tryz.prog 184 #[(.pointer A1), (iV x1)] M (fun v2 M3 =>
cV (some v2) fun t4 =>
aO t4
 (K (iV 0) M3)
 (rP M3 b0 (o0 + 1) fun A5 =>
 rP M3 b0 (o0 + 1) fun A6 =>
 (True) ∧
 aa Tryz.prog 181 #[(.pointer A5)] M3 (fun v7 M8 =>
 aG (some v7) .i64 fun n9 =>
 ((Mem.ld M8 ⟨b0, (o0 + 1), none⟩) = (some (.pointer A6))) ∧
 ((2 : Int) ≠ 0) ∧
 (True) ∧
 aa Tryz.prog 182 #[(.pointer A6), (iV (IntKind.wrap .i64 (Int.tdiv n9 2)))] M8 (fun v10 jZ =>
 az (some v10) fun xN dH iL =>
 ((Mem.ld jZ ⟨b0, (o0 + 1), none⟩) = (some (.pointer A6))) ∧
 bh jZ (cl [(iV x1)] 3) fun gI eZ =>
 aA 36 xN dH iL (some ⟨gI, 0, none⟩) 1 1 eZ (fun Tq qx =>
 az (some Tq) fun AX iZ fe =>
 ((Mem.ld qx ⟨b0, (o0 + 1), none⟩) = (some (.pointer A6))) ∧
 aa Tryz.prog 58 #[(.pointer (some ⟨b2, o2, none⟩)), (.slice AX iZ fe)] qx (fun Gs mF =>
 (Gs = (.tuple #[])) ∧
 K (iV (iZ : Int)) mF) Kp) Kp) Kp) Kp)) Kp) :
 aa Tryz.prog 185 #[.pointer (some ⟨b0, o0, none⟩), .int .i64 x1, .pointer (some ⟨b2, o2, none⟩)] M K Kp := vw [(3, .bN [0, 1, 3, 7, 0, 16, 48, 112, 240, 496, 1023, 0, 2048, 8191, 16383] (sy [0, 1, 2, 4, 5, 6, 11, 7] (.fT 3 (.late 8 (sy [9] (.late 10 (sy [12, 13, 14] .done)))))))] Tryz.func185 h
theorem pW {b0 o0 : Nat} (h :
az (Mem.ld M ⟨b0, o0, none⟩) fun A1 k2 k3 =>
K (.int .i64 ((k2 : Nat) : Int)) M) :
 aa Tryz.prog 202 ([.pointer (some ⟨b0, o0, none⟩)] : List Value).toArray M K Kp :=
 bR (C := Cx) good [] Tryz.func202 (by kernel_rfl) (by kernel_rfl) h
end Go.Proofs
namespace Go.Proofs
open Go.AF
set_option maxRecDepth 100000
variable {M : Mem} {K : Value → Mem → Prop} {Kp : List PanicEntry → Mem → Prop}
theorem Ak {Je : Option Addr} {Jf Jg : Nat} {Jh : Option Addr} {Ji Jj : Nat} {sq : Int} {Jk : Option Addr} {Jl Jm : Nat} {cH : Int} {cI : Int} {cJ : Int} {fj : Int} {b2 o2 : Nat} (h :
bh M (cl [(.slice Je Jf Jg), (.slice Jh Ji Jj), (iV sq), (.slice Jk Jl Jm)] 39) fun k1 M2 =>
bh M2 (cl [(iV cH), (iV cI), (iV cJ), (iV fj)] 29) fun k3 M4 =>
II M4 k1 0 fun A5 k6 k7 A8 k9 eJ gQ xN dH iL =>
jy M4 k3 0 fun jM oV kC mO =>
aa Tryz.prog 56 #[(.agg #[(.slice A5 k6 k7), (.slice A8 k9 eJ), (iV gQ), (.slice xN dH iL)])] M4 (fun Md r8 =>
b8 (some Md) fun yd =>
((Mem.gp r8 ⟨k3, 0, none⟩ 0 4) = some [(iV jM), (iV oV), (iV kC), (iV mO)]) ∧
bh r8 (cl [(.pointer yd), (iV jM), (iV oV), (iV kC), (iV mO), (.slice none 0 0), (.slice none 0 0), (.slice none 0 0), (.pointer (some ⟨b2, o2, none⟩)), (iV 0)] 137) fun hG mF =>
rI mF k3 0 fun AY =>
∃ W9 : IT, (∃ r9, W9 r9 [(iV 0)] mF) ∧
∀ (zX : Nat) (_ : Nat → Value) (yW : Int) (wC : Mem), (W9 zX [(iV yW)] wC) → aO (decide (yW < AY))
 (∃ Xa : List Value → Mem → Prop, (rI wC k3 2 fun n32 =>
 (rS wC hG 5 fun IX yS yT =>
 aa Tryz.prog 57 #[(iV n32)] wC (fun v36 GD =>
 b8 (some v36) fun A38 =>
 bh GD (cl [(.pointer A38), (iV 0), (iV (-1))] 141) fun Af Px =>
 aA 132 IX yS yT (some ⟨Af, 0, none⟩) 1 1 Px (fun v41 Me =>
 az (some v41) fun A43 qu LN =>
 sT Me hG 5 (.slice A43 qu LN) fun Mh =>
 Xa [] Mh) Kp) Kp) ∧
 (aa Tryz.prog 57 #[(iV n32)] wC (fun v47 RP =>
 b8 (some v47) fun Xb =>
 rS RP hG 5 fun Vi Mf tp =>
 bh RP (cl [(.pointer Xb), (iV 0), (iV (-1))] 141) fun r7 LP =>
 aA 132 Vi Mf tp (some ⟨r7, 0, none⟩) 1 1 LP (fun S7 Pj =>
 az (some S7) fun Wr DG Ws =>
 sT Pj hG 5 (.slice Wr DG Ws) fun BP =>
 Xa [] BP) Kp) Kp) ∧
 True) ∧
 ∀ Xc : Nat → Value, ∀ rA : Mem, (Xa [] rA) → ∃ Og : Nat, (Og < zX) ∧
 W9 Og [(iV (IntKind.wrap .i64 (yW + 1)))] rA)
 (rI wC k3 1 fun n64 =>
 ∃ Xd : IT, (∃ Jq, Xd Jq [(iV 0)] wC) ∧
 ∀ (jQ : Nat) (_ : Nat → Value) (Xe : Int) (Ae : Mem), (Xd jQ [(iV Xe)] Ae) → aO (decide (Xe < n64))
 (rS Ae hG 6 fun PJ W2 k73 =>
 bh Ae (cl [(iV (-1)), (iV (-1)), (iV 0)] 143) fun W3 Al =>
 aA 133 PJ W2 k73 (some ⟨W3, 0, none⟩) 1 1 Al (fun v76 Tv =>
 az (some v76) fun A78 Tx Mk =>
 sT Tv hG 6 (.slice A78 Tx Mk) fun RX =>
 ∃ Ld : Nat, (Ld < jQ) ∧
 Xd Ld [(iV (IntKind.wrap .i64 (Xe + 1)))] RX) Kp)
 (bh Ae yQ fun Mm GF =>
 aa Tryz.prog 58 #[(.pointer (some ⟨hG, 7, none⟩)), (.slice (some ⟨Mm, 0, none⟩) 1 1)] GF (fun Ty Jr =>
 (Ty = (.tuple #[])) ∧
 K (.pointer (some ⟨hG, 0, none⟩)) Jr) Kp))) Kp) :
 aa Tryz.prog 15 #[.agg #[.slice Je Jf Jg, .slice Jh Ji Jj, .int .i64 sq, .slice Jk Jl Jm], .agg #[.int .i64 cH, .int .i64 cI, .int .i64 cJ, .int .i64 fj], .pointer (some ⟨b2, o2, none⟩)] M K Kp := vw [(1, .bN [0, 1, 0, 0, 15, 31, 63] (sy [3, 0] (.fT 2 (sy [1, 4, 5, 6] .done)))), (2000000, .loop [(16, .c (.int .i64))]), (4, .Ga [0, 0, 2, 6, 14, 0, 32, 96, 224, 480, 1022, 2047, 4095, 8191] (sy [0, 1, 2, 3, 5, 6] (.fork 4 (sy [7, 8, 9, 10, 11, 12, 13] .done) (.fork 7 (sy [8, 4, 9, 10, 11, 12, 13] .done) .dead))) []), (2000002, .loop [(34, .c (.int .i64))])] Tryz.func15 h
theorem oa {b0 o0 : Nat} (h :
rP M b0 o0 fun A1 =>
K (.pointer A1) M) :
 aa Tryz.prog 18 #[.pointer (some ⟨b0, o0, none⟩)] M K Kp := vw [] Tryz.func18 h
theorem mX {b0 o0 : Nat} (h :
rP M b0 o0 fun A1 =>
aa Tryz.prog 28 #[(.pointer A1)] M (fun v2 M3 =>
∃ n4 n5 : Int, (v2 = (.tuple #[(iV n4), (iV n5)])) ∧
aO (n4 == 1)
 (K (iV 1) M3)
 (aO (n4 == 2)
 (K (iV 2) M3)
 (rP M3 b0 o0 fun A6 =>
 aa Tryz.prog 65 #[(.pointer A6)] M3 (fun v7 M8 =>
 cV (some v7) fun t9 =>
 aO t9
 (K (iV 3) M8)
 (K (iV 0) M8)) Kp))) Kp) :
 aa Tryz.prog 22 #[.pointer (some ⟨b0, o0, none⟩)] M K Kp := vw [] Tryz.func22 h
theorem mY {b0 o0 : Nat} (h :
aa Tryz.prog 64 #[(.pointer (some ⟨b0, (o0 + 7), none⟩))] M (fun v1 M2 =>
az (some v1) fun A3 k4 k5 =>
K (.slice A3 k4 k5) M2) Kp) :
 aa Tryz.prog 20 #[.pointer (some ⟨b0, o0, none⟩)] M K Kp := vw [] Tryz.func20 h
theorem oc {b0 o0 : Nat} (h :
rI M b0 (o0 + 9) fun n1 =>
K (iV n1) M) :
 aa Tryz.prog 35 #[.pointer (some ⟨b0, o0, none⟩)] M K Kp := vw [] Tryz.func35 h
theorem pX {b0 o0 : Nat} (h :
bh M (.cells #[(.int .i64 0), (.int .i64 0), (.int .i64 0), (.slice none 0 0)] 43 (0, 0)) fun k1 M2 =>
aa Tryz.prog 22 #[(.pointer (some ⟨b0, o0, none⟩))] M2 (fun v3 M4 =>
aG (some v3) .i64 fun n5 =>
aO (n5 != 0)
 (aF M4 ⟨k1, 0, none⟩ (.int .i64 0) fun M6 =>
 aF M6 ⟨k1, (0 + 1), none⟩ (.int .i64 0) fun M7 =>
 aF M7 ⟨k1, (0 + 2), none⟩ (.int .i64 0) fun M8 =>
 aF M8 ⟨k1, (0 + 3), none⟩ (.slice none 0 0) fun M9 =>
 aG (Mem.ld M9 ⟨k1, 0, none⟩) .i64 fun kB =>
 aG (Mem.ld M9 ⟨k1, (0 + 1), none⟩) .i64 fun gQ =>
 aG (Mem.ld M9 ⟨k1, (0 + 2), none⟩) .i64 fun iw =>
 az (Mem.ld M9 ⟨k1, (0 + 3), none⟩) fun K7 iL gI =>
 K (.agg #[(.int .i64 kB), (.int .i64 gQ), (.int .i64 iw), (.slice K7 iL gI)]) M9)
 (b8 (Mem.ld M4 ⟨b0, (o0 + 8), none⟩) fun RU =>
 aG (Mem.ld M4 ⟨b0, ((o0 + 1) + 1), none⟩) .i64 fun kC =>
 aa Tryz.prog 107 #[(.pointer RU), (.int .i64 1), (.int .i64 (IntKind.wrap .i64 (kC + 1)))] M4 (fun DD ku =>
 aG (some DD) .i64 fun iu =>
 bh ku (.cells #[(.int .i64 0), (.int .i64 0), (.int .i64 0), (.slice none 0 0)] 43 (0, 0)) fun fe mE =>
 aG (Mem.ld mE ⟨b0, ((o0 + 1) + 1), none⟩) .i64 fun zZ =>
 aO (iu == zZ)
  (aa Tryz.prog 108 #[(.pointer (some ⟨b0, o0, none⟩))] mE (fun To E7 =>
  ∃ sw : Int, ∃ yg : Int, ∃ sg : Int, ∃ Gt : Option Addr, ∃ lH : Nat, ∃ nH : Nat, (To = (.agg #[(.int .i64 sw), (.int .i64 yg), (.int .i64 sg), (.slice Gt lH nH)])) ∧
  aF E7 ⟨fe, 0, none⟩ (.int .i64 sw) fun oW =>
  aF oW ⟨fe, (0 + 1), none⟩ (.int .i64 yg) fun BQ =>
  aF BQ ⟨fe, (0 + 2), none⟩ (.int .i64 sg) fun rC =>
  aF rC ⟨fe, (0 + 3), none⟩ (.slice Gt lH nH) fun yh =>
  aG (Mem.ld yh ⟨b0, (o0 + 9), none⟩) .i64 fun wI =>
  aF yh ⟨b0, (o0 + 9), none⟩ (.int .i64 (IntKind.wrap .i64 (wI + 1))) fun GD =>
  aG (Mem.ld GD ⟨fe, 0, none⟩) .i64 fun Gr =>
  aG (Mem.ld GD ⟨fe, (0 + 1), none⟩) .i64 fun HI =>
  aG (Mem.ld GD ⟨fe, (0 + 2), none⟩) .i64 fun Jc =>
  az (Mem.ld GD ⟨fe, (0 + 3), none⟩) fun Tp Pd yU =>
  aF GD ⟨k1, 0, none⟩ (.int .i64 Gr) fun Ag =>
  aF Ag ⟨k1, (0 + 1), none⟩ (.int .i64 HI) fun tu =>
  aF tu ⟨k1, (0 + 2), none⟩ (.int .i64 Jc) fun Mh =>
  aF Mh ⟨k1, (0 + 3), none⟩ (.slice Tp Pd yU) fun wJ =>
  aG (Mem.ld wJ ⟨k1, 0, none⟩) .i64 fun HK =>
  aG (Mem.ld wJ ⟨k1, (0 + 1), none⟩) .i64 fun RY =>
  aG (Mem.ld wJ ⟨k1, (0 + 2), none⟩) .i64 fun Pw =>
  az (Mem.ld wJ ⟨k1, (0 + 3), none⟩) fun Pe tp r7 =>
  K (.agg #[(.int .i64 HK), (.int .i64 RY), (.int .i64 Pw), (.slice Pe tp r7)]) wJ) Kp)
  (az (Mem.ld mE ⟨b0, (o0 + 6), none⟩) fun La DR Lb =>
  ((0 : Int) ≤ iu) ∧
  ((iu : Int) < ((DR : Nat) : Int)) ∧
  aD La fun yZ DG =>
  aG (Mem.ld mE ⟨yZ, (DG + ((Int.toNat iu) * 3)), none⟩) .i64 fun IW =>
  aO (IW == (-1))
   (aa Tryz.prog 109 #[(.pointer (some ⟨b0, o0, none⟩)), (.int .i64 iu)] mE (fun v60 DF =>
   ∃ yY : Int, ∃ tq : Int, ∃ n64 : Int, ∃ RZ : Option Addr, ∃ Jq : Nat, ∃ jQ : Nat, (v60 = (.agg #[(.int .i64 yY), (.int .i64 tq), (.int .i64 n64), (.slice RZ Jq jQ)])) ∧
   aF DF ⟨fe, 0, none⟩ (.int .i64 yY) fun PG =>
   aF PG ⟨fe, (0 + 1), none⟩ (.int .i64 tq) fun M69 =>
   aF M69 ⟨fe, (0 + 2), none⟩ (.int .i64 n64) fun Ae =>
   aF Ae ⟨fe, (0 + 3), none⟩ (.slice RZ Jq jQ) fun M71 =>
   aG (Mem.ld M71 ⟨b0, (o0 + 9), none⟩) .i64 fun Th =>
   aF M71 ⟨b0, (o0 + 9), none⟩ (.int .i64 (IntKind.wrap .i64 (Th + 1))) fun AZ =>
   aG (Mem.ld AZ ⟨fe, 0, none⟩) .i64 fun Mn =>
   aG (Mem.ld AZ ⟨fe, (0 + 1), none⟩) .i64 fun LS =>
   aG (Mem.ld AZ ⟨fe, (0 + 2), none⟩) .i64 fun LU =>
   az (Mem.ld AZ ⟨fe, (0 + 3), none⟩) fun Xf Mi Tx =>
   aF AZ ⟨k1, 0, none⟩ (.int .i64 Mn) fun Ai =>
   aF Ai ⟨k1, (0 + 1), none⟩ (.int .i64 LS) fun RX =>
   aF RX ⟨k1, (0 + 2), none⟩ (.int .i64 LU) fun M82 =>
   aF M82 ⟨k1, (0 + 3), none⟩ (.slice Xf Mi Tx) fun GB =>
   aG (Mem.ld GB ⟨k1, 0, none⟩) .i64 fun N8 =>
   aG (Mem.ld GB ⟨k1, (0 + 1), none⟩) .i64 fun Oh =>
   aG (Mem.ld GB ⟨k1, (0 + 2), none⟩) .i64 fun n86 =>
   az (Mem.ld GB ⟨k1, (0 + 3), none⟩) fun A87 PB k89 =>
   K (.agg #[(.int .i64 N8), (.int .i64 Oh), (.int .i64 n86), (.slice A87 PB k89)]) GB) Kp)
   (az (Mem.ld mE ⟨b0, (o0 + 6), none⟩) fun A90 k91 k92 =>
   ((0 : Int) ≤ iu) ∧
   ((iu : Int) < ((k91 : Nat) : Int)) ∧
   aD A90 fun Tz PD =>
   aG (Mem.ld mE ⟨Tz, ((PD + ((Int.toNat iu) * 3)) + 1), none⟩) .i64 fun LV =>
   aO (LV == (-1))
    (aa Tryz.prog 110 #[(.pointer (some ⟨b0, o0, none⟩)), (.int .i64 iu)] mE (fun v96 Jp =>
    ∃ Va : Int, ∃ R0 : Int, ∃ si : Int, ∃ TA : Option Addr, ∃ Mj : Nat, ∃ vl : Nat, (v96 = (.agg #[(.int .i64 Va), (.int .i64 R0), (.int .i64 si), (.slice TA Mj vl)])) ∧
    aF Jp ⟨fe, 0, none⟩ (.int .i64 Va) fun Xg =>
    aF Xg ⟨fe, (0 + 1), none⟩ (.int .i64 R0) fun GC =>
    aF GC ⟨fe, (0 + 2), none⟩ (.int .i64 si) fun Xh =>
    aF Xh ⟨fe, (0 + 3), none⟩ (.slice TA Mj vl) fun Mo =>
    aG (Mem.ld Mo ⟨b0, (o0 + 9), none⟩) .i64 fun DT =>
    aF Mo ⟨b0, (o0 + 9), none⟩ (.int .i64 (IntKind.wrap .i64 (DT + 1))) fun qv =>
    aG (Mem.ld qv ⟨fe, 0, none⟩) .i64 fun Po =>
    aG (Mem.ld qv ⟨fe, (0 + 1), none⟩) .i64 fun Xi =>
    aG (Mem.ld qv ⟨fe, (0 + 2), none⟩) .i64 fun DI =>
    az (Mem.ld qv ⟨fe, (0 + 3), none⟩) fun Xj Xk PK =>
    aF qv ⟨k1, 0, none⟩ (.int .i64 Po) fun DU =>
    aF DU ⟨k1, (0 + 1), none⟩ (.int .i64 Xi) fun DV =>
    aF DV ⟨k1, (0 + 2), none⟩ (.int .i64 DI) fun l9 =>
    aF l9 ⟨k1, (0 + 3), none⟩ (.slice Xj Xk PK) fun Am =>
    aG (Mem.ld Am ⟨k1, 0, none⟩) .i64 fun DW =>
    aG (Mem.ld Am ⟨k1, (0 + 1), none⟩) .i64 fun DX =>
    aG (Mem.ld Am ⟨k1, (0 + 2), none⟩) .i64 fun Mp =>
    az (Mem.ld Am ⟨k1, (0 + 3), none⟩) fun Xl DY Xm =>
    K (.agg #[(.int .i64 DW), (.int .i64 DX), (.int .i64 Mp), (.slice Xl DY Xm)]) Am) Kp)
    (aa Tryz.prog 111 #[(.pointer (some ⟨b0, o0, none⟩)), (.int .i64 iu)] mE (fun Xn Xo =>
    ∃ tX : Int, ∃ TB : Int, ∃ TC : Int, ∃ GG : Option Addr, ∃ GH : Nat, ∃ Mq : Nat, (Xn = (.agg #[(.int .i64 tX), (.int .i64 TB), (.int .i64 TC), (.slice GG GH Mq)])) ∧
    aF Xo ⟨fe, 0, none⟩ (.int .i64 tX) fun B5 =>
    aF B5 ⟨fe, (0 + 1), none⟩ (.int .i64 TB) fun Xp =>
    aF Xp ⟨fe, (0 + 2), none⟩ (.int .i64 TC) fun Xq =>
    aF Xq ⟨fe, (0 + 3), none⟩ (.slice GG GH Mq) fun B6 =>
    aG (Mem.ld B6 ⟨b0, (o0 + 9), none⟩) .i64 fun Xr =>
    aF B6 ⟨b0, (o0 + 9), none⟩ (.int .i64 (IntKind.wrap .i64 (Xr + 1))) fun An =>
    aG (Mem.ld An ⟨fe, 0, none⟩) .i64 fun Xs =>
    aG (Mem.ld An ⟨fe, (0 + 1), none⟩) .i64 fun Xt =>
    aG (Mem.ld An ⟨fe, (0 + 2), none⟩) .i64 fun Xu =>
    az (Mem.ld An ⟨fe, (0 + 3), none⟩) fun Xv Xw Xx =>
    aF An ⟨k1, 0, none⟩ (.int .i64 Xs) fun Xy =>
    aF Xy ⟨k1, (0 + 1), none⟩ (.int .i64 Xt) fun Xz =>
    aF Xz ⟨k1, (0 + 2), none⟩ (.int .i64 Xu) fun XA =>
    aF XA ⟨k1, (0 + 3), none⟩ (.slice Xv Xw Xx) fun Js =>
    aG (Mem.ld Js ⟨k1, 0, none⟩) .i64 fun Jt =>
    aG (Mem.ld Js ⟨k1, (0 + 1), none⟩) .i64 fun Mr =>
    aG (Mem.ld Js ⟨k1, (0 + 2), none⟩) .i64 fun Ms =>
    az (Mem.ld Js ⟨k1, (0 + 3), none⟩) fun XB PL Mt =>
    K (.agg #[(.int .i64 Jt), (.int .i64 Mr), (.int .i64 Ms), (.slice XB PL Mt)]) Js) Kp)))) Kp)) Kp) :
 aa Tryz.prog 54 ([.pointer (some ⟨b0, o0, none⟩)] : List Value).toArray M K Kp :=
 bR (C := Cx) good [(3, .bN [0, 1, 3, 7, 0, 16, 48, 112, 240, 496, 1023, 2047] (.step 0 (.step 1 (.step 2 (.step 4 (.step 5 (.step 6 (.step 7 (.step 3 (.step 8 (.step 9 (.step 10 (.step 11 .done)))))))))))))] Tryz.func54 (by kernel_rfl) (by kernel_rfl) h
theorem pY {b0 o0 : Nat} (h :
bh M fq fun k1 M2 =>
rP M2 b0 o0 fun A3 =>
aa Tryz.prog 120 #[(.pointer A3)] M2 (fun v4 M5 =>
az (some v4) fun A6 k7 k8 =>
aa Tryz.prog 58 #[(.pointer (some ⟨b0, (o0 + 7), none⟩)), (.slice A6 k7 k8)] M5 (fun v9 jL =>
(v9 = (.tuple #[])) ∧
DA jL k1 (iV 1) (iV (-1)) (iV (-1)) (.slice A6 k7 k8) fun nh =>
BJ nh k1 0 fun jM oV kC Fb iI iZ =>
K (.agg #[(iV jM), (iV oV), (iV kC), (.slice Fb iI iZ)]) nh) Kp) Kp) :
 aa Tryz.prog 108 #[.pointer (some ⟨b0, o0, none⟩)] M K Kp := vw [] Tryz.func108 h
theorem pZ {b0 o0 : Nat} {x1 : Int} (h :
bh M fq fun k1 M2 =>
rS M2 b0 (o0 + 5) fun A3 k4 k5 =>
∃ I6 : IT, (∃ k7, I6 k7 [(iV 0)] M2) ∧
∀ (k8 : Nat) (_ : Nat → Value) (kB : Int) (jZ : Mem), (I6 k8 [(iV kB)] jZ) → aO (decide (kB < k4))
 (rS jZ b0 (o0 + 5) fun xN dH iL =>
 (0 ≤ kB) ∧
 (kB < dH) ∧
 aD xN fun gI gi =>
 rI jZ gI ((gi + ((Int.toNat kB) * 3)) + 2) fun kC =>
 aO (kC == (-1))
 (rS jZ b0 (o0 + 5) fun Fb iI iZ =>
 rS jZ b0 (o0 + 6) fun yd hG jB =>
 (0 ≤ kB) ∧
 (kB < iI) ∧
 aD Fb fun r6 vb =>
 sT jZ r6 ((vb + ((Int.toNat kB) * 3)) + 2) (iV x1) fun uN =>
 ((0 : Int) ≤ x1) ∧
 ((x1 : Int) < hG) ∧
 aD yd fun zX tT =>
 sT uN zX (tT + ((Int.toNat x1) * 3)) (iV kB) fun ni =>
 DA ni k1 (iV 2) (iV x1) (iV (-1)) (.slice none 0 0) fun BQ =>
 BJ BQ k1 0 fun LZ Fa wI Mg hU Af =>
 K (.agg #[(iV LZ), (iV Fa), (iV wI), (.slice Mg hU Af)]) BQ)
 (∃ K9 : Nat, (K9 < k8) ∧
 I6 K9 [(iV (IntKind.wrap .i64 (kB + 1)))] jZ))
 (sT jZ k1 0 (iV 3) fun BY =>
 sT BY k1 1 (iV x1) fun Me =>
 sT Me k1 2 (iV (-1)) fun xO =>
 sT xO k1 3 (.slice none 0 0) fun Ag =>
 BJ Ag k1 0 fun Gx Ja AV Ml Pv Ph =>
 K (.agg #[(iV Gx), (iV Ja), (iV AV), (.slice Ml Pv Ph)]) Ag)) :
 aa Tryz.prog 109 #[.pointer (some ⟨b0, o0, none⟩), .int .i64 x1] M K Kp := vw [(2000000, .loop [(11, .c (.int .i64))]), (5, .bN [0, 1, 3, 7, 0, 0, 32, 96, 224, 0, 0, 0, 1535, 5631, 13823, 32767, 65535, 131071] (sy [0, 1, 2, 4, 5, 6, 7, 9, 10, 11, 3, 8, 12, 13, 14, 15, 16, 17] .done))] Tryz.func109 h
theorem qb {b0 o0 : Nat} {x1 : Int} (h :
bh M (.cells #[(.int .i64 0), (.int .i64 0), (.int .i64 0), (.slice none 0 0)] 43 (0, 0)) fun k1 M2 =>
az (Mem.ld M2 ⟨b0, (o0 + 5), none⟩) fun A3 k4 k5 =>
az (Mem.ld M2 ⟨b0, (o0 + 6), none⟩) fun A6 k7 k8 =>
((0 : Int) ≤ x1) ∧
((x1 : Int) < ((k7 : Nat) : Int)) ∧
aD A6 fun k9 eJ =>
aG (Mem.ld M2 ⟨k9, (eJ + ((Int.toNat x1) * 3)), none⟩) .i64 fun gQ =>
((0 : Int) ≤ gQ) ∧
((gQ : Int) < ((k4 : Nat) : Int)) ∧
aD A3 fun gh dH =>
az (Mem.ld M2 ⟨b0, (o0 + 6), none⟩) fun nj gI gi =>
((0 : Int) ≤ x1) ∧
((x1 : Int) < ((gI : Nat) : Int)) ∧
aD nj fun eK gq =>
aG (Mem.ld M2 ⟨eK, ((gq + ((Int.toNat x1) * 3)) + 2), none⟩) .i64 fun zY =>
aO (decide ((zY : Int) > 0))
 (b8 (Mem.ld M2 ⟨gh, (dH + ((Int.toNat gQ) * 3)), none⟩) fun Ve =>
 aa Tryz.prog 148 #[(.pointer Ve)] M2 (fun WO mE =>
 aG (some WO) .i64 fun zZ =>
 ∃ J24 : List Value → Mem → Prop, (aO (zZ != (-1))
  (b8 (Mem.ld mE ⟨gh, (dH + ((Int.toNat gQ) * 3)), none⟩) fun LR =>
   az (Mem.ld mE ⟨b0, (o0 + 6), none⟩) fun Tw zX tT =>
   aa Tryz.prog 149 #[(.pointer LR)] mE (fun XC wC =>
   ∃ vF : Int, ∃ t32 : Bool, (XC = (.tuple #[(.int .i64 vF), (.bool t32)])) ∧
   ((Mem.ld wC ⟨b0, (o0 + 6), none⟩) = (some (.slice Tw zX tT))) ∧
   ((0 : Int) ≤ x1) ∧
   ((x1 : Int) < ((zX : Nat) : Int)) ∧
   aD Tw fun z0 yS =>
   aF wC ⟨z0, ((yS + ((Int.toNat x1) * 3)) + 1), none⟩ (.int .i64 vF) fun yh =>
   ((Mem.ld yh ⟨b0, (o0 + 6), none⟩) = (some (.slice Tw zX tT))) ∧
   az (Mem.ld yh ⟨b0, (o0 + 6), none⟩) fun Oe vH hU =>
   ((0 : Int) ≤ x1) ∧
   ((x1 : Int) < ((vH : Nat) : Int)) ∧
   aD Oe fun Af K9 =>
   aG (Mem.ld yh ⟨Af, ((K9 + ((Int.toNat x1) * 3)) + 1), none⟩) .i64 fun PM =>
   aF yh ⟨k1, 0, none⟩ (.int .i64 4) fun Me =>
   aF Me ⟨k1, (0 + 1), none⟩ (.int .i64 x1) fun xO =>
   aF xO ⟨k1, (0 + 2), none⟩ (.int .i64 PM) fun Ag =>
   aF Ag ⟨k1, (0 + 3), none⟩ (.slice none 0 0) fun tu =>
   aG (Mem.ld tu ⟨k1, 0, none⟩) .i64 fun Ja =>
   aG (Mem.ld tu ⟨k1, (0 + 1), none⟩) .i64 fun AV =>
   aG (Mem.ld tu ⟨k1, (0 + 2), none⟩) .i64 fun HK =>
   az (Mem.ld tu ⟨k1, (0 + 3), none⟩) fun Xb Ph Mf =>
   K (.agg #[(.int .i64 Ja), (.int .i64 AV), (.int .i64 HK), (.slice Xb Ph Mf)]) tu) Kp)
  (J24 [] mE)) ∧
 ∀ XD : Nat → Value, ∀ Gz : Mem, (J24 [] Gz) → aa Tryz.prog 150 #[(.pointer (some ⟨b0, o0, none⟩)), (.pointer (some ⟨gh, (dH + ((Int.toNat gQ) * 3)), none⟩))] Gz (fun Mu xP =>
 ∃ Mv : Int, ∃ t57 : Bool, (Mu = (.tuple #[(.int .i64 Mv), (.bool t57)])) ∧
 aO (!t57)
  (aG (Mem.ld xP ⟨b0, (o0 + 1), none⟩) .i64 fun LQ =>
  ∃ PN : List Value → Mem → Prop, (aO (decide ((LQ : Int) > 1))
   (b8 (Mem.ld xP ⟨b0, (o0 + 8), none⟩) fun XE =>
    aG (Mem.ld xP ⟨b0, (o0 + 1), none⟩) .i64 fun vf =>
    aa Tryz.prog 107 #[(.pointer XE), (.int .i64 2), (.int .i64 vf)] xP (fun Tf BN =>
    aG (some Tf) .i64 fun n64 =>
    b8 (Mem.ld BN ⟨gh, (dH + ((Int.toNat gQ) * 3)), none⟩) fun RZ =>
    az (Mem.ld BN ⟨b0, (o0 + 5), none⟩) fun Ju jQ Mw =>
    ((0 : Int) ≤ n64) ∧
    ((n64 : Int) < ((jQ : Nat) : Int)) ∧
    aD Ju fun XF Jn =>
    b8 (Mem.ld BN ⟨XF, (Jn + ((Int.toNat n64) * 3)), none⟩) fun PJ =>
    aa Tryz.prog 151 #[(.pointer RZ), (.pointer PJ)] BN (fun TD AZ =>
    ∃ Mn : Int, ∃ t75 : Bool, (TD = (.tuple #[(.int .i64 Mn), (.bool t75)])) ∧
    PN [(.int .i64 5), (.int .i64 Mn), (.bool t75)] AZ) Kp) Kp)
   (PN [(.int .i64 4), (.int .i64 Mv), (.bool t57)] xP)) ∧
  ∀ PO : Nat → Value, ∀ DH : Int, ∀ GI : Int, ∀ t79 : Bool, ∀ Ai : Mem, (PN [(.int .i64 DH), (.int .i64 GI), (.bool t79)] Ai) → aO (!t79)
   (az (Mem.ld Ai ⟨b0, (o0 + 6), none⟩) fun Pz Ld Mm =>
   aF Ai ⟨gh, ((dH + ((Int.toNat gQ) * 3)) + 2), none⟩ (.int .i64 (-1)) fun GF =>
   ((0 : Int) ≤ x1) ∧
   ((x1 : Int) < ((Ld : Nat) : Int)) ∧
   aD Pz fun GJ Jv =>
   aF GF ⟨GJ, (Jv + ((Int.toNat x1) * 3)), none⟩ (.int .i64 (-1)) fun Jw =>
   aF Jw ⟨GJ, ((Jv + ((Int.toNat x1) * 3)) + 1), none⟩ (.int .i64 (-1)) fun Oi =>
   aF Oi ⟨GJ, ((Jv + ((Int.toNat x1) * 3)) + 2), none⟩ (.int .i64 0) fun DS =>
   aF DS ⟨k1, 0, none⟩ (.int .i64 6) fun TE =>
   aF TE ⟨k1, (0 + 1), none⟩ (.int .i64 x1) fun oX =>
   aF oX ⟨k1, (0 + 2), none⟩ (.int .i64 (-1)) fun TF =>
   aF TF ⟨k1, (0 + 3), none⟩ (.slice none 0 0) fun B7 =>
   aG (Mem.ld B7 ⟨k1, 0, none⟩) .i64 fun Pm =>
   aG (Mem.ld B7 ⟨k1, (0 + 1), none⟩) .i64 fun LV =>
   aG (Mem.ld B7 ⟨k1, (0 + 2), none⟩) .i64 fun Pn =>
   az (Mem.ld B7 ⟨k1, (0 + 3), none⟩) fun TG TH TI =>
   K (.agg #[(.int .i64 Pm), (.int .i64 LV), (.int .i64 Pn), (.slice TG TH TI)]) B7)
   (aG (Mem.ld Ai ⟨gh, ((dH + ((Int.toNat gQ) * 3)) + 1), none⟩) .i64 fun si =>
   aF Ai ⟨gh, ((dH + ((Int.toNat gQ) * 3)) + 1), none⟩ (.int .i64 (IntKind.wrap .i64 (si + 1))) fun qc =>
   az (Mem.ld qc ⟨b0, (o0 + 6), none⟩) fun Ao vl B8 =>
   az (Mem.ld qc ⟨b0, (o0 + 6), none⟩) fun Ap sD GK =>
   aG (Mem.ld qc ⟨b0, ((o0 + 1) + 3), none⟩) .i64 fun DT =>
   ((0 : Int) ≤ x1) ∧
   ((x1 : Int) < ((vl : Nat) : Int)) ∧
   aD Ao fun Jx Jy =>
   aF qc ⟨Jx, ((Jy + ((Int.toNat x1) * 3)) + 1), none⟩ (.int .i64 GI) fun od =>
   ((0 : Int) ≤ x1) ∧
   ((x1 : Int) < ((sD : Nat) : Int)) ∧
   aD Ap fun Jz JA =>
   aF od ⟨Jz, ((JA + ((Int.toNat x1) * 3)) + 2), none⟩ (.int .i64 DT) fun JB =>
   aF JB ⟨k1, 0, none⟩ (.int .i64 DH) fun JC =>
   aF JC ⟨k1, (0 + 1), none⟩ (.int .i64 x1) fun DU =>
   aF DU ⟨k1, (0 + 2), none⟩ (.int .i64 GI) fun DV =>
   aF DV ⟨k1, (0 + 3), none⟩ (.slice none 0 0) fun l9 =>
   aG (Mem.ld l9 ⟨k1, 0, none⟩) .i64 fun JD =>
   aG (Mem.ld l9 ⟨k1, (0 + 1), none⟩) .i64 fun DW =>
   aG (Mem.ld l9 ⟨k1, (0 + 2), none⟩) .i64 fun DX =>
   az (Mem.ld l9 ⟨k1, (0 + 3), none⟩) fun JE JF DY =>
   K (.agg #[(.int .i64 JD), (.int .i64 DW), (.int .i64 DX), (.slice JE JF DY)]) l9))
  (∃ JG : List Value → Mem → Prop, (JG [(.int .i64 4), (.int .i64 Mv), (.bool t57)] xP) ∧
  ∀ Mx : Nat → Value, ∀ Aq : Int, ∀ tX : Int, ∀ t129 : Bool, ∀ tY : Mem, (JG [(.int .i64 Aq), (.int .i64 tX), (.bool t129)] tY) → aO (!t129)
   (az (Mem.ld tY ⟨b0, (o0 + 6), none⟩) fun GG GH Mq =>
   aF tY ⟨gh, ((dH + ((Int.toNat gQ) * 3)) + 2), none⟩ (.int .i64 (-1)) fun B5 =>
   ((0 : Int) ≤ x1) ∧
   ((x1 : Int) < ((GH : Nat) : Int)) ∧
   aD GG fun yj DZ =>
   aF B5 ⟨yj, (DZ + ((Int.toNat x1) * 3)), none⟩ (.int .i64 (-1)) fun B6 =>
   aF B6 ⟨yj, ((DZ + ((Int.toNat x1) * 3)) + 1), none⟩ (.int .i64 (-1)) fun PR =>
   aF PR ⟨yj, ((DZ + ((Int.toNat x1) * 3)) + 2), none⟩ (.int .i64 0) fun An =>
   aF An ⟨k1, 0, none⟩ (.int .i64 6) fun GL =>
   aF GL ⟨k1, (0 + 1), none⟩ (.int .i64 x1) fun PS =>
   aF PS ⟨k1, (0 + 2), none⟩ (.int .i64 (-1)) fun PT =>
   aF PT ⟨k1, (0 + 3), none⟩ (.slice none 0 0) fun wN =>
   aG (Mem.ld wN ⟨k1, 0, none⟩) .i64 fun PU =>
   aG (Mem.ld wN ⟨k1, (0 + 1), none⟩) .i64 fun PV =>
   aG (Mem.ld wN ⟨k1, (0 + 2), none⟩) .i64 fun PW =>
   az (Mem.ld wN ⟨k1, (0 + 3), none⟩) fun PX My PY =>
   K (.agg #[(.int .i64 PU), (.int .i64 PV), (.int .i64 PW), (.slice PX My PY)]) wN)
   (aG (Mem.ld tY ⟨gh, ((dH + ((Int.toNat gQ) * 3)) + 1), none⟩) .i64 fun Jt =>
   aF tY ⟨gh, ((dH + ((Int.toNat gQ) * 3)) + 1), none⟩ (.int .i64 (IntKind.wrap .i64 (Jt + 1))) fun Au =>
   az (Mem.ld Au ⟨b0, (o0 + 6), none⟩) fun PZ P0 PL =>
   az (Mem.ld Au ⟨b0, (o0 + 6), none⟩) fun P2 GM XG =>
   aG (Mem.ld Au ⟨b0, ((o0 + 1) + 3), none⟩) .i64 fun P3 =>
   ((0 : Int) ≤ x1) ∧
   ((x1 : Int) < ((P0 : Nat) : Int)) ∧
   aD PZ fun P4 P5 =>
   aF Au ⟨P4, ((P5 + ((Int.toNat x1) * 3)) + 1), none⟩ (.int .i64 tX) fun P6 =>
   ((0 : Int) ≤ x1) ∧
   ((x1 : Int) < ((GM : Nat) : Int)) ∧
   aD P2 fun P7 P8 =>
   aF P6 ⟨P7, ((P8 + ((Int.toNat x1) * 3)) + 2), none⟩ (.int .i64 P3) fun P9 =>
   aF P9 ⟨k1, 0, none⟩ (.int .i64 Aq) fun Qa =>
   aF Qa ⟨k1, (0 + 1), none⟩ (.int .i64 x1) fun Qb =>
   aF Qb ⟨k1, (0 + 2), none⟩ (.int .i64 tX) fun Qc =>
   aF Qc ⟨k1, (0 + 3), none⟩ (.slice none 0 0) fun wO =>
   aG (Mem.ld wO ⟨k1, 0, none⟩) .i64 fun Qd =>
   aG (Mem.ld wO ⟨k1, (0 + 1), none⟩) .i64 fun Qe =>
   aG (Mem.ld wO ⟨k1, (0 + 2), none⟩) .i64 fun Qf =>
   az (Mem.ld wO ⟨k1, (0 + 3), none⟩) fun Qg Qh JH =>
   K (.agg #[(.int .i64 Qd), (.int .i64 Qe), (.int .i64 Qf), (.slice Qg Qh JH)]) wO))) Kp) Kp)
 (∃ TJ : List Value → Mem → Prop, (TJ [] M2) ∧
 ∀ Vj : Nat → Value, ∀ GN : Mem, (TJ [] GN) → aa Tryz.prog 150 #[(.pointer (some ⟨b0, o0, none⟩)), (.pointer (some ⟨gh, (dH + ((Int.toNat gQ) * 3)), none⟩))] GN (fun XH GO =>
 ∃ Qi : Int, ∃ t181 : Bool, (XH = (.tuple #[(.int .i64 Qi), (.bool t181)])) ∧
 aO (!t181)
  (aG (Mem.ld GO ⟨b0, (o0 + 1), none⟩) .i64 fun XI =>
  ∃ Qj : List Value → Mem → Prop, (aO (decide ((XI : Int) > 1))
   (b8 (Mem.ld GO ⟨b0, (o0 + 8), none⟩) fun XJ =>
    aG (Mem.ld GO ⟨b0, (o0 + 1), none⟩) .i64 fun XK =>
    aa Tryz.prog 107 #[(.pointer XJ), (.int .i64 2), (.int .i64 XK)] GO (fun XL Mz =>
    aG (some XL) .i64 fun Qk =>
    b8 (Mem.ld Mz ⟨gh, (dH + ((Int.toNat gQ) * 3)), none⟩) fun XM =>
    az (Mem.ld Mz ⟨b0, (o0 + 5), none⟩) fun XN XO k192 =>
    ((0 : Int) ≤ Qk) ∧
    ((Qk : Int) < ((XO : Nat) : Int)) ∧
    aD XN fun MA MB =>
    b8 (Mem.ld Mz ⟨MA, (MB + ((Int.toNat Qk) * 3)), none⟩) fun XP =>
    aa Tryz.prog 151 #[(.pointer XM), (.pointer XP)] Mz (fun XQ Ql =>
    ∃ TK : Int, ∃ t199 : Bool, (XQ = (.tuple #[(.int .i64 TK), (.bool t199)])) ∧
    Qj [(.int .i64 5), (.int .i64 TK), (.bool t199)] Ql) Kp) Kp)
   (Qj [(.int .i64 4), (.int .i64 Qi), (.bool t181)] GO)) ∧
  ∀ Vk : Nat → Value, ∀ TL : Int, ∀ Qm : Int, ∀ t203 : Bool, ∀ B9 : Mem, (Qj [(.int .i64 TL), (.int .i64 Qm), (.bool t203)] B9) → aO (!t203)
   (az (Mem.ld B9 ⟨b0, (o0 + 6), none⟩) fun XR XS k207 =>
   aF B9 ⟨gh, ((dH + ((Int.toNat gQ) * 3)) + 2), none⟩ (.int .i64 (-1)) fun XT =>
   ((0 : Int) ≤ x1) ∧
   ((x1 : Int) < ((XS : Nat) : Int)) ∧
   aD XR fun Qn Qo =>
   aF XT ⟨Qn, (Qo + ((Int.toNat x1) * 3)), none⟩ (.int .i64 (-1)) fun XU =>
   aF XU ⟨Qn, ((Qo + ((Int.toNat x1) * 3)) + 1), none⟩ (.int .i64 (-1)) fun XV =>
   aF XV ⟨Qn, ((Qo + ((Int.toNat x1) * 3)) + 2), none⟩ (.int .i64 0) fun XW =>
   aF XW ⟨k1, 0, none⟩ (.int .i64 6) fun XX =>
   aF XX ⟨k1, (0 + 1), none⟩ (.int .i64 x1) fun XY =>
   aF XY ⟨k1, (0 + 2), none⟩ (.int .i64 (-1)) fun XZ =>
   aF XZ ⟨k1, (0 + 3), none⟩ (.slice none 0 0) fun JI =>
   aG (Mem.ld JI ⟨k1, 0, none⟩) .i64 fun X0 =>
   aG (Mem.ld JI ⟨k1, (0 + 1), none⟩) .i64 fun X1 =>
   aG (Mem.ld JI ⟨k1, (0 + 2), none⟩) .i64 fun X3 =>
   az (Mem.ld JI ⟨k1, (0 + 3), none⟩) fun X4 X5 X6 =>
   K (.agg #[(.int .i64 X0), (.int .i64 X1), (.int .i64 X3), (.slice X4 X5 X6)]) JI)
   (aG (Mem.ld B9 ⟨gh, ((dH + ((Int.toNat gQ) * 3)) + 1), none⟩) .i64 fun X7 =>
   aF B9 ⟨gh, ((dH + ((Int.toNat gQ) * 3)) + 1), none⟩ (.int .i64 (IntKind.wrap .i64 (X7 + 1))) fun MC =>
   az (Mem.ld MC ⟨b0, (o0 + 6), none⟩) fun X8 X9 k228 =>
   az (Mem.ld MC ⟨b0, (o0 + 6), none⟩) fun Ya Yb k231 =>
   aG (Mem.ld MC ⟨b0, ((o0 + 1) + 3), none⟩) .i64 fun Yc =>
   ((0 : Int) ≤ x1) ∧
   ((x1 : Int) < ((X9 : Nat) : Int)) ∧
   aD X8 fun Yd Ye =>
   aF MC ⟨Yd, ((Ye + ((Int.toNat x1) * 3)) + 1), none⟩ (.int .i64 Qm) fun Yf =>
   ((0 : Int) ≤ x1) ∧
   ((x1 : Int) < ((Yb : Nat) : Int)) ∧
   aD Ya fun Yg Yh =>
   aF Yf ⟨Yg, ((Yh + ((Int.toNat x1) * 3)) + 2), none⟩ (.int .i64 Yc) fun Yi =>
   aF Yi ⟨k1, 0, none⟩ (.int .i64 TL) fun Yj =>
   aF Yj ⟨k1, (0 + 1), none⟩ (.int .i64 x1) fun Yk =>
   aF Yk ⟨k1, (0 + 2), none⟩ (.int .i64 Qm) fun Yl =>
   aF Yl ⟨k1, (0 + 3), none⟩ (.slice none 0 0) fun JJ =>
   aG (Mem.ld JJ ⟨k1, 0, none⟩) .i64 fun Ym =>
   aG (Mem.ld JJ ⟨k1, (0 + 1), none⟩) .i64 fun Yn =>
   aG (Mem.ld JJ ⟨k1, (0 + 2), none⟩) .i64 fun Yo =>
   az (Mem.ld JJ ⟨k1, (0 + 3), none⟩) fun Yp Yq Yr =>
   K (.agg #[(.int .i64 Ym), (.int .i64 Yn), (.int .i64 Yo), (.slice Yp Yq Yr)]) JJ))
  (∃ TM : List Value → Mem → Prop, (TM [(.int .i64 4), (.int .i64 Qi), (.bool t181)] GO) ∧
  ∀ Vl : Nat → Value, ∀ TN : Int, ∀ Qp : Int, ∀ t253 : Bool, ∀ JK : Mem, (TM [(.int .i64 TN), (.int .i64 Qp), (.bool t253)] JK) → aO (!t253)
   (az (Mem.ld JK ⟨b0, (o0 + 6), none⟩) fun Ys Yt k257 =>
   aF JK ⟨gh, ((dH + ((Int.toNat gQ) * 3)) + 2), none⟩ (.int .i64 (-1)) fun Yu =>
   ((0 : Int) ≤ x1) ∧
   ((x1 : Int) < ((Yt : Nat) : Int)) ∧
   aD Ys fun Qq Qr =>
   aF Yu ⟨Qq, (Qr + ((Int.toNat x1) * 3)), none⟩ (.int .i64 (-1)) fun Yv =>
   aF Yv ⟨Qq, ((Qr + ((Int.toNat x1) * 3)) + 1), none⟩ (.int .i64 (-1)) fun Yw =>
   aF Yw ⟨Qq, ((Qr + ((Int.toNat x1) * 3)) + 2), none⟩ (.int .i64 0) fun Yx =>
   aF Yx ⟨k1, 0, none⟩ (.int .i64 6) fun Yy =>
   aF Yy ⟨k1, (0 + 1), none⟩ (.int .i64 x1) fun Yz =>
   aF Yz ⟨k1, (0 + 2), none⟩ (.int .i64 (-1)) fun YA =>
   aF YA ⟨k1, (0 + 3), none⟩ (.slice none 0 0) fun JL =>
   aG (Mem.ld JL ⟨k1, 0, none⟩) .i64 fun YB =>
   aG (Mem.ld JL ⟨k1, (0 + 1), none⟩) .i64 fun YC =>
   aG (Mem.ld JL ⟨k1, (0 + 2), none⟩) .i64 fun YD =>
   az (Mem.ld JL ⟨k1, (0 + 3), none⟩) fun YE YF YG =>
   K (.agg #[(.int .i64 YB), (.int .i64 YC), (.int .i64 YD), (.slice YE YF YG)]) JL)
   (aG (Mem.ld JK ⟨gh, ((dH + ((Int.toNat gQ) * 3)) + 1), none⟩) .i64 fun YH =>
   aF JK ⟨gh, ((dH + ((Int.toNat gQ) * 3)) + 1), none⟩ (.int .i64 (IntKind.wrap .i64 (YH + 1))) fun MD =>
   az (Mem.ld MD ⟨b0, (o0 + 6), none⟩) fun YI YJ k278 =>
   az (Mem.ld MD ⟨b0, (o0 + 6), none⟩) fun YK YL k281 =>
   aG (Mem.ld MD ⟨b0, ((o0 + 1) + 3), none⟩) .i64 fun YM =>
   ((0 : Int) ≤ x1) ∧
   ((x1 : Int) < ((YJ : Nat) : Int)) ∧
   aD YI fun YN YO =>
   aF MD ⟨YN, ((YO + ((Int.toNat x1) * 3)) + 1), none⟩ (.int .i64 Qp) fun YP =>
   ((0 : Int) ≤ x1) ∧
   ((x1 : Int) < ((YL : Nat) : Int)) ∧
   aD YK fun YQ YR =>
   aF YP ⟨YQ, ((YR + ((Int.toNat x1) * 3)) + 2), none⟩ (.int .i64 YM) fun YS =>
   aF YS ⟨k1, 0, none⟩ (.int .i64 TN) fun YT =>
   aF YT ⟨k1, (0 + 1), none⟩ (.int .i64 x1) fun YU =>
   aF YU ⟨k1, (0 + 2), none⟩ (.int .i64 Qp) fun YV =>
   aF YV ⟨k1, (0 + 3), none⟩ (.slice none 0 0) fun JM =>
   aG (Mem.ld JM ⟨k1, 0, none⟩) .i64 fun YW =>
   aG (Mem.ld JM ⟨k1, (0 + 1), none⟩) .i64 fun YX =>
   aG (Mem.ld JM ⟨k1, (0 + 2), none⟩) .i64 fun YY =>
   az (Mem.ld JM ⟨k1, (0 + 3), none⟩) fun YZ Y0 Y1 =>
   K (.agg #[(.int .i64 YW), (.int .i64 YX), (.int .i64 YY), (.slice YZ Y0 Y1)]) JM))) Kp)) :
 aa Tryz.prog 110 ([.pointer (some ⟨b0, o0, none⟩), .int .i64 x1] : List Value).toArray M K Kp :=
 bR (C := Cx) good [(1, .bN [0, 1, 3, 7, 0, 16, 48, 112, 0, 496, 1008, 2032, 4095, 8191] (.step 0 (.step 1 (.step 2 (.step 4 (.step 5 (.step 6 (.step 8 (.step 3 (.step 7 (.step 9 (.step 10 (.step 11 (.step 12 (.step 13 .done))))))))))))))), (3000039, .cut []), (3, .bN [0, 1, 3, 7, 0, 0, 32, 96, 224, 480, 992, 2016, 2016, 4095, 12287, 28671] (.step 0 (.step 1 (.step 2 (.step 4 (.step 5 (.step 6 (.step 7 (.step 8 (.fT 3 (.step 9 (.step 10 (.step 11 (.step 12 (.step 13 (.step 14 (.step 15 .done))))))))))))))))), (3000080, .cut [(6, .c (.int .i64)), (7, .c (.int .i64)), (8, .c .bool)]), (8, .bN [0, 1, 3, 7, 0, 16, 48, 112, 240, 511, 1023] (.step 0 (.step 1 (.step 2 (.step 4 (.step 5 (.step 6 (.step 7 (.step 3 (.step 8 (.step 9 (.step 10 .done)))))))))))), (10, .bN [0, 1, 3, 7, 0, 16, 48, 112, 0, 496, 1008, 2032, 4095, 8191, 16383, 16383, 32767, 131071] (.step 0 (.step 1 (.step 2 (.step 4 (.step 5 (.step 6 (.step 8 (.step 3 (.step 7 (.step 9 (.step 10 (.step 11 (.step 12 (.step 13 (.step 14 (.step 15 (.step 16 (.step 17 .done))))))))))))))))))), (15, .bN [0, 1, 3, 7, 0, 0, 32, 96, 224, 0, 0, 0, 2048, 6144, 14336, 30720, 65023, 130559, 261631, 524287, 1048575, 2097151] (.step 0 (.step 1 (.step 2 (.step 4 (.step 5 (.step 6 (.step 7 (.step 9 (.step 10 (.step 11 (.step 12 (.step 13 (.step 14 (.step 3 (.step 8 (.step 15 (.step 16 (.step 17 (.step 18 (.step 19 (.step 20 (.step 21 .done)))))))))))))))))))))))] Tryz.func110 (by kernel_rfl) (by kernel_rfl) h
theorem qN {b0 o0 : Nat} {x1 : Int} (h :
bh M (.cells #[(.int .i64 0), (.int .i64 0), (.int .i64 0), (.slice none 0 0)] 43 (0, 0)) fun k1 M2 =>
az (Mem.ld M2 ⟨b0, (o0 + 6), none⟩) fun A3 k4 k5 =>
((0 : Int) ≤ x1) ∧
((x1 : Int) < ((k4 : Nat) : Int)) ∧
aD A3 fun k6 k7 =>
aG (Mem.ld M2 ⟨k6, ((k7 + ((Int.toNat x1) * 3)) + 1), none⟩) .i64 fun n8 =>
b8 (Mem.ld M2 ⟨b0, o0, none⟩) fun A9 =>
b8 (Mem.ld M2 ⟨b0, (o0 + 8), none⟩) fun C3 =>
(True) ∧
aa Tryz.prog 121 #[(.pointer A9), (.int .i64 n8), (.func (.func 107) #[(.pointer C3)] #[])] M2 (fun v11 ry =>
∃ t13 : Bool, ∃ nj : Option Addr, ∃ gI : Nat, ∃ gi : Nat, (v11 = (.agg #[(.bool t13), (.slice nj gI gi)])) ∧
bh ry (.cells #[(.bool false), (.slice none 0 0)] 250 (0, 0)) fun eK qx =>
aF qx ⟨eK, 0, none⟩ (.bool t13) fun ku =>
aF ku ⟨eK, (0 + 1), none⟩ (.slice nj gI gi) fun r8 =>
az (Mem.ld r8 ⟨eK, (0 + 1), none⟩) fun yd hG jB =>
∃ Qs : Nat → List Value → Mem → Prop, (∃ vb : Nat, Qs vb [(.int .i64 0)] r8) ∧
∀ r9 : Nat, ∀ Qt : Nat → Value, ∀ sg : Int, ∀ ni : Mem, (Qs r9 [(.int .i64 sg)] ni) → aO (decide ((sg : Int) < ((hG : Nat) : Int)))
 (((0 : Int) ≤ sg) ∧
 ((sg : Int) < ((hG : Nat) : Int)) ∧
 aD yd fun lH nH =>
 aG (Mem.ld ni ⟨lH, (nH + (Int.toNat sg)), none⟩) .i64 fun n32 =>
 az (Mem.ld ni ⟨b0, (o0 + 5), none⟩) fun IX yS yT =>
 aG (Mem.ld ni ⟨k6, (k7 + ((Int.toNat x1) * 3)), none⟩) .i64 fun wI =>
 ((0 : Int) ≤ wI) ∧
 ((wI : Int) < ((yS : Nat) : Int)) ∧
 aD IX fun vH hU =>
 b8 (Mem.ld ni ⟨vH, (hU + ((Int.toNat wI) * 3)), none⟩) fun U8 =>
 aa Tryz.prog 152 #[(.pointer U8), (.int .i64 n32), (.pointer (some ⟨b0, (o0 + 7), none⟩))] ni (fun Ma BY =>
 aG (some Ma) .i64 fun Od =>
 ∃ yU : Nat, (yU < r9) ∧
 Qs yU [(.int .i64 (IntKind.wrap .i64 (sg + 1)))] BY) Kp)
 (aG (Mem.ld ni ⟨k6, ((k7 + ((Int.toNat x1) * 3)) + 2), none⟩) .i64 fun Gy =>
 aF ni ⟨k6, ((k7 + ((Int.toNat x1) * 3)) + 2), none⟩ (.int .i64 (IntKind.wrap .i64 (Gy - 1))) fun tu =>
 cV (Mem.ld tu ⟨eK, 0, none⟩) fun t46 =>
 aO (!t46)
  (aF tu ⟨k6, ((k7 + ((Int.toNat x1) * 3)) + 1), none⟩ (.int .i64 (-1)) fun wJ =>
  b8 (Mem.ld wJ ⟨b0, o0, none⟩) fun Ml =>
  aa Tryz.prog 119 #[(.pointer Ml), (.int .i64 n8)] wJ (fun IU xM =>
  aG (some IU) .i64 fun Jb =>
  aO (Jb == 1)
   (bh xM (.cells #[(.int .i64 n8)] 3 (0, 0)) fun tp Gz =>
   aa Tryz.prog 58 #[(.pointer (some ⟨b0, (o0 + 7), none⟩)), (.slice (some ⟨tp, 0, none⟩) 1 1)] Gz (fun Mu xP =>
   (Mu = (.tuple #[])) ∧
   az (Mem.ld xP ⟨eK, (0 + 1), none⟩) fun Qu yZ DG =>
   aF xP ⟨k1, 0, none⟩ (.int .i64 7) fun tv =>
   aF tv ⟨k1, (0 + 1), none⟩ (.int .i64 x1) fun BP =>
   aF BP ⟨k1, (0 + 2), none⟩ (.int .i64 n8) fun DF =>
   aF DF ⟨k1, (0 + 3), none⟩ (.slice Qu yZ DG) fun rA =>
   aG (Mem.ld rA ⟨k1, 0, none⟩) .i64 fun tq =>
   aG (Mem.ld rA ⟨k1, (0 + 1), none⟩) .i64 fun n64 =>
   aG (Mem.ld rA ⟨k1, (0 + 2), none⟩) .i64 fun BO =>
   az (Mem.ld rA ⟨k1, (0 + 3), none⟩) fun Ju jQ Mw =>
   K (.agg #[(.int .i64 tq), (.int .i64 n64), (.int .i64 BO), (.slice Ju jQ Mw)]) rA) Kp)
   (az (Mem.ld xM ⟨eK, (0 + 1), none⟩) fun TO Jn Lc =>
   aF xM ⟨k1, 0, none⟩ (.int .i64 7) fun AW =>
   aF AW ⟨k1, (0 + 1), none⟩ (.int .i64 x1) fun AZ =>
   aF AZ ⟨k1, (0 + 2), none⟩ (.int .i64 n8) fun BZ =>
   aF BZ ⟨k1, (0 + 3), none⟩ (.slice TO Jn Lc) fun Al =>
   aG (Mem.ld Al ⟨k1, 0, none⟩) .i64 fun LU =>
   aG (Mem.ld Al ⟨k1, (0 + 1), none⟩) .i64 fun DH =>
   aG (Mem.ld Al ⟨k1, (0 + 2), none⟩) .i64 fun GI =>
   az (Mem.ld Al ⟨k1, (0 + 3), none⟩) fun PI Mk rD =>
   K (.agg #[(.int .i64 LU), (.int .i64 DH), (.int .i64 GI), (.slice PI Mk rD)]) Al)) Kp)
  (aG (Mem.ld tu ⟨k6, ((k7 + ((Int.toNat x1) * 3)) + 2), none⟩) .i64 fun HJ =>
  aO (HJ == 0)
   (aF tu ⟨k6, ((k7 + ((Int.toNat x1) * 3)) + 1), none⟩ (.int .i64 (-1)) fun GB =>
   b8 (Mem.ld GB ⟨b0, o0, none⟩) fun Y3 =>
   aa Tryz.prog 119 #[(.pointer Y3), (.int .i64 n8)] GB (fun Ty Jr =>
   aG (some Ty) .i64 fun Y4 =>
   aO (Y4 == 1)
    (bh Jr (.cells #[(.int .i64 n8)] 3 (0, 0)) fun PB DS =>
    aa Tryz.prog 58 #[(.pointer (some ⟨b0, (o0 + 7), none⟩)), (.slice (some ⟨PB, 0, none⟩) 1 1)] DS (fun Jo oX =>
    (Jo = (.tuple #[])) ∧
    az (Mem.ld oX ⟨eK, (0 + 1), none⟩) fun PC Tz PD =>
    aF oX ⟨k1, 0, none⟩ (.int .i64 7) fun TP =>
    aF TP ⟨k1, (0 + 1), none⟩ (.int .i64 x1) fun Y5 =>
    aF Y5 ⟨k1, (0 + 2), none⟩ (.int .i64 n8) fun Jp =>
    aF Jp ⟨k1, (0 + 3), none⟩ (.slice PC Tz PD) fun JN =>
    aG (Mem.ld JN ⟨k1, 0, none⟩) .i64 fun R0 =>
    aG (Mem.ld JN ⟨k1, (0 + 1), none⟩) .i64 fun si =>
    aG (Mem.ld JN ⟨k1, (0 + 2), none⟩) .i64 fun IY =>
    az (Mem.ld JN ⟨k1, (0 + 3), none⟩) fun Ao vl B8 =>
    K (.agg #[(.int .i64 R0), (.int .i64 si), (.int .i64 IY), (.slice Ao vl B8)]) JN) Kp)
    (az (Mem.ld Jr ⟨eK, (0 + 1), none⟩) fun Ap sD GK =>
    aF Jr ⟨k1, 0, none⟩ (.int .i64 7) fun Qv =>
    aF Qv ⟨k1, (0 + 1), none⟩ (.int .i64 x1) fun qv =>
    aF qv ⟨k1, (0 + 2), none⟩ (.int .i64 n8) fun Qw =>
    aF Qw ⟨k1, (0 + 3), none⟩ (.slice Ap sD GK) fun od =>
    aG (Mem.ld od ⟨k1, 0, none⟩) .i64 fun DI =>
    aG (Mem.ld od ⟨k1, (0 + 1), none⟩) .i64 fun IZ =>
    aG (Mem.ld od ⟨k1, (0 + 2), none⟩) .i64 fun I0 =>
    az (Mem.ld od ⟨k1, (0 + 3), none⟩) fun Qx GP Qy =>
    K (.agg #[(.int .i64 DI), (.int .i64 IZ), (.int .i64 I0), (.slice Qx GP Qy)]) od)) Kp)
   (az (Mem.ld tu ⟨eK, (0 + 1), none⟩) fun Qz QA QB =>
   aF tu ⟨k1, 0, none⟩ (.int .i64 7) fun JO =>
   aF JO ⟨k1, (0 + 1), none⟩ (.int .i64 x1) fun QC =>
   aF QC ⟨k1, (0 + 2), none⟩ (.int .i64 n8) fun QD =>
   aF QD ⟨k1, (0 + 3), none⟩ (.slice Qz QA QB) fun wP =>
   aG (Mem.ld wP ⟨k1, 0, none⟩) .i64 fun QE =>
   aG (Mem.ld wP ⟨k1, (0 + 1), none⟩) .i64 fun QF =>
   aG (Mem.ld wP ⟨k1, (0 + 2), none⟩) .i64 fun Aq =>
   az (Mem.ld wP ⟨k1, (0 + 3), none⟩) fun QG JP QH =>
   K (.agg #[(.int .i64 QE), (.int .i64 QF), (.int .i64 Aq), (.slice QG JP QH)]) wP)))) Kp) :
 aa Tryz.prog 111 ([.pointer (some ⟨b0, o0, none⟩), .int .i64 x1] : List Value).toArray M K Kp :=
 bR (C := Cx) good [(3, .bN [0, 1, 3, 7, 0, 0, 32, 96, 224, 480, 1023, 0, 4095] (.step 0 (.step 1 (.step 2 (.step 4 (.step 5 (.step 6 (.step 7 (.step 3 (.step 8 (.step 9 (.late 10 (.step 11 (.step 12 .done)))))))))))))), (2000000, .loop [(34, .c (.int .i64))]), (7, .bN [0, 1, 3, 7, 0, 16, 48, 112, 255, 511, 1023, 0, 0, 4096, 12288, 32767] (.step 0 (.step 1 (.step 2 (.step 4 (.step 5 (.step 6 (.step 11 (.step 12 (.step 13 (.step 14 (.step 3 (.step 7 (.step 8 (.step 9 (.step 10 (.step 15 .done)))))))))))))))))] Tryz.func111 (by kernel_rfl) (by kernel_rfl) h
theorem qO {b0 o0 : Nat} {b1 o1 : Nat} (h :
rP M b1 o1 fun A1 =>
aa Tryz.prog 178 #[(.pointer A1), (.pointer (some ⟨b0, (o0 + 7), none⟩))] M (fun v2 M3 =>
aG (some v2) .i64 fun n4 =>
rI M3 b1 (o1 + 1) fun n5 =>
((7 : Int) ≠ 0) ∧
aO ((Int.tmod n5 7) == 6)
 (aa Tryz.prog 179 #[(.pointer (some ⟨b0, (o0 + 7), none⟩)), (iV 1)] M3 (fun v6 M7 =>
 az (some v6) fun A8 k9 eJ =>
 aO ((k9 : Int) == 1)
 (((0 : Int) ≤ 0) ∧
 ((0 : Int) < k9) ∧
 aD A8 fun en gh =>
 rI M7 en (gh + 0) fun jN =>
 K (.tuple #[(iV jN), (.bool true)]) M7)
 (rP M7 b1 o1 fun nj =>
 aa Tryz.prog 149 #[(.pointer nj)] M7 (fun DN eZ =>
 ∃ kC : Int, ∃ t18 : Bool, (DN = (.tuple #[(iV kC), (.bool t18)])) ∧
 aO t18
 (K (.tuple #[(iV kC), (.bool true)]) eZ)
 (rP eZ b1 o1 fun AX =>
 aa Tryz.prog 180 #[(.pointer AX), (.pointer (some ⟨b0, (o0 + 7), none⟩)), (iV 0)] eZ (fun v20 uI =>
 ∃ va : Int, ∃ t23 : Bool, (v20 = (.tuple #[(iV va), (.bool t23)])) ∧
 K (.tuple #[(iV va), (.bool t23)]) uI) Kp)) Kp)) Kp)
 (rP M3 b1 o1 fun LW =>
 aa Tryz.prog 149 #[(.pointer LW)] M3 (fun Pt uN =>
 ∃ yg : Int, ∃ t28 : Bool, (Pt = (.tuple #[(iV yg), (.bool t28)])) ∧
 aO t28
 (K (.tuple #[(iV yg), (.bool true)]) uN)
 (rP uN b1 o1 fun Gt =>
 aa Tryz.prog 180 #[(.pointer Gt), (.pointer (some ⟨b0, (o0 + 7), none⟩)), (iV 0)] uN (fun v30 Of =>
 ∃ n32 : Int, ∃ t33 : Bool, (v30 = (.tuple #[(iV n32), (.bool t33)])) ∧
 K (.tuple #[(iV n32), (.bool t33)]) Of) Kp)) Kp)) Kp) :
 aa Tryz.prog 150 #[.pointer (some ⟨b0, o0, none⟩), .pointer (some ⟨b1, o1, none⟩)] M K Kp := vw [(1, .bN [0, 1, 3, 7, 0, 16, 48, 127] (sy [0, 1, 2, 4, 5, 6, 3, 7] .done)), (9, .bN [0, 1, 3, 7, 0, 16, 48, 127, 255, 255, 1023, 2047] (sy [0, 1, 2, 4, 5, 6, 3, 7, 8, 9, 10, 11] .done))] Tryz.func150 h
end Go.Proofs
namespace Go.AF
theorem cy.two : ∀ (zs : List HP) (i j : Nat), i ≠ j → i < zs.length → j < zs.length → ∃ rest, ∀ P Q, ∃ l1, cy ((zs.set i P).set j Q) P l1 ∧ cy l1 Q rest
 | [], _, _, _, h, _ => by simp at h
 | z :: zs, 0, 0, h, _, _ => absurd rfl h
 | z :: zs, 0, j + 1, _, _, hj => ⟨zs.eraseIdx j, fun P Q => ⟨zs.set j Q, by simp only [List.set_cons_zero, List.set_cons_succ]; exact .here, cy.idx (by simpa using hj)⟩⟩
 | z :: zs, i + 1, 0, _, hi, _ => ⟨zs.eraseIdx i, fun P Q => ⟨Q :: zs.eraseIdx i, by simp only [List.set_cons_zero, List.set_cons_succ]; exact .there (cy.idx (by simpa using hi)), .here⟩⟩
 | z :: zs, i + 1, j + 1, h, hi, hj => by
  obtain ⟨rest, hr⟩ := cy.two zs i j (by omega) (by simpa using hi) (by simpa using hj)
  refine ⟨z :: rest, fun P Q => ?_⟩
  obtain ⟨l1, h1, h2⟩ := hr P Q
  exact ⟨z :: l1, by simp only [List.set_cons_succ]; exact .there h1, .there h2⟩
section
variable {α : Type} {r : ru α} {R : Mem} {L L' mD : List HP} {M : Mem} {bs : List Nat} {cs : List α} {b b' i j : Nat} {c c' : α}
theorem Hp.JQ (h : Hp R L M) (r : ru α) {bs : List Nat} {cs : List α} [o : eU r L bs cs L'] (hij : i ≠ j) (hb : bs[i]? = some b) (hc : cs[i]? = some c) (hb' : bs[j]? = some b') (C4 : cs[j]? = some c') :
  ∃ X : HP, Hp R (ax r b c :: ax r b' c' :: X :: L') M ∧ ∀ {R' : Mem} {L2 : List HP} {M' : Mem} {d d' : α}, Hp R' (ax r b d :: ax r b' d' :: X :: L2) M' → Hp R' (aP r bs ((cs.set i d).set j d') :: L2) M' := by
 have hi := (List.getElem?_eq_some_iff.1 hb).1
 have hj := (List.getElem?_eq_some_iff.1 hb').1
 have JR := (List.getElem?_eq_some_iff.1 hc).1
 have Dw := (List.getElem?_eq_some_iff.1 C4).1
 have hl : (List.zipWith (ax r) bs cs).length = min bs.length cs.length := List.length_zipWith
 obtain ⟨rest, hr⟩ := cy.two (List.zipWith (ax r) bs cs) i j hij (by omega) (by omega)
 refine ⟨sep rest, ?_, ?_⟩
 ·have h0 : Hp R (sep (List.zipWith (ax r) bs cs) :: L') M := h.pick o.pick
  obtain ⟨l1, p1, p2⟩ := hr (ax r b c) (ax r b' c')
  have e : ((List.zipWith (ax r) bs cs).set i (ax r b c)).set j (ax r b' c') = List.zipWith (ax r) bs cs := by
   rw [lY hb, lY hb']
   congr 1
   obtain ⟨_, e1⟩ := List.getElem?_eq_some_iff.1 hc
   obtain ⟨_, e2⟩ := List.getElem?_eq_some_iff.1 C4
   subst e1; subst e2
   rw [List.set_getElem_self, List.set_getElem_self]
  rw [e] at p1
  refine h0.map fun A hs => ?_
  have h1 := bO.pick p1.app (bO.aQ.1 hs)
  exact h1.tail fun B K4 => (bO.pick p2.app K4).tail fun C Ob => bO.aQ.2 Ob
 ·intro R' L2 M' d d' h1
  obtain ⟨l1, p1, p2⟩ := hr (ax r b d) (ax r b' d')
  rw [lY hb, lY hb'] at p1
  show Hp R' (sep (List.zipWith (ax r) bs ((cs.set i d).set j d')) :: L2) M'
  refine h1.map fun A hs => bO.aQ.2 (bO.lS p1.app ?_)
  exact hs.tail fun B K4 => bO.lS p2.app (K4.tail fun C Ob => bO.aQ.1 Ob)
end
end Go.AF
namespace Go.Proofs
open Go.AF
set_option maxRecDepth 100000
variable {M : Mem} {K : Value → Mem → Prop} {Kp : List PanicEntry → Mem → Prop}
theorem mZ  (h :
bh M (cl [(iV 20), (iV 0), (iV 0), (iV 0), (iV 10), (iV 0), (iV 0), (iV 0)] 27) fun k1 M2 =>
bh M2 (cl [(.slice (some ⟨k1, 0, none⟩) 2 2)] 28) fun k3 M4 =>
bh M4 Gk fun k5 M6 =>
DA M6 k5 (.slice (some ⟨k3, 0, none⟩) 1 1) (.slice none 0 0) (iV 0) (.slice none 0 0) fun jL =>
II jL k5 0 fun Jd gh dH nj gI gi kC Fb iI iZ =>
bh jL Gl fun fe mE =>
aa Tryz.prog 16 #[(.slice (some ⟨fe, 0, none⟩) 4 4)] mE (fun S9 jj =>
b8 (some S9) fun LR =>
((Mem.gp jj ⟨k5, 0, none⟩ 0 4) = some [(.slice Jd gh dH), (.slice nj gI gi), (iV kC), (.slice Fb iI iZ)]) ∧
aa Tryz.prog 15 #[(.agg #[(.slice Jd gh dH), (.slice nj gI gi), (iV kC), (.slice Fb iI iZ)]), (.agg #[(iV 1), (iV 1), (iV 2), (iV 9)]), (.pointer LR)] jj (fun Pp tr =>
b8 (some Pp) fun Gu =>
((Mem.gp tr ⟨k5, 0, none⟩ 0 4) = some [(.slice Jd gh dH), (.slice nj gI gi), (iV kC), (.slice Fb iI iZ)]) ∧
aO (Option.isNone Gu)
 (K (.bool false) tr)
 (aa Tryz.prog 54 #[(.pointer Gu)] tr (fun XC wC =>
 ∃ vF n32 E6 : Int, ∃ A34 : Option Addr, ∃ yT Gv : Nat, (XC = (.agg #[(iV vF), (iV n32), (iV E6), (.slice A34 yT Gv)])) ∧
 aa Tryz.prog 54 #[(.pointer Gu)] wC (fun WE lG =>
 ∃ HI Jc PM : Int, ∃ RQ : Option Addr, ∃ yU qu : Nat, (WE = (.agg #[(iV HI), (iV Jc), (iV PM), (.slice RQ yU qu)])) ∧
 aa Tryz.prog 54 #[(.pointer Gu)] lG (fun WS Mh =>
 ∃ AV HK RY : Int, ∃ Vi : Option Addr, ∃ Mf tp : Nat, (WS = (.agg #[(iV AV), (iV HK), (iV RY), (.slice Vi Mf tp)])) ∧
 bh Mh fq fun r7 LP =>
 bh LP fq fun DR Pj =>
 bh Pj fq fun yZ Py =>
 DA Py r7 (iV vF) (iV n32) (iV E6) (.slice A34 yT Gv) fun rA =>
 DA rA DR (iV HI) (iV Jc) (iV PM) (.slice RQ yU qu) fun Mb =>
 DA Mb yZ (iV AV) (iV HK) (iV RY) (.slice Vi Mf tp) fun Ae =>
 aa Tryz.prog 54 #[(.pointer Gu)] Ae (fun v71 AW =>
 ∃ Pk Mn LS : Int, ∃ WX : Option Addr, ∃ WY Mi : Nat, (v71 = (.agg #[(iV Pk), (iV Mn), (iV LS), (.slice WX WY Mi)])) ∧
 rI AW r7 0 fun n79 =>
 aO (n79 == 2)
 (rI AW DR 0 fun Wu =>
 aO (Wu == 4)
 (rI AW DR 2 fun R7 =>
 aO (R7 == 0)
 (rI AW yZ 0 fun HJ =>
 aO (HJ == 7)
 (aa Tryz.prog 22 #[(.pointer Gu)] AW (fun v83 GF =>
 aG (some v83) .i64 fun Oh =>
 aO (Oh == 1)
 (aa Tryz.prog 35 #[(.pointer Gu)] GF (fun Y6 Jw =>
 aG (some Y6) .i64 fun n88 =>
 K (.bool (n88 == 4)) Jw) Kp)
 (K (.bool false) GF)) Kp)
 (K (.bool false) AW))
 (K (.bool false) AW))
 (K (.bool false) AW))
 (K (.bool false) AW)) Kp) Kp) Kp) Kp)) Kp) Kp) :
 aa Tryz.prog 13 #[] M K Kp := vw [(2, .bN [0, 0, 0, 4, 15, 31] (sy [1] (.fT 0 (sy [2, 3, 4, 5] .done))))] Tryz.func13 h
theorem oe {BS : Int} {BT : Int} {sq : Int} {TQ : Int} (h :
bh M (cl [(iV BS), (iV BT), (iV sq), (iV TQ)] 23) fun k1 M2 =>
bh M2 Gm fun k3 M4 =>
jy M4 k1 0 fun n5 n6 n7 n8 =>
aa Tryz.prog 55 #[(iV n5), (iV 5)] M4 (fun v9 jL =>
aG (some v9) .i64 fun gQ =>
eI jL k1 3 n8 ∧
eI jL k1 2 n7 ∧
eI jL k1 1 n6 ∧
aa Tryz.prog 55 #[(iV n6), (iV 5)] jL (fun HG kz =>
aG (some HG) .i64 fun mK =>
eI kz k1 3 n8 ∧
eI kz k1 2 n7 ∧
eI kz k1 1 n6 ∧
aa Tryz.prog 55 #[(iV n7), (iV 5)] kz (fun DN eZ =>
aG (some DN) .i64 fun kC =>
eI eZ k1 3 n8 ∧
eI eZ k1 2 n7 ∧
eI eZ k1 1 n6 ∧
aa Tryz.prog 55 #[(iV n8), (iV 12)] eZ (fun DD ku =>
aG (some DD) .i64 fun iu =>
eI ku k1 3 n8 ∧
eI ku k1 2 n7 ∧
eI ku k1 1 n6 ∧
DA ku k3 (iV (IntKind.wrap .i64 (1 + gQ))) (iV (IntKind.wrap .i64 (1 + mK))) (iV (IntKind.wrap .i64 (2 + kC))) (iV (IntKind.wrap .i64 (1 + iu))) fun jj =>
eI jj k1 3 n8 ∧
eI jj k1 2 n7 ∧
eI jj k1 1 n6 ∧
jy jj k3 0 fun tS sw yg sg =>
K (.agg #[(iV tS), (iV sw), (iV yg), (iV sg)]) jj) Kp) Kp) Kp) Kp) :
 aa Tryz.prog 14 #[.agg #[.int .i64 BS, .int .i64 BT, .int .i64 sq, .int .i64 TQ]] M K Kp := vw [(2, .bN [0, 0, 2, 7, 15, 0, 0, 64, 239, 495, 0, 0, 2048, 7663, 15855, 0, 0, 65536, 245231, 507375, 1048575, 2097151] (sy [0, 1, 5, 6, 10, 11, 15, 16, 2] (.fT 7 (.fT 12 (.fT 17 (sy [3, 4, 8, 9, 13, 14, 18, 19, 20, 21] .done))))))] Tryz.func14 h
theorem mb {x0 : Int} {x1 : Int} (h :
((x1 : Int) ≠ 0) ∧
K (iV (Int.tmod (IntKind.wrap .i64 (((Nat.bitwise and (BitVec.ofInt IntKind.i64.bits x0).toNat (BitVec.ofInt IntKind.i64.bits 255).toNat) : Nat) : Int)) x1)) M) :
 aa Tryz.prog 55 #[.int .i64 x0, .int .i64 x1] M K Kp := vw [] Tryz.func55 h
end Go.Proofs
namespace Go.Proofs
open Go.AF
set_option maxRecDepth 100000
theorem oh {b0 o0 : Nat} {M : Mem} {K : Value → Mem → Prop} {Kp : List PanicEntry → Mem → Prop} (h :
bh M (cl [(.pointer (some ⟨b0, o0, none⟩))] 33) fun k1 M2 =>
bh M2 fq fun k3 M4 =>
bh M4 fq fun k5 M6 =>
aa Tryz.prog 61 #[(.func (.func 62) #[] #[(.pointer (some ⟨k1, 0, none⟩)), (.pointer (some ⟨k5, 0, none⟩))])] M6 (fun v7 M8 =>
∃ n9 kB gQ iw jN mK : Int, (v7 = (.tuple #[(iV n9), (.agg #[(iV kB), (iV gQ), (iV iw), (iV jN), (.int .u64 mK)])])) ∧
bh M8 qo fun gI eZ =>
Wm eZ gI (iV kB) (iV gQ) (iV iw) (iV jN) (.int .u64 mK) fun uI =>
BJ uI k5 0 fun va zZ AY LR r9 zX =>
DA uI k3 (iV va) (iV zZ) (iV AY) (.slice LR r9 zX) fun Of =>
BJ Of k3 0 fun n32 E6 LZ Te Gv vH =>
K (.tuple #[(.agg #[(iV n32), (iV E6), (iV LZ), (.slice Te Gv vH)]), (iV n9)]) Of) Kp) :
 aa Tryz.prog 17 #[.pointer (some ⟨b0, o0, none⟩)] M K Kp := vw [] Tryz.func17 h
theorem gR {b0 o0 : Nat} {b1 o1 : Nat} {M : Mem} {K : Value → Mem → Prop} {Kp : List PanicEntry → Mem → Prop} (h :
rP M b0 o0 fun A1 =>
aa Tryz.prog 54 #[(.pointer A1)] M (fun v2 M3 =>
∃ n4 n5 n6 : Int, ∃ A7 : Option Addr, ∃ k8 k9 : Nat, (v2 = (.agg #[(iV n4), (iV n5), (iV n6), (.slice A7 k8 k9)])) ∧
sT M3 b1 o1 (iV n4) fun jL =>
sT jL b1 (o1 + 1) (iV n5) fun jZ =>
sT jZ b1 (o1 + 2) (iV n6) fun ry =>
sT ry b1 (o1 + 3) (.slice A7 k8 k9) fun kz =>
K (.tuple #[]) kz) Kp) :
 aa Tryz.prog 62 #[.pointer (some ⟨b0, o0, none⟩), .pointer (some ⟨b1, o1, none⟩)] M K Kp := vw [] Tryz.func62 h
theorem om {B0 : Option Addr} {m0 c0 : Nat} {B1 : Option Addr} {m1 c1 : Nat} {M : Mem} {K : Value → Mem → Prop} {Kp : List PanicEntry → Mem → Prop} (h :
aO ((m0 : Int) != (m1 : Int))
 (K (iV (-1)) M)
 (∃ I1 : IT, (∃ k2, I1 k2 [(iV 0)] M) ∧
 ∀ (k3 : Nat) (_ : Nat → Value) (n5 : Int) (M6 : Mem), (I1 k3 [(iV n5)] M6) → aO (decide (n5 < m1))
 ((0 ≤ n5) ∧
 (n5 < m0) ∧
 aD B0 fun k7 k8 =>
 (0 ≤ n5) ∧
 (n5 < m1) ∧
 aD B1 fun k9 eJ =>
 rI M6 k7 (k8 + (Int.toNat n5)) fun gQ =>
 rI M6 k9 (eJ + (Int.toNat n5)) fun iw =>
 aO (gQ != iw)
 (K (iV (-1)) M6)
 (∃ dH : Nat, (dH < k3) ∧
 I1 dH [(iV (IntKind.wrap .i64 (n5 + 1)))] M6))
 (K (iV 0) M6))) :
 aa Tryz.prog 21 #[.slice B0 m0 c0, .slice B1 m1 c1] M K Kp := vw [(2000000, .loop [(13, .c (.int .i64))]), (6, .bN [0, 0, 3, 7, 0, 0, 48, 112, 255] (sy [0, 1, 2, 4, 5, 6, 3, 7, 8] .done))] Tryz.func21 h
end Go.Proofs
namespace Go.Proofs
open Go.AF
set_option maxRecDepth 100000
set_option maxHeartbeats 1000000
attribute [local irreducible] aG cV fC b8 az e7 aD aF bh aW bG aO
theorem D0 {A B : Option Addr} {m n ca cb : Nat} {l : List Int} {R : Mem} {L : List HP} {M : Mem} {K : Value → Mem → Prop} {Kp : List PanicEntry → Mem → Prop} (h : Hp R L M) (hA : Src R L A (bB.cells l)) (hB : Src R L B (bB.cells l)) (hm : m = l.length) (hn : n = l.length) (hs : l.length ≤ 1000000000) (k : ∀ M', Hp R L M' → K (.int .i64 0) M') :
  aa Tryz.prog 21 #[.slice A m ca, .slice B n cb] M K Kp := by
 subst hm
 subst hn
 refine om ?_
 refine de.2 ⟨fun hn => absurd rfl hn, fun _ => ?_⟩
 refine ⟨fun d vs M => ∃ i : Nat, vs = [.int .i64 (i : Int)] ∧ d = l.length - i ∧ i ≤ l.length ∧ Hp R L M, ⟨_, 0, rfl, rfl, by omega, h⟩, ?_⟩
 clear h
 rintro d _ ii M ⟨i, he, hd, hi, h⟩
 simp only [List.cons.injEq, Value.int.injEq, and_true, true_and] at he
 subst he
 refine aM.2 ⟨fun hlt => ?_, fun hge => k _ h⟩
 obtain ⟨w, hw⟩ := aK (l := l) (i := i) (by omega)
 obtain ⟨b, o, rfl⟩ := hA.jY h (by omega) (by decide)
 obtain ⟨b', o', rfl⟩ := hB.jY h (by omega) (by decide)
 repeat (first|(refine aj h ?_;clear h;intro kb M h)|(refine aq h ?_;clear h;intro M h)|refine St.to h ?_|(apply Exists.intro;(repeat apply Exists.intro);refine And.intro rfl ?_)|refine au ?_|refine af ?_|refine ai ?_)
 refine bq (hA.at h (j := 0) hw rfl (by simp [bB])) ?_
 refine bq (hB.at h (j := 0) hw rfl (by simp [bB])) ?_
 refine zT (by simp) ?_
 rw [bn (by omega)]
 exact ⟨l.length - (i + 1), by omega, i + 1, rfl, rfl, by omega, h⟩
end Go.Proofs
