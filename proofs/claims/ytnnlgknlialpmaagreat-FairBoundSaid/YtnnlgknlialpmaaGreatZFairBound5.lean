/- A part of proofs about one program. -/
import Derived.Test.YtnnlgknlialpmaaGreatZFairBound4
set_option linter.unusedVariables false
namespace Go.Proofs
open Go.AF
set_option maxRecDepth 100000
set_option maxHeartbeats 1000000
attribute [local irreducible] aJ de fA cw aB dZ aF aK bh aY bA aO
def OK (R : Mem) (pa : PA) (p : b6) (b wb db : Nat) (L' : List HP) (K : Value → Mem → Prop) (Kp : List PanicEntry → Mem → Prop) (y : Sc) : g6 → Prop
 | .ev e => ∀ R' A c M', R.le R' → RS bB R' A c e.ready → Hp R' (az (e8 pa p wb db) b y :: L') M' → K (K6 e A c) M'
 | .cV l => ∀ M', Hp R (az (e8 pa p wb db) b y :: L') M' → Kp l M'
section
variable {R : Mem} {L L' L2 : List HP} {M : Mem} {K : Value → Mem → Prop} {Kp : List PanicEntry → Mem → Prop} {pa : PA} {p : b6} {b wb db : Nat} {x : Sc} {m i : Int} {a : SA}
theorem OL {A : Option Addr} {q o : Nat} {G : Nat → Nat → Prop} (e : A = some ⟨q, o, none⟩) (g : G q o) : aF A G := by subst e; exact bp g
theorem Fs {q2 k1 c : Nat} {g : Int} {kp : Bool} {A : Option Addr} {w : Wd} {d' : jB} {rest : Bool} {y : Sc} {o : g6}
  (h : Hp R (gL (dQ b wb db a x) x.gl :: az (bI pa p) wb w :: az (cJ .nilFunc) db d' :: bZ a.ap a.cp (bS a.lb x.ps) :: bj bK a.lb (x.ps.map dm.q) :: cn (some ⟨q2, 0, none⟩) a.cm x.ms :: pt k1 [.int .i64 0, .int .i64 0, .int .i64 0, .slice none 0 0] 43 :: L') M)
  (yh : RS bB R A c w.ready) (Je : a.am = some ⟨q2, 0, none⟩) (hl : a.lb.length = x.ps.length) (hpre : wC p x m) (hg : g = (ax x m).g) (hkp : kp = hU w g rest) (he : fy x m g d' w rest = some (y, o)) (k : OK R pa p b wb db L' K Kp y o) :
  ∃ t13 : Bool, ∃ oX : Option Addr, ∃ iC : Nat, ∃ fL : Nat, ((Value.agg #[.bool kp, .slice A w.ready.length c]) = (.agg #[(.bool t13), (.slice oX iC fL)])) ∧
bh M (.cells #[(.bool false), (.slice none 0 0)] 250 (0, 0)) fun fB sS =>
aK sS ⟨fB, 0, none⟩ (.bool t13) fun jD =>
aK jD ⟨fB, (0 + 1), none⟩ (.slice oX iC fL) fun vP =>
aB (Mem.ld vP ⟨fB, (0 + 1), none⟩) fun C0 gV jq =>
∃ Vi : Nat → List Value → Mem → Prop, (∃ sN : Nat, Vi sN [(.int .i64 0)] vP) ∧
∀ tP : Nat, ∀ Vj : Nat → Value, ∀ wY : Int, ∀ mK : Mem, (Vi tP [(.int .i64 wY)] mK) → aO (decide ((wY : Int) < ((gV : Nat) : Int)))
 (((0 : Int) ≤ wY) ∧
 ((wY : Int) < ((gV : Nat) : Int)) ∧
 aF C0 fun mj nI =>
 aJ (Mem.ld mK ⟨mj, (nI + (Int.toNat wY)), none⟩) .i64 fun n32 =>
 aB (Mem.ld mK ⟨b, (0 + 5), none⟩) fun Gx oW Aw =>
 aJ (Mem.ld mK ⟨q2, (m.toNat * 3), none⟩) .i64 fun yZ =>
 ((0 : Int) ≤ yZ) ∧
 ((yZ : Int) < ((oW : Nat) : Int)) ∧
 aF Gx fun jU iD =>
 cw (Mem.ld mK ⟨jU, (iD + ((Int.toNat yZ) * 3)), none⟩) fun A39 =>
 aa Tryz.prog 152 #[(.pointer A39), (.int .i64 n32), (.pointer (some ⟨b, (0 + 7), none⟩))] mK (fun Ki Az =>
 aJ (some Ki) .i64 fun y3 =>
 ∃ yQ : Nat, (yQ < tP) ∧
 Vi yQ [(.int .i64 (IntKind.wrap .i64 (wY + 1)))] Az) Kp)
 (aJ (Mem.ld mK ⟨q2, ((m.toNat * 3) + 2), none⟩) .i64 fun w8 =>
 aK mK ⟨q2, ((m.toNat * 3) + 2), none⟩ (.int .i64 (IntKind.wrap .i64 (w8 - 1))) fun tS =>
 de (Mem.ld tS ⟨fB, 0, none⟩) fun t46 =>
 aO (!t46)
  (aK tS ⟨q2, ((m.toNat * 3) + 1), none⟩ (.int .i64 (-1)) fun w7 =>
  cw (Mem.ld w7 ⟨b, 0, none⟩) fun Nv =>
  aa Tryz.prog 119 #[(.pointer Nv), (.int .i64 g)] w7 (fun Kd xZ =>
  aJ (some Kd) .i64 fun GL =>
  aO (GL == 1)
   (bh xZ (.cells #[(.int .i64 g)] 3 (0, 0)) fun qG GN =>
   aa Tryz.prog 58 #[(.pointer (some ⟨b, (0 + 7), none⟩)), (.slice (some ⟨qG, 0, none⟩) 1 1)] GN (fun NB vX =>
   (NB = (.tuple #[])) ∧
   aB (Mem.ld vX ⟨fB, (0 + 1), none⟩) fun QX C5 DO =>
   aK vX ⟨k1, 0, none⟩ (.int .i64 7) fun AB =>
   aK AB ⟨k1, (0 + 1), none⟩ (.int .i64 m) fun pI =>
   aK pI ⟨k1, (0 + 2), none⟩ (.int .i64 g) fun Au =>
   aK Au ⟨k1, (0 + 3), none⟩ (.slice QX C5 DO) fun vo =>
   aJ (Mem.ld vo ⟨k1, 0, none⟩) .i64 fun Gy =>
   aJ (Mem.ld vo ⟨k1, (0 + 1), none⟩) .i64 fun n64 =>
   aJ (Mem.ld vo ⟨k1, (0 + 2), none⟩) .i64 fun AP =>
   aB (Mem.ld vo ⟨k1, (0 + 3), none⟩) fun NC vp DR =>
   K (.agg #[(.int .i64 Gy), (.int .i64 n64), (.int .i64 AP), (.slice NC vp DR)]) vo) Kp)
   (aB (Mem.ld xZ ⟨fB, (0 + 1), none⟩) fun PL EH Km =>
   aK xZ ⟨k1, 0, none⟩ (.int .i64 7) fun SB =>
   aK SB ⟨k1, (0 + 1), none⟩ (.int .i64 m) fun AD =>
   aK AD ⟨k1, (0 + 2), none⟩ (.int .i64 g) fun EG =>
   aK EG ⟨k1, (0 + 3), none⟩ (.slice PL EH Km) fun AY =>
   aJ (Mem.ld AY ⟨k1, 0, none⟩) .i64 fun MY =>
   aJ (Mem.ld AY ⟨k1, (0 + 1), none⟩) .i64 fun EB =>
   aJ (Mem.ld AY ⟨k1, (0 + 2), none⟩) .i64 fun EN =>
   aB (Mem.ld AY ⟨k1, (0 + 3), none⟩) fun Ud Nu Ue =>
   K (.agg #[(.int .i64 MY), (.int .i64 EB), (.int .i64 EN), (.slice Ud Nu Ue)]) AY)) Kp)
  (aJ (Mem.ld tS ⟨q2, ((m.toNat * 3) + 2), none⟩) .i64 fun Gz =>
  aO (Gz == 0)
   (aK tS ⟨q2, ((m.toNat * 3) + 1), none⟩ (.int .i64 (-1)) fun C6 =>
   cw (Mem.ld C6 ⟨b, 0, none⟩) fun A84 =>
   aa Tryz.prog 119 #[(.pointer A84), (.int .i64 g)] C6 (fun Uj GP =>
   aJ (some Uj) .i64 fun YL =>
   aO (YL == 1)
    (bh GP (.cells #[(.int .i64 g)] 3 (0, 0)) fun LH EI =>
    aa Tryz.prog 58 #[(.pointer (some ⟨b, (0 + 7), none⟩)), (.slice (some ⟨LH, 0, none⟩) 1 1)] EI (fun Nt lu =>
    (Nt = (.tuple #[])) ∧
    aB (Mem.ld lu ⟨fB, (0 + 1), none⟩) fun Yp Un Ub =>
    aK lu ⟨k1, 0, none⟩ (.int .i64 7) fun PM =>
    aK PM ⟨k1, (0 + 1), none⟩ (.int .i64 m) fun PN =>
    aK PN ⟨k1, (0 + 2), none⟩ (.int .i64 g) fun QC =>
    aK QC ⟨k1, (0 + 3), none⟩ (.slice Yp Un Ub) fun Bb =>
    aJ (Mem.ld Bb ⟨k1, 0, none⟩) .i64 fun IK =>
    aJ (Mem.ld Bb ⟨k1, (0 + 1), none⟩) .i64 fun qS =>
    aJ (Mem.ld Bb ⟨k1, (0 + 2), none⟩) .i64 fun Na =>
    aB (Mem.ld Bb ⟨k1, (0 + 3), none⟩) fun za m5 EP =>
    K (.agg #[(.int .i64 IK), (.int .i64 qS), (.int .i64 Na), (.slice za m5 EP)]) Bb) Kp)
    (aB (Mem.ld GP ⟨fB, (0 + 1), none⟩) fun Dd xE Ku =>
    aK GP ⟨k1, 0, none⟩ (.int .i64 7) fun Vk =>
    aK Vk ⟨k1, (0 + 1), none⟩ (.int .i64 m) fun uu =>
    aK uu ⟨k1, (0 + 2), none⟩ (.int .i64 g) fun Vl =>
    aK Vl ⟨k1, (0 + 3), none⟩ (.slice Dd xE Ku) fun nQ =>
    aJ (Mem.ld nQ ⟨k1, 0, none⟩) .i64 fun yR =>
    aJ (Mem.ld nQ ⟨k1, (0 + 1), none⟩) .i64 fun Nd =>
    aJ (Mem.ld nQ ⟨k1, (0 + 2), none⟩) .i64 fun Nf =>
    aB (Mem.ld nQ ⟨k1, (0 + 3), none⟩) fun Vm KA Vn =>
    K (.agg #[(.int .i64 yR), (.int .i64 Nd), (.int .i64 Nf), (.slice Vm KA Vn)]) nQ)) Kp)
   (aB (Mem.ld tS ⟨fB, (0 + 1), none⟩) fun Vo GY Vp =>
   aK tS ⟨k1, 0, none⟩ (.int .i64 7) fun Vq =>
   aK Vq ⟨k1, (0 + 1), none⟩ (.int .i64 m) fun Vr =>
   aK Vr ⟨k1, (0 + 2), none⟩ (.int .i64 g) fun Vs =>
   aK Vs ⟨k1, (0 + 3), none⟩ (.slice Vo GY Vp) fun vZ =>
   aJ (Mem.ld vZ ⟨k1, 0, none⟩) .i64 fun GZ =>
   aJ (Mem.ld vZ ⟨k1, (0 + 1), none⟩) .i64 fun Vt =>
   aJ (Mem.ld vZ ⟨k1, (0 + 2), none⟩) .i64 fun De =>
   aB (Mem.ld vZ ⟨k1, (0 + 3), none⟩) fun Vu N5 Vv =>
   K (.agg #[(.int .i64 GZ), (.int .i64 Vt), (.int .i64 De), (.slice Vu N5 Vv)]) vZ))) := by
 obtain ⟨m0, m1, i0, i1, Xm, Ry, l1, l2, g0⟩ := hpre
 rw [← hg] at g0
 unfold fy at he
 split at he
 ·rename_i hc
  obtain ⟨hr, hgw⟩ := hc
  simp only [Option.some.injEq, Prod.mk.injEq] at he
  obtain ⟨Bo, tC⟩ := he
  have jF := qu m0 m1
  have m2 : m.toNat < x.ms.length := by omega
  refine ⟨_, _, _, _, rfl, ?_⟩
  refine aq h ?_
  clear h; intro fB M h
  refine au h ?_
  clear h; intro M h
  refine au h ?_
  clear h; intro M h
  refine aS h ?_
  generalize Dq : ({ x with w := w, d := d' } : Sc) = x1 at Bo tC
  have q1 : x1.ps = x.ps := by rw [← Dq]
  have Xo : x1.ms = x.ms := by rw [← Dq]
  have q3 : x1.gl = x.gl := by rw [← Dq]
  have q4 : x1.w = w := by rw [← Dq]
  have q5 : x1.d = d' := by rw [← Dq]
  have q6 : dQ b wb db a x1 = dQ b wb db a x := by rw [← Dq]
  have q7 : ax x1 m = ax x m := by rw [← Dq]; rfl
  have hf := fI (m := m) (l := w.ready) (z := x1) (by rw [q7]; exact i0) (by rw [q7, q1]; exact i1)
  rw [← q1, ← Xo, ← q3, ← q4, ← q5, ← q6] at h
  rw [← q4] at yh hgw hr
  rw [show w.ready = x1.w.ready from by rw [q4]] at Bo tC hf ⊢
  clear Dq
  have key : ∀ j, j ≤ x1.w.ready.length → ((x1.w.ready.take j).foldl (aE m) x1).ms = x1.ms ∧ ((x1.w.ready.take j).foldl (aE m) x1).ps.length = x1.ps.length ∧ ((x1.w.ready.take j).foldl (aE m) x1).w = x1.w ∧ ((x1.w.ready.take j).foldl (aE m) x1).d = x1.d ∧ ((x1.w.ready.take j).foldl (aE m) x1).c = x1.c ∧ ((x1.w.ready.take j).foldl (aE m) x1).steps = x1.steps ∧ ∀ bs, bS bs ((x1.w.ready.take j).foldl (aE m) x1).ps = bS bs x1.ps :=
   fun j _ => fI (m := m) (l := x1.w.ready.take j) (z := x1) (by rw [q7]; exact i0) (by rw [q7, q1]; exact i1)
  refine ⟨fun d vs M => ∃ j : Nat, vs = [.int .i64 (j : Int)] ∧ d = x1.w.ready.length - j ∧ j ≤ x1.w.ready.length ∧ ((x1.w.ready.take j).foldl (aE m) x1).gl.length ≤ 1000000 + 1030 * j ∧
    Hp R (gL (dQ b wb db a x1) ((x1.w.ready.take j).foldl (aE m) x1).gl :: az (bI pa p) wb x1.w :: az (cJ .nilFunc) db x1.d :: bZ a.ap a.cp (bS a.lb x1.ps) :: bj bK a.lb (((x1.w.ready.take j).foldl (aE m) x1).ps.map dm.q) :: cn (some ⟨q2, 0, none⟩) a.cm x1.ms :: zU fB kp A x1.w.ready.length c :: pt k1 [.int .i64 0, .int .i64 0, .int .i64 0, .slice none 0 0] 43 :: L') M,
   ⟨_, 0, rfl, rfl, by omega, by rw [List.take_zero, List.foldl_nil, q3]; omega, h.sub bD⟩, ?_⟩
  clear h
  rintro d _ nn M ⟨j, he3, hd, hj, Wp, h⟩
  simp only [List.cons.injEq, Value.int.injEq, and_true, true_and] at he3
  subst he3
  obtain ⟨z1, z2, z3, z4, z5, z6, z7⟩ := key j hj
  refine aM.2 ⟨fun hlt => ?_, fun hge => ?_⟩
  ·obtain ⟨rv, hrv⟩ := aP (l := x1.w.ready) (i := j) (by omega)
   refine ⟨by omega, hlt, ?_⟩
   obtain ⟨rb, ro, hrb⟩ := yh.some (by omega) (by decide)
   have ZU := yh
   rw [hrb] at ZU
   refine OL hrb ?_
   simp only [Int.toNat_natCast]
   refine aZ (Src.at (ZU.src (L := _)) h (i := j) (j := 0) hrv rfl (by simp [bB])) ?_
   have hstep : (x1.w.ready.take (j + 1)).foldl (aE m) x1 = aE m ((x1.w.ready.take j).foldl (aE m) x1) rv := by rw [dD hrv, List.foldl_append]; rfl
   generalize hz : (x1.w.ready.take j).foldl (aE m) x1 = z at h hstep z1 z2 z3 z4 z5 z6 z7 Wp
   have ZV : ax z m = ax x m := by unfold ax; rw [z1, Xo]
   have hps : z.ps.length = x.ps.length := by rw [z2, q1]
   rw [OI h]
   refine be ?_
   refine aZ (Src.at (h.src (A := some ⟨q2, 0, none⟩)) h (i := m.toNat) (j := 0) (a := ax x m) (by rw [Xo]; exact jF) rfl (by show _ = 0 + (m.toNat * 3 + 0); simp)) ?_
   refine ⟨i0, by rw [q1]; exact i1, ?_⟩
   have ZW : a.lb.length = z.ps.length := by rw [hps]; exact hl
   obtain ⟨lb, hlb, jE, hrow⟩ := qt (i := (ax x m).p) (x := z) ZW i0 (by rw [hps]; exact i1)
   rw [z7] at hrow
   obtain ⟨q, hq⟩ := h.bF (A := a.ap) (l := bS a.lb x1.ps) (by rw [kY (by rw [q1]; exact hl), q1]; omega) (by decide)
   have hs0 := (h.src (A := a.ap)) M h
   rw [hq] at hs0
   refine OL hq ?_
   refine mI (Sl.at hs0 (i := (ax x m).p.toNat * 3 + 0) (by simp) (iY.mJ (E := ql) hrow rfl)) ?_
   clear hs0
   have hqz : (z.ps.map dm.q)[(ax x m).p.toNat]? = some (ay z (ax x m).p).q := by rw [List.getElem?_map, jE]; rfl
   replace h := h.c6 bK hlb hqz
   replace h : Hp R (az bK lb (ay z (ax x m).p).q :: gL (dQ b wb db a x1) z.gl :: lM bK a.lb (z.ps.map dm.q) (ax x m).p.toNat :: az (bI pa p) wb x1.w :: az (cJ .nilFunc) db x1.d :: bZ a.ap a.cp (bS a.lb x1.ps) :: cn (some ⟨q2, 0, none⟩) a.cm x1.ms :: zU fB kp A x1.w.ready.length c :: pt k1 [.int .i64 0, .int .i64 0, .int .i64 0, .slice none 0 0] 43 :: L') M := h.sub bD
   have hbd := wm h (b := lb)
   have jT := La (q := (ay z (ax x m).p).q) (r := rv) (gl := z.gl)
   refine E6 (P := dQ b wb db a x1) zM h (by omega) ?_
   clear h; intro M h
   refine cE ?_
   replace h := h.dN bK lb hlb (by rw [List.length_map]; omega)
   refine ⟨x1.w.ready.length - (j + 1), by omega, j + 1, by rw [aV (by omega)], rfl, by omega, ?_, ?_⟩
   ·rw [hstep]
    unfold aE
    rw [ZV]
    dsimp only
    obtain ⟨b1, b2, b3⟩ := hbd
    omega
   ·rw [hstep]
    have e2 : (aE m z rv).ps.map dm.q = (z.ps.map dm.q).set (ax x m).p.toNat ((ay z (ax x m).p).q.ready rv z.gl).1 := by
     unfold aE; rw [ZV]; simp [Sc.bT, List.map_set]
    have e3 : (aE m z rv).gl = ((ay z (ax x m).p).q.ready rv z.gl).2.1 := by unfold aE; rw [ZV]
    rw [e2, e3]
    exact h.sub bD
  ·have LA : j = x1.w.ready.length := by omega
   subst LA
   rw [List.take_length] at z1 z2 z3 z4 z5 z6 z7 Wp h
   clear key hf
   generalize hrd : x1.w.ready = rd at *
   generalize hz : rd.foldl (aE m) x1 = z at h z1 z2 z3 z4 z5 z6 z7 Wp Bo tC
   have ZV : ax z m = ax x m := by unfold ax; rw [z1, Xo]
   have ez : dQ b wb db a z = dQ b wb db a x1 := by unfold dQ dY; rw [z1, z2, z5, z6]
   have ZW : a.lb.length = z.ps.length := by rw [z2, q1]; exact hl
   rw [← ez, ← z3, ← z4, ← z7, ← z1] at h
   have ZX : z.ms[m.toNat]? = some (ax z m) := qu m0 (by rw [z1, Xo]; exact m1)
   have m1z : m < z.ms.length := by rw [z1, Xo]; exact m1
   have m2z : m.toNat < z.ms.length := by omega
   rw [← ZV] at l1 l2
   refine aZ (Src.at (h.src (A := some ⟨q2, 0, none⟩)) h (i := m.toNat) (j := 2) ZX rfl (by show _ = 0 + (m.toNat * 3 + 2); omega)) ?_
   rw [cT (by omega) (by omega)]
   refine gK (E := lT) (a' := { ax z m with left := (ax z m).left - 1 }) m.toNat 2 h ZX (by decide) rfl rfl ?_
   clear h; intro M h
   replace h : Hp R (gL (dQ b wb db a z) z.gl :: az (bI pa p) wb z.w :: az (cJ .nilFunc) db z.d :: bZ a.ap a.cp (bS a.lb z.ps) :: bj bK a.lb (z.ps.map dm.q) :: cn (some ⟨q2, 0, none⟩) a.cm (z.ms.set m.toNat { ax z m with left := (ax z m).left - 1 }) :: zU fB kp A rd.length c :: pt k1 [.int .i64 0, .int .i64 0, .int .i64 0, .slice none 0 0] 43 :: L') M := h.sub bD
   refine Is h ?_
   have hgz : g < z.w.gs.length := by rw [z3]; exact hgw
   have ZY : (¬ (hU w g rest = true ∧ (ax z m).left - 1 ≠ 0)) → ∀ M', Hp R (az (e8 pa p wb db) b { z.gZ m { ax z m with left := (ax z m).left - 1, g := -1 } with gl := if (aj z.w g).st = 1 then z.gl ++ [g] else z.gl } :: L') M' → K (K6 ⟨7, m, g, rd⟩ A c) M' := by
    intro hno M' h'
    unfold Sc.gP at Bo tC
    rw [if_neg hno] at Bo tC
    dsimp only at Bo tC
    subst tC
    exact k R A c M' (Mem.le_refl _) yh (by rw [← Bo]; exact h')
   cases hk : kp with
   | false =>
    subst hk
    refine ae ?_
    exact Fq h Je ZW m0 m1z g0 hgz (by omega) (ZY (fun hc => by rw [← hkp] at hc; cases hc.1))
   | true =>
    subst hk
    refine ai ?_
    refine aZ (Src.at (h.src (A := some ⟨q2, 0, none⟩)) h (i := m.toNat) (j := 2) (a := { ax z m with left := (ax z m).left - 1 }) (by simp [m2z]) rfl (by show _ = 0 + (m.toNat * 3 + 2); omega)) ?_
    refine aR.2 ⟨fun e0 => ?_, fun e0 => ?_⟩
    ·exact Fq h Je ZW m0 m1z g0 hgz (by omega) (ZY (fun hc => hc.2 e0))
    ·refine aS h ?_
     refine qp h ?_
     clear h; intro M h
     refine qq h ?_
     unfold Sc.gP at Bo tC
     rw [if_pos ⟨hkp.symm, e0⟩] at Bo tC
     dsimp only at Bo tC
     subst tC
     refine k R A c M (Mem.le_refl _) yh ?_
     rw [← Bo]
     refine ia (a := a) (x := z.gZ m { ax z m with left := (ax z m).left - 1 }) ZW ?_
     rw [zQ]
     show Hp R (_ :: _ :: _ :: _ :: _ :: cn a.am a.cm (z.ms.set m.toNat { ax z m with left := (ax z m).left - 1 }) :: _) M
     rw [Je]
     exact h.sub bD
 ·cases he
end
section
variable {R : Mem} {L L' L2 : List HP} {M : Mem} {K : Value → Mem → Prop} {Kp : List PanicEntry → Mem → Prop} {pa : PA} {p : b6} {b wb db : Nat} {x : Sc} {m i : Int}
theorem Lb {y : Sc} {o : g6} (h : Hp R L M) [q : qm b L pa p wb db x L'] (hp : oQ R pa p) (hd : x.d.k.Ok) (he : x.run p m = some (y, o)) (k : OK R pa p b wb db L' K Kp y o) :
  aa Tryz.prog 111 #[.pointer (some ⟨b, 0, none⟩), .int .i64 m] M K Kp := by
 unfold Sc.run at he
 split at he
 ·rename_i hpre
  have ZZ := hpre
  obtain ⟨m0, m1, i0, i1, Xm, Ry, l1, l2, g0⟩ := ZZ
  split at he
  ·rename_i jN
   have zT : x.d.Ok := ⟨hd, by omega⟩
   refine tr ?_
   refine aq h ?_
   clear h
   intro k1 M h
   have h' := fx h (b := b)
   clear h
   obtain ⟨a, hl, h⟩ := h'
   have jF := qu m0 m1
   obtain ⟨q2, lO⟩ := h.bF (A := a.am) (l := x.ms) (by omega) (by decide)
   replace h : Hp R (gL (dQ b wb db a x) x.gl :: az (bI pa p) wb x.w :: az (cJ .nilFunc) db x.d :: bZ a.ap a.cp (bS a.lb x.ps) :: bj bK a.lb (x.ps.map dm.q) :: cn (some ⟨q2, 0, none⟩) a.cm x.ms :: pt k1 [.int .i64 0, .int .i64 0, .int .i64 0, .slice none 0 0] 43 :: L') M := by
    unfold iU at h
    rw [show cn a.am a.cm x.ms = cn (some ⟨q2, 0, none⟩) a.cm x.ms from by rw [lO]] at h
    exact h.sub bD
   rw [zS h]
   refine be ⟨m0, m1, ?_⟩
   refine OL lO ?_
   refine aZ (Src.at (h.src (A := some ⟨q2, 0, none⟩)) h (i := m.toNat) (j := 1) jF rfl (by show _ = 0 + (m.toNat * 3 + 1); omega)) ?_
   simp only [Nat.zero_add]
   rw [ZN h]
   refine ju ?_
   rw [show M.ld ⟨b, 8, none⟩ = some (.pointer (some ⟨db, 0, none⟩)) from Wn h]
   refine ju ⟨trivial, ?_⟩
   replace h : Hp R (az (bI pa p) wb x.w :: az (cJ .nilFunc) db x.d :: gL (dQ b wb db a x) x.gl :: bZ a.ap a.cp (bS a.lb x.ps) :: bj bK a.lb (x.ps.map dm.q) :: cn (some ⟨q2, 0, none⟩) a.cm x.ms :: pt k1 [.int .i64 0, .int .i64 0, .int .i64 0, .slice none 0 0] 43 :: L') M := h.sub bD
   generalize OM : (gL (dQ b wb db a x) x.gl :: bZ a.ap a.cp (bS a.lb x.ps) :: bj bK a.lb (x.ps.map dm.q) :: cn (some ⟨q2, 0, none⟩) a.cm x.ms :: pt k1 [.int .i64 0, .int .i64 0, .int .i64 0, .slice none 0 0] 43 :: L') = LL at h
   have hds : match asks p { x.w with ready := [] } (ax x m).g with
     | none => (az (cJ .nilFunc) db (dh x.d (asks p { x.w with ready := [] } (ax x m).g)).1 :: LL) = (az (cJ .nilFunc) db x.d :: LL)
     | some (kd, n) => iT R (.func (.func 107) #[.pointer (some ⟨db, 0, none⟩)] #[]) kd n (dh x.d (asks p { x.w with ready := [] } (ax x m).g)).2 (az (cJ .nilFunc) db x.d :: LL) (az (cJ .nilFunc) db (dh x.d (asks p { x.w with ready := [] } (ax x m).g)).1 :: LL) := by
    cases hak : asks p { x.w with ready := [] } (ax x m).g with
    | none => rfl
    | some kn =>
     obtain ⟨kd, n⟩ := kn
     rw [hak] at jN
     exact K5 zT (of_decide_eq_true jN) Ry
   have Hz : ∀ l, (dh x.d (asks p { x.w with ready := [] } (ax x m).g)).2 = .cV l → Ci l (xM l) := by
    intro l hl
    cases hak : asks p { x.w with ready := [] } (ax x m).g with
    | none => rw [hak] at hl; cases hl
    | some kn =>
     obtain ⟨kd, n⟩ := kn
     rw [hak] at hl
     exact (qw (x' := (x.d.draw kd n).1) (by rw [← hl]; rfl)).2
   generalize jO : dh x.d (asks p { x.w with ready := [] } (ax x m).g) = dd at he hds Hz
   obtain ⟨d', dr⟩ := dd
   dsimp only at he hds Hz
   cases hex : xh p x.w (ax x m).g dr with
   | none => rw [hex] at he; cases he
   | some rr =>
    obtain ⟨r, rest⟩ := rr
    rw [hex] at he
    refine K2 h hp ⟨_, _, _, rfl⟩ hex hds ?_
    cases r with
    | cV l w =>
     dsimp only at he
     simp only [Option.some.injEq, Prod.mk.injEq] at he
     obtain ⟨Bo, tC⟩ := he
     obtain ⟨Bm, hw⟩ := Cp hex
     refine ⟨xM l, Hz l Bm, ?_⟩
     intro M h
     subst tC
     refine k M ?_
     rw [← Bo]
     rw [← OM] at h
     have h9 : Hp R (gL (dQ b wb db a { x with w := w, d := d' }) x.gl :: az (bI pa p) wb w :: az (cJ .nilFunc) db d' :: bZ a.ap a.cp (bS a.lb x.ps) :: bj bK a.lb (x.ps.map dm.q) :: cn a.am a.cm x.ms :: L') M := by
      rw [show cn a.am a.cm x.ms = cn (some ⟨q2, 0, none⟩) a.cm x.ms from by rw [lO], show dQ b wb db a { x with w := w, d := d' } = dQ b wb db a x from rfl]
      exact h.sub bD
     exact ia (a := a) (x := { x with w := w, d := d' }) hl h9
    | on w =>
     intro R' A c M hle yh h
     rw [← OM] at h
     have h2 : Hp R' (gL (dQ b wb db a x) x.gl :: az (bI pa p) wb w :: az (cJ .nilFunc) db d' :: bZ a.ap a.cp (bS a.lb x.ps) :: bj bK a.lb (x.ps.map dm.q) :: cn (some ⟨q2, 0, none⟩) a.cm x.ms :: pt k1 [.int .i64 0, .int .i64 0, .int .i64 0, .slice none 0 0] 43 :: L') M := h.sub bD
     refine Fs (K := K) (Kp := Kp) (w := w) (g := (ax x m).g) (kp := hU w (ax x m).g rest) (rest := rest) h2 yh lO hl hpre rfl rfl he ?_
     cases o with
     | ev e => exact fun R2 A2 c2 M2 Wq => k R2 A2 c2 M2 (Mem.le_trans hle Wq)
     | cV l =>
      dsimp only at he
      unfold fy at he
      split at he
      ·simp only [Option.some.injEq, Prod.mk.injEq] at he; cases he.2
      ·cases he
    | eD n w =>
     intro R' A c M hle yh h
     rw [← OM] at h
     have h2 : Hp R' (gL (dQ b wb db a x) x.gl :: az (bI pa p) wb { w with end_ := 2, code := n } :: az (cJ .nilFunc) db d' :: bZ a.ap a.cp (bS a.lb x.ps) :: bj bK a.lb (x.ps.map dm.q) :: cn (some ⟨q2, 0, none⟩) a.cm x.ms :: pt k1 [.int .i64 0, .int .i64 0, .int .i64 0, .slice none 0 0] 43 :: L') M := h.sub bD
     refine Fs (K := K) (Kp := Kp) (w := { w with end_ := 2, code := n }) (g := (ax x m).g) (kp := hU { w with end_ := 2, code := n } (ax x m).g rest) (rest := rest) h2 yh lO hl hpre rfl rfl he ?_
     cases o with
     | ev e => exact fun R2 A2 c2 M2 Wq => k R2 A2 c2 M2 (Mem.le_trans hle Wq)
     | cV l =>
      dsimp only at he
      unfold fy at he
      split at he
      ·simp only [Option.some.injEq, Prod.mk.injEq] at he; cases he.2
      ·cases he
  ·cases he
 ·cases he
theorem ON {e : Ev} {o : g6} {y z : Sc} (h : ie (z, .ev e) = (y, o)) : o = .ev e ∧ y = { z with steps := z.steps + 1 } := by
 unfold ie at h; cases h; exact ⟨rfl, rfl⟩
theorem HR {y : Sc} {o : g6} (h : Hp R L M) [q : qm b L pa p wb db x L'] (hp : oQ R pa p) (hd : x.d.k.Ok) (he : x.step p = some (y, o)) (k : OK R pa p b wb db L' K Kp y o) :
  aa Tryz.prog 54 #[.pointer (some ⟨b, 0, none⟩)] M K Kp := by
 unfold Sc.step at he
 split at he
 ·rename_i hpre
  obtain ⟨Wj, hcM, hps, PT, Ry, hst0, hst1⟩ := hpre
  refine rO ?_
  refine aq h ?_
  clear h
  intro k1 M h
  refine vb h Wj ?_
  refine cE ?_
  split at he
  ·rename_i hst
   simp only [Option.some.injEq, Prod.mk.injEq] at he
   obtain ⟨Bo, tC⟩ := he
   subst Bo; subst tC
   refine eL.2 ⟨fun _ => ?_, fun hn => absurd hn hst⟩
   refine qp h ?_
   clear h; intro M h
   refine qq h ?_
   exact k R none 0 M (Mem.le_refl _) (RS.nil _ _) (h.drop.pick q.pick)
  ·rename_i hst
   refine eL.2 ⟨fun hn => absurd hn hst, fun _ => ?_⟩
   have h' := fx h (b := b)
   clear h
   obtain ⟨a, hl, h⟩ := h'
   rw [Wn h]
   refine ju ?_
   rw [ZM h]
   refine cE ?_
   have zT : x.d.Ok := ⟨hd, by omega⟩
   have hnw : IntKind.wrap .i64 (x.c.M + 1) = x.c.M + 1 := cT (by omega) (by omega)
   rw [hnw]
   replace h : Hp R (az (cJ .nilFunc) db x.d :: gL (dQ b wb db a x) x.gl :: az (bI pa p) wb x.w :: bZ a.ap a.cp (bS a.lb x.ps) :: bj bK a.lb (x.ps.map dm.q) :: cn a.am a.cm x.ms :: pt k1 [.int .i64 0, .int .i64 0, .int .i64 0, .slice none 0 0] 43 :: L') M := h.sub bD
   refine qk h zT (by omega) (by omega) ?_
   clear h
   have Z0 := lU (kind := 1) (n := x.c.M + 1) hd
   have HK : ∀ x' v, x.d.draw 1 (x.c.M + 1) = (x', .num v) → 0 ≤ v ∧ v < x.c.M + 1 ∧ x'.taken = x.d.taken ++ [(1, v)] := by
    intro x' v hv
    have := eH hd hv
    rw [show gY (x.c.M + 1) = x.c.M + 1 from by unfold gY; rw [if_neg (by omega)]] at this
    exact this
   generalize jO : x.d.draw 1 (x.c.M + 1) = dd at he Z0 HK
   obtain ⟨d', dr⟩ := dd
   have mk : ∀ {M : Mem}, Hp R (az (cJ .nilFunc) db d' :: gL (dQ b wb db a x) x.gl :: az (bI pa p) wb x.w :: bZ a.ap a.cp (bS a.lb x.ps) :: bj bK a.lb (x.ps.map dm.q) :: cn a.am a.cm x.ms :: pt k1 [.int .i64 0, .int .i64 0, .int .i64 0, .slice none 0 0] 43 :: L') M → Hp R (az (e8 pa p wb db) b { x with d := d' } :: pt k1 [.int .i64 0, .int .i64 0, .int .i64 0, .slice none 0 0] 43 :: L') M :=
    fun h => ia (a := a) (x := { x with d := d' }) hl (h.sub bD)
   cases dr with
   | cV l =>
    dsimp only at he ⊢
    simp only [Option.some.injEq, Prod.mk.injEq] at he
    obtain ⟨Bo, tC⟩ := he
    intro M h
    subst tC
    refine k M ?_
    rw [← Bo]
    exact (mk h).bV
   | num mm =>
    dsimp only at he ⊢
    obtain ⟨v0, v1, htk2⟩ := HK d' mm rfl
    intro M h
    replace h := mk h
    clear mk
    refine cE ?_
    generalize Dq : ({ x with d := d' } : Sc) = x1 at h he
    have e1 : x1.c = x.c := by rw [← Dq]
    have e2 : x1.ms = x.ms := by rw [← Dq]
    have e3 : x1.ps = x.ps := by rw [← Dq]
    have e4 : x1.d.k.Ok := by rw [← Dq]; exact Z0
    have e5 : x1.steps = x.steps := by rw [← Dq]
    clear Dq
    refine aq h ?_
    clear h; intro fM M h
    replace h : Hp R (az (e8 pa p wb db) b x1 :: pt k1 [.int .i64 0, .int .i64 0, .int .i64 0, .slice none 0 0] 43 :: pt fM [.int .i64 0, .int .i64 0, .int .i64 0, .slice none 0 0] 43 :: L') M := h.sub bD
    have fin : ∀ (R' : Mem) (A : Option Addr) (c : Nat) (M : Mem) (z : Sc) (e : Ev), R.le R' → RS bB R' A c e.ready → z.steps = x.steps → ie (z, .ev e) = (y, o) → Hp R' (az (e8 pa p wb db) b z :: pt k1 [.int .i64 0, .int .i64 0, .int .i64 0, .slice none 0 0] 43 :: pt fM [.int .i64 0, .int .i64 0, .int .i64 0, .slice none 0 0] 43 :: L') M →
      aK M ⟨fM, 0, none⟩ (.int .i64 e.kind) fun so => aK so ⟨fM, (0 + 1), none⟩ (.int .i64 e.m) fun Ay => aK Ay ⟨fM, (0 + 2), none⟩ (.int .i64 e.g) fun sr => aK sr ⟨fM, (0 + 3), none⟩ (.slice A e.ready.length c) fun AX =>
      aJ (Mem.ld AX ⟨b, (0 + 9), none⟩) .i64 fun yZ => aK AX ⟨b, (0 + 9), none⟩ (.int .i64 (IntKind.wrap .i64 (yZ + 1))) fun GO =>
      aJ (Mem.ld GO ⟨fM, 0, none⟩) .i64 fun Ka => aJ (Mem.ld GO ⟨fM, (0 + 1), none⟩) .i64 fun Kb => aJ (Mem.ld GO ⟨fM, (0 + 2), none⟩) .i64 fun DQ => aB (Mem.ld GO ⟨fM, (0 + 3), none⟩) fun Ym Qq yQ =>
      aK GO ⟨k1, 0, none⟩ (.int .i64 Ka) fun AW => aK AW ⟨k1, (0 + 1), none⟩ (.int .i64 Kb) fun tS => aK tS ⟨k1, (0 + 2), none⟩ (.int .i64 DQ) fun FV => aK FV ⟨k1, (0 + 3), none⟩ (.slice Ym Qq yQ) fun w7 =>
      aJ (Mem.ld w7 ⟨k1, 0, none⟩) .i64 fun Kk => aJ (Mem.ld w7 ⟨k1, (0 + 1), none⟩) .i64 fun Uk => aJ (Mem.ld w7 ⟨k1, (0 + 2), none⟩) .i64 fun Nl => aB (Mem.ld w7 ⟨k1, (0 + 3), none⟩) fun Qr qG sP =>
      K (.agg #[(.int .i64 Kk), (.int .i64 Uk), (.int .i64 Nl), (.slice Qr qG sP)]) w7 := by
     intro R' A c M z e hle yh hzs hinc h
     obtain ⟨ho, hy⟩ := ON hinc
     subst ho; subst hy
     refine qp h ?_
     clear h; intro M h
     have h' := fx h (b := b)
     clear h
     obtain ⟨a3, PS, h⟩ := h'
     have h' := nY h
     clear h
     obtain ⟨A4, c4, h⟩ := h'
     refine aH h ?_
     rw [cT (by omega) (by omega)]
     refine au h ?_
     clear h; intro M h
     refine qq h ?_
     refine qp h ?_
     clear h; intro M h
     refine qq h ?_
     refine k R' A c M hle yh (ia (a := a3) (x := { z with steps := z.steps + 1 }) PS ?_)
     exact yj (x := { z with steps := z.steps + 1 }) (h.sub bD)
    have h' := fx h (b := b)
    clear h
    obtain ⟨a5, hl5, h⟩ := h'
    rw [ZM h]
    refine cE ?_
    have Cm : ∀ {M : Mem}, Hp R (gL (dQ b wb db a5 x1) x1.gl :: az (bI pa p) wb x1.w :: az (cJ .nilFunc) db x1.d :: iU a5 x1 (pt k1 [.int .i64 0, .int .i64 0, .int .i64 0, .slice none 0 0] 43 :: pt fM [.int .i64 0, .int .i64 0, .int .i64 0, .slice none 0 0] 43 :: L')) M → Hp R (az (e8 pa p wb db) b x1 :: pt k1 [.int .i64 0, .int .i64 0, .int .i64 0, .slice none 0 0] 43 :: pt fM [.int .i64 0, .int .i64 0, .int .i64 0, .slice none 0 0] 43 :: L') M := fun h => ia (a := a5) hl5 h
    unfold Sc.act at he
    refine aR.2 ⟨fun em => ?_, fun em => ?_⟩
    ·rw [if_pos em] at he
     split at he
     ·rename_i Z1
      simp only [Option.map_some, Option.some.injEq] at he
      refine HL (Cm h) Z1 ?_
      clear h; intro R' A c M hle yh h
      refine ⟨_, _, _, _, _, _, rfl, ?_⟩
      exact fin R' A c M _ _ hle yh (by rw [← e5]; rfl) he h
     ·cases he
    rw [if_neg em] at he
    have mlt : mm < x1.ms.length := by
     have a1 : x1.c.M = x.c.M := by rw [e1]
     have a2 : x1.ms.length = x.ms.length := by rw [e2]
     omega
    have jF := qu v0 mlt
    obtain ⟨q2, lO⟩ := h.bF (A := a5.am) (l := x1.ms) (by omega) (by decide)
    have hs0 := (h.src (A := a5.am)) M h
    rw [lO] at hs0
    rw [zS h]
    refine be ⟨v0, mlt, ?_⟩
    refine OL lO ?_
    refine aZ (Sl.at hs0 (i := mm.toNat * 3 + 0) (by simp) (iY.mJ (E := lT) jF rfl)) ?_
    refine aR.2 ⟨fun ep => ?_, fun ep => ?_⟩
    ·rw [if_pos ep] at he
     simp only [Option.map_some, Option.some.injEq] at he
     refine HM (Cm h) v0 mlt (by rw [e3]; omega) ?_
     clear h hs0; intro M h
     have Gk : (x1.hold mm).2.ready = [] := by unfold Sc.hold; split <;> rfl
     have tH : (x1.hold mm).1.steps = x.steps := by rw [← e5]; unfold Sc.hold; split <;> rfl
     refine ⟨_, _, _, _, _, _, rfl, ?_⟩
     exact fin R none 0 M _ _ (Mem.le_refl _) (by rw [Gk]; exact RS.nil _ _) tH he h
    rw [if_neg ep] at he
    refine be ⟨v0, mlt, ?_⟩
    refine OL lO ?_
    refine aZ (Sl.at hs0 (i := mm.toNat * 3 + 1) (by simp) (iY.mJ (E := lT) jF rfl)) ?_
    clear hs0
    refine aR.2 ⟨fun eg => ?_, fun eg => ?_⟩
    ·rw [if_pos eg] at he
     split at he
     ·rename_i hfo
      simp only [Option.map_some, Option.some.injEq] at he
      have tH : (x1.find mm).1.steps = x.steps := by
       rw [← e5]
       have Ck : ∀ (z : Sc) a b c d e, (z.bg a b c d e).1.steps = z.steps := by intro z a b c d e; unfold Sc.bg; split <;> rfl
       unfold Sc.find
       dsimp only
       split
       ·rfl
       ·split
        ·split
         ·rfl
         ·split <;> exact Ck ..
        ·exact Ck ..
      have hrd : ∀ e, (x1.find mm).2 = .ev e → e.ready = [] := by
       have Ck : ∀ (z : Sc) a b c d e, (z.bg a b c d e).2.ready = [] := by intro z a b c d e; unfold Sc.bg; split <;> rfl
       intro e Gk
       unfold Sc.find at Gk
       dsimp only at Gk
       split at Gk
       ·cases Gk; rfl
       ·split at Gk
        ·split at Gk
         ·cases Gk
         ·split at Gk <;> · cases Gk; exact Ck ..
        ·cases Gk; exact Ck ..
      refine HO (Cm h) hfo e4 ?_
      clear h
      generalize J5 : x1.find mm = ff at he tH hrd ⊢
      obtain ⟨z, oo⟩ := ff
      cases oo with
      | ev e =>
       dsimp only at tH hrd ⊢
       intro M h
       refine ⟨_, _, _, _, _, _, rfl, ?_⟩
       have Xk : e.ready = [] := hrd e rfl
       exact fin R none 0 M _ e (Mem.le_refl _) (by rw [Xk]; exact RS.nil _ _) tH he h
      | cV l =>
       dsimp only
       intro M h
       unfold ie at he
       cases he
       exact k M h.bV
     ·cases he
    rw [if_neg eg] at he
    cases hrun : x1.run p mm with
    | none => rw [hrun] at he; cases he
    | some rr =>
     obtain ⟨z, oo⟩ := rr
     rw [hrun] at he
     simp only [Option.map_some, Option.some.injEq] at he
     refine Lb (Cm h) hp e4 hrun ?_
     clear h
     have tH : z.steps = x.steps := by
      rw [← e5]
      unfold Sc.run at hrun
      split at hrun
      ·rename_i Z2
       obtain ⟨_, _, i0, i1, _⟩ := Z2
       have Me : ∀ d w rest, fy x1 mm (ax x1 mm).g d w rest = some (z, oo) → z.steps = x1.steps := by
        intro d w rest Me
        unfold fy at Me
        split at Me
        ·simp only [Option.some.injEq, Prod.mk.injEq] at Me
         rw [← Me.1]
         have := fI (m := mm) w.ready { x1 with w := w, d := d } i0 i1
         unfold Sc.gP
         split <;> exact this.2.2.2.2.2.1
        ·cases Me
       split at hrun
       ·split at hrun
        ·cases hrun
        ·simp only [Option.some.injEq, Prod.mk.injEq] at hrun; rw [← hrun.1]
        ·exact Me _ _ _ hrun
        ·exact Me _ _ _ hrun
       ·cases hrun
      ·cases hrun
     cases oo with
     | ev e =>
      intro R' A c M hle yh h
      refine ⟨_, _, _, _, _, _, rfl, ?_⟩
      exact fin R' A c M _ e hle yh tH he h
     | cV l =>
      intro M h
      unfold ie at he
      cases he
      exact k M h.bV
 ·cases he
end
def Sc.new (p : b6) (c : OG) (d : jB) : Sc := ⟨Wd.new p, c, List.replicate c.P.toNat ⟨⟨-1, fR c.R, []⟩, 0, -1⟩, List.replicate c.M.toNat ⟨-1, -1, 0⟩, [0], d, 0⟩
theorem Jf : bn Tryz.prog 132 141 3 24 [.pointer none, .int .i64 0, .int .i64 0] := bn.mk' (zv := .agg #[.pointer none, .int .i64 0, .int .i64 0]) (by kernel_rfl) (by kernel_rfl) rfl (by omega)
theorem Rz : bn Tryz.prog 133 143 3 24 [.int .i64 0, .int .i64 0, .int .i64 0] := bn.mk' (zv := .agg #[.int .i64 0, .int .i64 0, .int .i64 0]) (by kernel_rfl) (by kernel_rfl) rfl (by omega)
theorem Cq {bs : List Nat} {ps : List dm} {b : Nat} {y : dm} (h : bs.length = ps.length) : bS (bs ++ [b]) (ps ++ [y]) = bS bs ps ++ [(b, y.turns, y.eV)] := by
 unfold bS; rw [List.zipWith_append h]; rfl
section
variable {R : Mem} {L L' L2 : List HP} {M : Mem} {K : Value → Mem → Prop} {Kp : List PanicEntry → Mem → Prop} {pa : PA} {p : b6} {b wb db : Nat} {x : Sc} {m i : Int}
theorem Lc {c : OG} {d : jB} (h : Hp R L M) [o : bY (cJ .nilFunc) db L d L'] (ye : RS bB R pa.c pa.cc p.eJ) (hc : p.eJ.length ≤ 1000000) (hk : 0 ≤ p.aL ∧ p.aL ≤ 1000000) (hP : 0 ≤ c.P ∧ c.P ≤ 1000000) (hM : 0 ≤ c.M ∧ c.M ≤ 1000000)
  (k : ∀ b wb M', Hp R (az (e8 pa p wb db) b (Sc.new p c d) :: L') M' → K (.pointer (some ⟨b, 0, none⟩)) M') :
  aa Tryz.prog 15 #[.agg #[.slice pa.f p.funcs.length pa.fc, .slice pa.c p.eJ.length pa.cc, .int .i64 p.aL, .slice pa.k p.cases.length pa.kc], .agg #[.int .i64 c.P, .int .i64 c.M, .int .i64 c.R, .int .i64 c.S], .pointer (some ⟨db, 0, none⟩)] M K Kp := by
 refine C8 ?_
 replace h := h.front (cJ .nilFunc) db
 refine aq h ?_
 clear h; intro k1 M h
 refine aq h ?_
 clear h; intro k3 M h
 refine aS h (aS h (aH h (aS h ?_)))
 refine aH h (aH h (aH h (aH h ?_)))
 refine KP (p := p) (pa := pa) h ye hc hk ?_
 clear h; intro wb M h
 refine ju ⟨jv (bN h) (jv (bN h) (jv (bN h) (jv (bN h) uf))), ?_⟩
 refine aq h ?_
 clear h; intro b M h
 refine aH h ?_
 replace h := ((((h.cz ql 141).ux bK).cz lT 143).cz bB 3)
 obtain ⟨nP, hnP⟩ := Int.eq_ofNat_of_zero_le hP.1
 obtain ⟨nM, hnM⟩ := Int.eq_ofNat_of_zero_le hM.1
 refine ⟨fun dd vs M => ∃ (j : Nat) (A : Option Addr) (ca : Nat) (vr : List Nat), vs = [.int .i64 (j : Int)] ∧ dd = nP - j ∧ j ≤ nP ∧ vr.length = j ∧
   Hp R (pt b [.pointer (some ⟨wb, 0, none⟩), .int .i64 c.P, .int .i64 c.M, .int .i64 c.R, .int .i64 c.S, .slice A j ca, .slice none 0 0, .slice none 0 0, .pointer (some ⟨db, 0, none⟩), .int .i64 0] 137 ::
    bZ A ca (bS vr (List.replicate j ⟨⟨-1, fR c.R, []⟩, 0, -1⟩)) :: bj bK vr (List.replicate j ⟨-1, fR c.R, []⟩) :: cn none 0 [] :: lD none 0 [] :: az (bI pa p) wb (Wd.new p) :: az (cJ .nilFunc) db d :: pt k3 [.int .i64 c.P, .int .i64 c.M, .int .i64 c.R, .int .i64 c.S] 29 :: L') M,
  ⟨_, 0, none, 0, [], rfl, rfl, by omega, rfl, h.sub bD⟩, ?_⟩
 clear h
 rintro dd _ nn M ⟨j, A, ca, vr, he, hd, hj, hlb, h⟩
 simp only [List.cons.injEq, Value.int.injEq, and_true, true_and] at he
 subst he
 refine aM.2 ⟨fun hlt => ?_, fun hge => ?_⟩
 ·have jT : (List.replicate j (⟨⟨-1, fR c.R, []⟩, 0, -1⟩ : dm)).length = j := List.length_replicate
  refine ⟨fun vs M => ∃ (A : Option Addr) (ca : Nat) (lb : Nat),
   Hp R (pt b [.pointer (some ⟨wb, 0, none⟩), .int .i64 c.P, .int .i64 c.M, .int .i64 c.R, .int .i64 c.S, .slice A (j + 1) ca, .slice none 0 0, .slice none 0 0, .pointer (some ⟨db, 0, none⟩), .int .i64 0] 137 ::
    bZ A ca (bS (vr ++ [lb]) (List.replicate (j + 1) ⟨⟨-1, fR c.R, []⟩, 0, -1⟩)) :: bj bK (vr ++ [lb]) (List.replicate (j + 1) ⟨-1, fR c.R, []⟩) :: cn none 0 [] :: lD none 0 [] :: az (bI pa p) wb (Wd.new p) :: az (cJ .nilFunc) db d :: pt k3 [.int .i64 c.P, .int .i64 c.M, .int .i64 c.R, .int .i64 c.S] 29 :: L') M, aH h ⟨?_, ?_, trivial⟩, ?_⟩
  ·refine aS h ?_
   refine Cd h ?_
   clear h; intro lb M h
   refine ju ?_
   refine aq h ?_
   clear h; intro xB M h
   refine h.gW (A := A) Jf [(lb, 0, -1)] rfl (by rw [kY (by rw [hlb, jT]), jT]) rfl (by rw [kY (by rw [hlb, jT]), jT]; simp only [List.length_singleton]; omega) ?_
   clear h; intro A' c' M h
   refine be ?_
   refine au h ?_
   clear h; intro M h
   replace h := h.kF bK lb (by rw [hlb, List.length_replicate])
   refine ⟨A', c', lb, ?_⟩
   have e1 : bS (vr ++ [lb]) (List.replicate (j + 1) (⟨⟨-1, fR c.R, []⟩, 0, -1⟩ : dm)) = bS vr (List.replicate j ⟨⟨-1, fR c.R, []⟩, 0, -1⟩) ++ [(lb, 0, -1)] := by
    rw [List.replicate_succ', Cq (by rw [hlb, jT])]
   have e2 : List.replicate (j + 1) (⟨-1, fR c.R, []⟩ : Loc) = List.replicate j ⟨-1, fR c.R, []⟩ ++ [⟨-1, fR c.R, []⟩] := List.replicate_succ'
   rw [e1, e2]
   exact h.sub bD
  ·refine Cd h ?_
   clear h; intro lb M h
   refine ju ?_
   refine aS h ?_
   refine aq h ?_
   clear h; intro xB M h
   refine h.gW (A := A) Jf [(lb, 0, -1)] rfl (by rw [kY (by rw [hlb, jT]), jT]) rfl (by rw [kY (by rw [hlb, jT]), jT]; simp only [List.length_singleton]; omega) ?_
   clear h; intro A' c' M h
   refine be ?_
   refine au h ?_
   clear h; intro M h
   replace h := h.kF bK lb (by rw [hlb, List.length_replicate])
   refine ⟨A', c', lb, ?_⟩
   have e1 : bS (vr ++ [lb]) (List.replicate (j + 1) (⟨⟨-1, fR c.R, []⟩, 0, -1⟩ : dm)) = bS vr (List.replicate j ⟨⟨-1, fR c.R, []⟩, 0, -1⟩) ++ [(lb, 0, -1)] := by
    rw [List.replicate_succ', Cq (by rw [hlb, jT])]
   have e2 : List.replicate (j + 1) (⟨-1, fR c.R, []⟩ : Loc) = List.replicate j ⟨-1, fR c.R, []⟩ ++ [⟨-1, fR c.R, []⟩] := List.replicate_succ'
   rw [e1, e2]
   exact h.sub bD
  ·clear h
   rintro _ M ⟨A', c', lb, h⟩
   rw [aV (by omega)]
   exact ⟨nP - (j + 1), by omega, j + 1, A', c', vr ++ [lb], rfl, rfl, by omega, by simp [hlb], h⟩
 have Sw : j = nP := by omega
 subst Sw
 refine aH h ?_
 refine ⟨fun dd vs M => ∃ (q : Nat) (B : Option Addr) (cb : Nat), vs = [.int .i64 (q : Int)] ∧ dd = nM - q ∧ q ≤ nM ∧
   Hp R (pt b [.pointer (some ⟨wb, 0, none⟩), .int .i64 c.P, .int .i64 c.M, .int .i64 c.R, .int .i64 c.S, .slice A j ca, .slice B q cb, .slice none 0 0, .pointer (some ⟨db, 0, none⟩), .int .i64 0] 137 ::
    bZ A ca (bS vr (List.replicate j ⟨⟨-1, fR c.R, []⟩, 0, -1⟩)) :: bj bK vr (List.replicate j ⟨-1, fR c.R, []⟩) :: cn B cb (List.replicate q ⟨-1, -1, 0⟩) :: lD none 0 [] :: az (bI pa p) wb (Wd.new p) :: az (cJ .nilFunc) db d :: pt k3 [.int .i64 c.P, .int .i64 c.M, .int .i64 c.R, .int .i64 c.S] 29 :: L') M,
  ⟨_, 0, none, 0, rfl, rfl, by omega, h.sub bD⟩, ?_⟩
 clear h
 rintro dd _ nn M ⟨q, B, cb, he, RA, hq, h⟩
 simp only [List.cons.injEq, Value.int.injEq, and_true, true_and] at he
 subst he
 refine aM.2 ⟨fun hlt => ?_, fun Wr => ?_⟩
 ·refine aS h ?_
  refine aq h ?_
  clear h; intro C5 M h
  refine h.gW (A := B) Rz [(⟨-1, -1, 0⟩ : va)] rfl (by simp) rfl (by simp; omega) ?_
  clear h; intro B' cb' M h
  refine be ?_
  refine au h ?_
  clear h; intro M h
  rw [aV (by omega)]
  have e : List.replicate q (⟨-1, -1, 0⟩ : va) ++ [⟨-1, -1, 0⟩] = List.replicate (q + 1) ⟨-1, -1, 0⟩ := List.replicate_succ'.symm
  rw [e] at h
  exact ⟨nM - (q + 1), by omega, q + 1, B', cb', rfl, rfl, by omega, h.sub bD⟩
 have hqn : q = nM := by omega
 subst hqn
 refine aq h ?_
 clear h; intro II M h
 have e0 : Sc.new p c d = ⟨Wd.new p, c, List.replicate j ⟨⟨-1, fR c.R, []⟩, 0, -1⟩, List.replicate q ⟨-1, -1, 0⟩, [0], d, 0⟩ := by
  unfold Sc.new; rw [hnP, hnM]; rfl
 have e3 : (List.replicate j (⟨⟨-1, fR c.R, []⟩, 0, -1⟩ : dm)).map dm.q = List.replicate j ⟨-1, fR c.R, []⟩ := by simp
 replace h := (h.pt II).kT (E := bB) (l := [0]) rfl
 generalize hz : (⟨Wd.new p, c, List.replicate j ⟨⟨-1, fR c.R, []⟩, 0, -1⟩, List.replicate q ⟨-1, -1, 0⟩, [0], d, 0⟩ : Sc) = z at e0
 have z1 : dY wb db ⟨A, ca, vr, B, cb⟩ z none 0 0 = [.pointer (some ⟨wb, 0, none⟩), .int .i64 c.P, .int .i64 c.M, .int .i64 c.R, .int .i64 c.S, .slice A j ca, .slice B q cb, .slice none 0 0, .pointer (some ⟨db, 0, none⟩), .int .i64 0] := by
  rw [← hz]; simp [dY]
 rw [← z1] at h
 have h2 : Hp R (pt b (dY wb db ⟨A, ca, vr, B, cb⟩ z none 0 0) 137 :: lD none 0 [] :: lD (some ⟨II, 0, none⟩) 1 [0] :: az (bI pa p) wb (Wd.new p) :: az (cJ .nilFunc) db d :: bZ A ca (bS vr (List.replicate j ⟨⟨-1, fR c.R, []⟩, 0, -1⟩)) :: bj bK vr (List.replicate j ⟨-1, fR c.R, []⟩) :: cn B cb (List.replicate q ⟨-1, -1, 0⟩) :: L') M := h.sub bD
 have h3 : Hp R (gL (dQ b wb db ⟨A, ca, vr, B, cb⟩ z) [] :: lD (some ⟨II, 0, none⟩) 1 [0] :: az (bI pa p) wb (Wd.new p) :: az (cJ .nilFunc) db d :: bZ A ca (bS vr (List.replicate j ⟨⟨-1, fR c.R, []⟩, 0, -1⟩)) :: bj bK vr (List.replicate j ⟨-1, fR c.R, []⟩) :: cn B cb (List.replicate q ⟨-1, -1, 0⟩) :: L') M := I0 (P := dQ b wb db ⟨A, ca, vr, B, cb⟩ z) h2 rfl
 clear h h2
 refine nV (P := dQ b wb db ⟨A, ca, vr, B, cb⟩ z) zM h3 (Src.row (A := some ⟨II, 0, none⟩)) rfl (by simp) ?_
 clear h3; intro M h
 refine ⟨rfl, ?_⟩
 refine k b wb M ?_
 rw [e0]
 refine ia (a := ⟨A, ca, vr, B, cb⟩) (x := z) (by rw [← hz]; simp [hlb]) ?_
 rw [← hz] at h ⊢
 unfold iU
 dsimp only at h ⊢
 rw [e3]
 exact h.sub bD
end
section
variable {p : b6} {x y : Sc} {o : g6} {m : Int}
theorem Cr {i k g : Int} {t : Bool} : (x.bg m i k g t).1.d = x.d := by unfold Sc.bg; split <;> rfl
theorem Jg {g : Int} {d : jB} {w : Wd} {rest : Bool} (h : fy x m g d w rest = some (y, o)) (i0 : 0 ≤ (ax x m).p) (i1 : (ax x m).p < x.ps.length) : y.d = d := by
 unfold fy at h
 split at h
 ·simp only [Option.some.injEq, Prod.mk.injEq] at h
  rw [← h.1]
  have := fI (m := m) w.ready { x with w := w, d := d } i0 i1
  unfold Sc.gP
  split <;> exact this.2.2.2.1
 ·cases h
end
def p18 : b6 := ⟨[[⟨20, 0, 0, 0⟩, ⟨10, 0, 0, 0⟩]], [], 0, []⟩
def x18 : Sc := Sc.new p18 ⟨1, 1, 2, 9⟩ ⟨.lE [0, 0, 0, 0] 0, []⟩
theorem en : x18.d.k.Ok := ⟨by decide, by decide, fun v hv => by simp at hv; subst hv; decide⟩
def c5 (c : OG) : OG :=
 let q := fun (x m : Int) => Int.tmod (IntKind.wrap .i64 (((Nat.bitwise and (BitVec.ofInt IntKind.i64.bits x).toNat (BitVec.ofInt IntKind.i64.bits 255).toNat) : Nat) : Int)) m
 ⟨1 + q c.P 5, 1 + q c.M 5, 2 + q c.R 5, 1 + q c.S 12⟩
theorem ym (x : Int) {m : Int} {n : Nat} (e : m = (n : Int)) (hm : 0 < n) : 0 ≤ Int.tmod (IntKind.wrap .i64 (((Nat.bitwise and (BitVec.ofInt IntKind.i64.bits x).toNat (BitVec.ofInt IntKind.i64.bits 255).toNat) : Nat) : Int)) m ∧ Int.tmod (IntKind.wrap .i64 (((Nat.bitwise and (BitVec.ofInt IntKind.i64.bits x).toNat (BitVec.ofInt IntKind.i64.bits 255).toNat) : Nat) : Int)) m < m := by
 obtain ⟨q, hq, _⟩ := mask (x := x) (y := 255) (m := 255) rfl (by omega)
 rw [hq, e, Go.AF.ud]
 have := Nat.mod_lt q hm
 omega
theorem zV (c : OG) : 1 ≤ (c5 c).P ∧ (c5 c).P ≤ 5 ∧ 1 ≤ (c5 c).M ∧ (c5 c).M ≤ 5 ∧ 2 ≤ (c5 c).R ∧ (c5 c).R ≤ 6 ∧ 1 ≤ (c5 c).S ∧ (c5 c).S ≤ 12 := by
 have a := ym c.P (m := 5) (n := 5) rfl (by omega)
 have b := ym c.M (m := 5) (n := 5) rfl (by omega)
 have d := ym c.R (m := 5) (n := 5) rfl (by omega)
 have e := ym c.S (m := 12) (n := 12) rfl (by omega)
 unfold c5
 dsimp only
 refine ⟨by omega, ?_, by omega, ?_, by omega, ?_, by omega, ?_⟩ <;> omega
section
variable {R : Mem} {L L' : List HP} {M : Mem} {K : Value → Mem → Prop} {Kp : List PanicEntry → Mem → Prop}
theorem lV {x m : Int} {n : Nat} (hm : m = (n : Int)) (hn : 0 < n) (k : K (.int .i64 (Int.tmod (IntKind.wrap .i64 (((Nat.bitwise and (BitVec.ofInt IntKind.i64.bits x).toNat (BitVec.ofInt IntKind.i64.bits 255).toNat) : Nat) : Int)) m)) M) : aa Tryz.prog 55 #[.int .i64 x, .int .i64 m] M K Kp := by
 refine nR ⟨by omega, k⟩
theorem HS {c : OG} (h : Hp R L M) (k : ∀ M', Hp R L M' → K (.agg #[.int .i64 (c5 c).P, .int .i64 (c5 c).M, .int .i64 (c5 c).R, .int .i64 (c5 c).S]) M') : aa Tryz.prog 14 #[.agg #[.int .i64 c.P, .int .i64 c.M, .int .i64 c.R, .int .i64 c.S]] M K Kp := by
 refine qb ?_
 refine aq h ?_
 clear h; intro k1 M h
 refine aq h ?_
 clear h; intro k3 M h
 refine aH h (aH h (aH h (aH h ?_)))
 refine lV (n := 5) rfl (by omega) (cE ⟨bN h, bN h, bN h, ?_⟩)
 refine lV (n := 5) rfl (by omega) (cE ⟨bN h, bN h, bN h, ?_⟩)
 refine lV (n := 5) rfl (by omega) (cE ⟨bN h, bN h, bN h, ?_⟩)
 refine lV (n := 12) rfl (by omega) (cE ⟨bN h, bN h, bN h, ?_⟩)
 have ok := zV c
 have e1 : IntKind.wrap .i64 (1 + Int.tmod (IntKind.wrap .i64 (((Nat.bitwise and (BitVec.ofInt IntKind.i64.bits c.P).toNat (BitVec.ofInt IntKind.i64.bits 255).toNat) : Nat) : Int)) 5) = (c5 c).P := cT (z := (c5 c).P) (by omega) (by omega)
 have e2 : IntKind.wrap .i64 (1 + Int.tmod (IntKind.wrap .i64 (((Nat.bitwise and (BitVec.ofInt IntKind.i64.bits c.M).toNat (BitVec.ofInt IntKind.i64.bits 255).toNat) : Nat) : Int)) 5) = (c5 c).M := cT (z := (c5 c).M) (by omega) (by omega)
 have e3 : IntKind.wrap .i64 (2 + Int.tmod (IntKind.wrap .i64 (((Nat.bitwise and (BitVec.ofInt IntKind.i64.bits c.R).toNat (BitVec.ofInt IntKind.i64.bits 255).toNat) : Nat) : Int)) 5) = (c5 c).R := cT (z := (c5 c).R) (by omega) (by omega)
 have e4 : IntKind.wrap .i64 (1 + Int.tmod (IntKind.wrap .i64 (((Nat.bitwise and (BitVec.ofInt IntKind.i64.bits c.S).toNat (BitVec.ofInt IntKind.i64.bits 255).toNat) : Nat) : Int)) 12) = (c5 c).S := cT (z := (c5 c).S) (by omega) (by omega)
 rw [e1, e2, e3, e4]
 refine au h ?_
 clear h; intro M h
 refine au h ?_
 clear h; intro M h
 refine au h ?_
 clear h; intro M h
 refine au h ?_
 clear h; intro M h
 refine ⟨bN h, bN h, bN h, aH h (aH h (aH h (aH h ?_)))⟩
 exact k _ (h.sub bD)
end
def LJ : List Value := [.int .i64 0, .int .i64 0, .int .i64 0, .int .i64 0, .int .u64 0]
inductive oS : List PanicEntry → Int → List Value → Prop
 | d1 : oS K3 1 LJ
 | d2 : oS (xM K3) 1 LJ
 | u1 (a q n k x : Int) : oS (Xl a q n k x) 2 [.int .i64 a, .int .i64 q, .int .i64 n, .int .i64 k, .int .u64 x]
 | u2 (a q n k x : Int) : oS (xM (Xl a q n k x)) 2 [.int .i64 a, .int .i64 q, .int .i64 n, .int .i64 k, .int .u64 x]
section
variable {R : Mem} {L L' L2 : List HP} {M : Mem} {K : Value → Mem → Prop} {Kp : List PanicEntry → Mem → Prop} {u0 : Value} {S : Mem → List HP → Prop} {D : Mem → List PanicEntry → List HP → Prop}
def Dy (R : Mem) (L : List HP) (u0 : Value) (S : Mem → List HP → Prop) (D : Mem → List PanicEntry → List HP → Prop) : Prop := ∀ (Q : HP) (M : Mem) (K : Value → Mem → Prop) (Kp : List PanicEntry → Mem → Prop), Hp R (Q :: L) M →
 (∀ R' L' M', S R' L' → Hp R' (Q :: L') M' → K (.tuple #[]) M') → (∀ R' l L' M', D R' l L' → Hp R' (Q :: L') M' → Kp l M') → iF Cx u0 [] M K Kp
theorem Bp {b1 b2 : Nat} (h : Hp R (pt b1 [.int .i64 0] 3 :: pt b2 LJ 97 :: L) M) (hc : Dy R L u0 S D) (hd : ∀ R' l L', D R' l L' → ∃ e vs, oS l e vs)
  (k : ∀ R' L' M', S R' L' → Hp R' (pt b1 [.int .i64 0] 3 :: pt b2 LJ 97 :: L') M' → K (.tuple #[]) M')
  (kd : ∀ R' l L' M' e vs, D R' l L' → oS l e vs → Hp R' (pt b1 [.int .i64 e] 3 :: pt b2 vs 97 :: L') M' → K (.tuple #[]) M') :
  aa Tryz.prog 116 #[u0, .pointer (some ⟨b1, 0, none⟩), .pointer (some ⟨b2, 0, none⟩)] M K Kp := by
 refine wc ?_
 refine aq h ?_
 clear h
 intro k1 M h
 refine aq h ?_
 clear h
 intro k3 M h
 refine hc (sep [pt k3 [.pointer (some ⟨b2, 0, none⟩)] _, pt k1 [.pointer (some ⟨b1, 0, none⟩)] _, pt b1 [.int .i64 0] 3, pt b2 LJ 97]) M _ _ (Hp.aX.2 h) ?_ ?_
 ·clear h
  intro R' L' M' hs h
  have h := Hp.aX.1 h
  exact ⟨rfl, KF (k R' L' M' hs h.drop.drop)⟩
 ·clear h
  intro R' l L' M hs h
  replace h := Hp.aX.1 h
  obtain ⟨e, vs, hg⟩ := hd _ _ _ hs
  have Z3 := kd R' l L'
  simp only [List.cons_append, List.nil_append, LJ] at h Z3
  clear kd k hc hd
  cases hg with
  | d1 =>
   refine G4 ?_
   repeat (first|(refine aq h ?_;clear h;intro kb M h)|(refine au h ?_;clear h;intro M h)|refine St.to h ?_|(apply Exists.intro;(repeat apply Exists.intro);refine And.intro rfl ?_)|refine av ?_|refine ae ?_|refine ai ?_)
   exact Z3 _ _ _ hs .d1 (h.sub bD)
  | d2 =>
   refine ET ?_
   repeat (first|(refine aq h ?_;clear h;intro kb M h)|(refine au h ?_;clear h;intro M h)|refine St.to h ?_|(apply Exists.intro;(repeat apply Exists.intro);refine And.intro rfl ?_)|refine av ?_|refine ae ?_|refine ai ?_)
   exact Z3 _ _ _ hs .d2 (h.sub bD)
  | u1 a q n k x =>
   refine Bj ?_
   repeat (first|(refine aq h ?_;clear h;intro kb M h)|(refine au h ?_;clear h;intro M h)|refine St.to h ?_|(apply Exists.intro;(repeat apply Exists.intro);refine And.intro rfl ?_)|refine av ?_|refine ae ?_|refine ai ?_)
   exact Z3 _ _ _ hs (.u1 a q n k x) (h.sub bD)
  | u2 a q n k x =>
   refine zg ?_
   repeat (first|(refine aq h ?_;clear h;intro kb M h)|(refine au h ?_;clear h;intro M h)|refine St.to h ?_|(apply Exists.intro;(repeat apply Exists.intro);refine And.intro rfl ?_)|refine av ?_|refine ae ?_|refine ai ?_)
   exact Z3 _ _ _ hs (.u2 a q n k x) (h.sub bD)
theorem oS.shape {l : List PanicEntry} {e : Int} {vs : List Value} (h : oS l e vs) : (e = 1 ∨ e = 2) ∧ ∃ a q n k x : Int, vs = [.int .i64 a, .int .i64 q, .int .i64 n, .int .i64 k, .int .u64 x] := by
 cases h with
 | d1 => exact ⟨.inl rfl, 0, 0, 0, 0, 0, rfl⟩
 | d2 => exact ⟨.inl rfl, 0, 0, 0, 0, 0, rfl⟩
 | u1 a q n k x => exact ⟨.inr rfl, a, q, n, k, x, rfl⟩
 | u2 a q n k x => exact ⟨.inr rfl, a, q, n, k, x, rfl⟩
theorem Dz (h : Hp R L M) (hc : Dy R L u0 S D) (hd : ∀ R' l L', D R' l L' → ∃ e vs, oS l e vs)
  (k : ∀ R' L' M', S R' L' → Hp R' L' M' → K (.tuple #[.int .i64 0, .agg #[.int .i64 0, .int .i64 0, .int .i64 0, .int .i64 0, .int .u64 0]]) M')
  (kd : ∀ R' l L' M' e a q n k x, D R' l L' → oS l e [.int .i64 a, .int .i64 q, .int .i64 n, .int .i64 k, .int .u64 x] → Hp R' L' M' → K (.tuple #[.int .i64 e, .agg #[.int .i64 a, .int .i64 q, .int .i64 n, .int .i64 k, .int .u64 x]]) M') :
  aa Tryz.prog 61 #[u0] M K Kp := by
 refine xF ?_
 refine aq h ?_
 clear h
 intro k1 M h
 refine aq h ?_
 clear h
 intro k3 M h
 refine aq h ?_
 clear h
 intro k5 M h
 repeat (refine au h ?_; clear h; intro M h)
 refine Bp (S := fun R' L2 => ∃ L', S R' L' ∧ L2 = pt k1 LJ 97 :: L') (D := fun R' l L2 => ∃ L', D R' l L' ∧ L2 = pt k1 LJ 97 :: L') (L := pt k1 LJ 97 :: L) (h.sub bD) ?_ ?_ ?_ ?_
 ·intro Q M K Kp h k1' k2
  refine hc (sep [Q, pt k1 LJ 97]) M K Kp (Hp.aX.2 h) ?_ ?_
  ·intro R' L' M' hs h
   exact k1' R' _ M' ⟨L', hs, rfl⟩ (Hp.aX.1 h)
  ·intro R' l L' M' hs h
   exact k2 R' l _ M' ⟨L', hs, rfl⟩ (Hp.aX.1 h)
 ·rintro R' l _ ⟨L', hs, _⟩
  exact hd _ _ _ hs
 ·rintro R' _ M ⟨L', hs, rfl⟩ h
  clear hc hd kd
  simp only [LJ] at h
  refine ⟨rfl, ?_⟩
  repeat (first|(refine aq h ?_;clear h;intro kb M h)|(refine au h ?_;clear h;intro M h)|refine St.to h ?_|(apply Exists.intro;(repeat apply Exists.intro);refine And.intro rfl ?_)|refine av ?_|refine ae ?_|refine ai ?_)
  exact k _ _ _ hs (h.sub bD)
 ·rintro R' l _ M e vs ⟨L', hs, rfl⟩ hg h
  obtain ⟨_, a, q, n, kk, x, rfl⟩ := hg.shape
  clear hc hd k
  simp only [LJ] at h
  refine ⟨rfl, ?_⟩
  repeat (first|(refine aq h ?_;clear h;intro kb M h)|(refine au h ?_;clear h;intro M h)|refine St.to h ?_|(apply Exists.intro;(repeat apply Exists.intro);refine And.intro rfl ?_)|refine av ?_|refine ae ?_|refine ai ?_)
  exact kd _ _ _ _ _ _ _ _ _ _ hs hg (h.sub bD)
theorem Ld {k k' : gX} {kind m : Int} {l : List PanicEntry} (h : k.next kind m = (k', .cV l)) : ∃ e vs, oS l e vs ∧ oS (xM l) e vs := by
 cases k with
 | lE t i =>
  unfold gX.next at h
  dsimp only at h
  split at h
  ·cases h; exact ⟨_, _, .d1, .d2⟩
  ·cases h
 | tape t i =>
  unfold gX.next at h
  dsimp only at h
  split at h
  ·cases h; exact ⟨_, _, .d1, .d2⟩
  ·split at h
   ·cases h; exact ⟨_, _, .u1 _ _ _ _ _, .u2 _ _ _ _ _⟩
   ·split at h
    ·cases h; exact ⟨_, _, .u1 _ _ _ _ _, .u2 _ _ _ _ _⟩
    ·cases h
theorem wD {x x' : jB} {kind n : Int} {l : List PanicEntry} (h : x.draw kind n = (x', .cV l)) : ∃ e vs, oS l e vs ∧ oS (xM l) e vs := by
 unfold jB.draw at h
 split at h
 ·cases h
 ·rename_i k' l' hn
  cases h
  exact Ld hn
theorem OO {d d' : jB} {a : Option (Int × Int)} {l : List PanicEntry} (h : dh d a = (d', .cV l)) : ∃ e vs, oS l e vs ∧ oS (xM l) e vs := by
 cases a with
 | none => cases h
 | some q => exact wD h
theorem RB {z y : Sc} {o : g6} {l : List PanicEntry} (h : ie (z, o) = (y, .cV l)) : o = .cV l := by
 cases o with
 | ev e => cases h
 | cV l' => cases h; rfl
theorem OP {p : b6} {x y : Sc} {l : List PanicEntry} (he : x.step p = some (y, .cV l)) : ∃ e vs, oS l e vs := by
 unfold Sc.step at he
 split at he
 ·split at he
  ·cases he
  ·split at he
   ·rename_i hd
    cases he
    obtain ⟨e, vs, h, _⟩ := wD hd
    exact ⟨e, vs, h⟩
   ·rename_i d' m hd
    simp only [Option.map_eq_some_iff] at he
    obtain ⟨⟨z, o⟩, ha, hi⟩ := he
    have ho := RB hi
    subst ho
    clear hi hd
    unfold Sc.act at ha
    split at ha
    ·split at ha
     ·cases ha
     ·cases ha
    ·split at ha
     ·cases ha
     ·split at ha
      ·split at ha
       ·simp only [Option.some.injEq] at ha
        unfold Sc.find at ha
        dsimp only at ha
        split at ha
        ·cases ha
        ·split at ha
         ·split at ha
          ·rename_i hd
           cases ha
           obtain ⟨e, vs, h, _⟩ := wD hd
           exact ⟨e, vs, h⟩
          ·split at ha <;> cases ha
         ·cases ha
       ·cases ha
      ·unfold Sc.run at ha
       split at ha
       ·split at ha
        ·split at ha
         ·cases ha
         ·rename_i l' w rest hex
          cases ha
          obtain ⟨Bm, _⟩ := Cp hex
          obtain ⟨e, vs, _, h⟩ := OO (d' := _) (by rw [← Bm])
          exact ⟨e, vs, h⟩
         ·unfold fy at ha
          split at ha <;> cases ha
         ·unfold fy at ha
          split at ha <;> cases ha
        ·cases ha
       ·cases ha
 ·cases he
end
theorem oa {b : Nat} : ∀ (n : Nat) (l : List Int), (∀ g ∈ l, 0 ≤ g ∧ g < (n : Int)) → (∀ g, l.count g ≤ b) → l.length ≤ b * n
 | 0, l, h, _ => by
  cases l with
  | nil => simp
  | cons a l => have := h a (by simp); omega
 | n + 1, l, h, hc => by
  have h1 : (l.filter (fun g => g != (n : Int))).length ≤ b * n := by
   refine oa n _ (fun g hg => ?_) (fun g => ?_)
   ·obtain ⟨hm, hne⟩ := List.mem_filter.1 hg
    have := h g hm
    simp at hne
    omega
   ·exact Nat.le_trans (List.Sublist.count_le _ List.filter_sublist) (hc g)
  have h2 : l.length = l.count (n : Int) + (l.filter (fun g => g != (n : Int))).length := by
   have := List.length_eq_countP_add_countP (l := l) (fun g => g == (n : Int))
   rw [this, List.count, List.countP_eq_length_filter (p := fun a => decide ¬(a == (n : Int)) = true)]
   congr 2
   apply List.filter_congr
   intro a _
   cases h : (a == (n : Int)) <;> simp_all
  have := hc (n : Int)
  rw [h2, Nat.mul_succ]; omega
theorem lW {α : Type} (f : α → Nat) : ∀ (l : List α) (k : Nat) (c d : α), l[k]? = some d → ((l.set k c).map f).sum + f d = (l.map f).sum + f c
 | [], k, c, d, h => by simp at h
 | a :: l, 0, c, d, h => by simp at h; subst h; simp; omega
 | a :: l, k + 1, c, d, h => by
  have := lW f l k c d (by simpa using h)
  simp only [List.set_cons_succ, List.map_cons, List.sum_cons]; omega
theorem zW {α : Type} (f : α → Nat) : ∀ (l : List α), (l.map f).sum = 0 → ∀ a ∈ l, f a = 0
 | [], _, a, h => by cases h
 | b :: l, hs, a, h => by
  simp only [List.map_cons, List.sum_cons] at hs
  rcases List.mem_cons.1 h with rfl | h
  ·omega
  ·exact zW f l (by omega) a h
theorem zX {α : Type} (f : α → Nat) : ∀ (l : List α) (a : α), a ∈ l → f a ≤ (l.map f).sum
 | b :: l, a, h => by
  simp only [List.map_cons, List.sum_cons]
  rcases List.mem_cons.1 h with rfl | h
  ·omega
  ·have := zX f l a h; omega
theorem qx {α : Type} (f : α → Nat) : ∀ (l : List α), (∀ a ∈ l, f a = 0) → (l.map f).sum = 0
 | [], _ => rfl
 | b :: l, h => by
  simp only [List.map_cons, List.sum_cons]
  rw [h b (by simp), qx f l fun a ha => h a (by simp [ha])]
def cR (c : aT) : List Int := c.snd.map Wt.g ++ c.eC.map Wt.g
def bW (cs : List aT) (g : Int) : Nat := (cs.map fun c => (cR c).count g).sum
def gM (ls : List Lk) (g : Int) : Nat := (ls.map fun l => l.waits.count g).sum
def DA (hl : List bz) (g : Int) : Nat := (hl.map bz.id).count g
def ni (x : Wd) (g : Int) : Prop := (∀ c ∈ x.aD, g ∉ cR c) ∧ (∀ l ∈ x.aL, g ∉ l.waits) ∧ ∀ y ∈ x.hl, y.id ≠ g
theorem ve {cs : List aT} {g : Int} : bW cs g = 0 ↔ ∀ c ∈ cs, g ∉ cR c := by
 constructor
 ·intro h c hc
  exact List.count_eq_zero.1 (zW _ cs h c hc)
 ·intro h
  exact qx _ cs fun c hc => List.count_eq_zero.2 (h c hc)
theorem yn {ls : List Lk} {g : Int} : gM ls g = 0 ↔ ∀ l ∈ ls, g ∉ l.waits := by
 constructor
 ·intro h c hc
  exact List.count_eq_zero.1 (zW _ ls h c hc)
 ·intro h
  exact qx _ ls fun c hc => List.count_eq_zero.2 (h c hc)
def At (x : Wd) (g s : Int) : Prop := 0 ≤ g ∧ g < x.gs.length ∧ (aj x g).st = s
def jX (p : b6) (f : List cH) (i : cH) : Prop := 0 ≤ i.op ∧ i.op < 23 ∧ i.cv ∧ (i.op = 7 → 0 ≤ i.a ∧ i.a < f.length) ∧ (i.op = 8 → 0 ≤ i.b ∧ i.b < f.length) ∧
 (i.op = 9 ∨ i.op = 11 → 0 ≤ i.a ∧ i.a < p.funcs.length ∧ aU i.b ∧ aU i.c) ∧ (i.op = 10 ∨ i.op = 17 ∨ i.op = 20 ∨ i.op = 21 → aU i.a) ∧
 (i.op = 13 ∨ i.op = 14 ∨ i.op = 15 → 0 ≤ i.a ∧ i.a < p.eJ.length) ∧ (i.op = 13 ∨ i.op = 14 → aU i.b) ∧ (i.op = 14 ∨ i.op = 16 → aU i.c) ∧
 (i.op = 16 → 0 ≤ i.a ∧ 1 ≤ i.b ∧ i.a + i.b ≤ p.cases.length) ∧ (i.op = 18 ∨ i.op = 19 → 0 ≤ i.a ∧ i.a < p.aL) ∧ (i.op = 21 → 1 ≤ i.b ∧ i.b < 1099511627776)
structure dn (p : b6) : Prop where
 f1 : 0 < p.funcs.length
 ch : p.eJ.length ≤ 8
 lk : 0 ≤ p.aL ∧ p.aL ≤ 8
 cs : p.cases.length ≤ 32
 cas : ∀ c ∈ p.cases, c.Ok p.eJ.length ∧ aU c.bR
 code : ∀ f ∈ p.funcs, 0 < f.length ∧ f.length ≤ 64 ∧ ∀ i ∈ f, jX p f i
def Ft (p : b6) (f : gQ) : Prop := 0 ≤ f.fn ∧ f.fn < p.funcs.length ∧ 0 ≤ f.pc ∧ f.pc ≤ 64 ∧ aU f.qU
structure oT (p : b6) (y : jo) : Prop where
 l1 : 0 < y.fs.length
 l2 : y.fs.length ≤ 16
 fr : ∀ f ∈ y.fs, Ft p f
 wt : y.st = 2 → ∃ f ∈ p.funcs, jX p f y.wt
 st : 1 ≤ y.st ∧ y.st ≤ 4
structure WV (p : b6) (x : Wd) : Prop where
 n1 : 0 < x.gs.length
 n2 : x.gs.length ≤ 100
 Fu : ∀ y ∈ x.gs, oT p y
 ch : x.aD.length = p.eJ.length
 lk : (x.aL.length : Int) = p.aL
 buf : ∀ c ∈ x.aD, c.buf.length ≤ c.room ∧ c.room ≤ 16
 eC : ∀ c ∈ x.aD, ∀ v ∈ c.eC, At x v.g 2 ∧ ((aj x v.g).wt.op = 14 ∨ (aj x v.g).wt.op = 16 ∧ 0 ≤ v.cs ∧ v.cs < (aj x v.g).wt.b)
 snd : ∀ c ∈ x.aD, ∀ v ∈ c.snd, At x v.g 2 ∧ ((aj x v.g).wt.op = 13 ∨ (aj x v.g).wt.op = 16 ∧ 0 ≤ v.cs ∧ v.cs < (aj x v.g).wt.b)
 lw : ∀ l ∈ x.aL, ∀ g ∈ l.waits, At x g 2 ∧ (aj x g).wt.op = 18
 hl : ∀ y ∈ x.hl, At x y.id 3
 one : ∀ g, 0 ≤ g → (aj x g).wt.op ≠ 16 → bW x.aD g + gM x.aL g ≤ 1
 Dl : ∀ g, bW x.aD g ≤ 32
 h1 : ∀ g, DA x.hl g ≤ 1
 out : x.out.length ≤ 1000
section
variable {p : b6} {x : Wd} {g : Int}
theorem WV.RC (h : WV p x) {c : aT} (hc : c ∈ x.aD) {q : Int} (hq : q ∈ cR c) : At x q 2 ∧ ((aj x q).wt.op = 13 ∨ (aj x q).wt.op = 14 ∨ (aj x q).wt.op = 16) := by
 unfold cR at hq
 rcases List.mem_append.1 hq with hq | hq
 ·obtain ⟨v, hv, rfl⟩ := List.mem_map.1 hq
  obtain ⟨a, b⟩ := h.snd c hc v hv
  exact ⟨a, by rcases b with b | b; exact .inl b; exact .inr (.inr b.1)⟩
 ·obtain ⟨v, hv, rfl⟩ := List.mem_map.1 hq
  obtain ⟨a, b⟩ := h.eC c hc v hv
  exact ⟨a, by rcases b with b | b; exact .inr (.inl b); exact .inr (.inr b.1)⟩
theorem WV.free (h : WV p x) (h2 : (aj x g).st ≠ 2) (h3 : (aj x g).st ≠ 3) : ni x g :=
 ⟨fun c hc hg => h2 (h.RC hc hg).1.2.2, fun l hl hg => h2 (h.lw l hl g hg).1.2.2, fun y hy e => h3 (by have := (h.hl y hy).2.2; rwa [e] at this)⟩
theorem WV.Jh (h : WV p x) {c : aT} (hc : c ∈ x.aD) : (cR c).length ≤ 3200 := by
 have h1 := oa (b := 32) x.gs.length (cR c) (fun q hq => ⟨(h.RC hc hq).1.1, (h.RC hc hq).1.2.1⟩) (fun q => Nat.le_trans (zX (fun c => (cR c).count q) x.aD c hc) (h.Dl q))
 have := h.n2
 omega
theorem WV.Ws (h : WV p x) {l : Lk} (hl : l ∈ x.aL) : l.waits.length ≤ 100 := by
 have h1 := oa (b := 1) x.gs.length l.waits (fun q hq => ⟨(h.lw l hl q hq).1.1, (h.lw l hl q hq).1.2.1⟩) (fun q => by
  by_cases hq : q ∈ l.waits
  ·have := h.one q (h.lw l hl q hq).1.1 (by rw [(h.lw l hl q hq).2]; decide)
   have := zX (fun l : Lk => l.waits.count q) x.aL l hl
   unfold gM at *
   omega
  ·rw [List.count_eq_zero.2 hq]; omega)
 have := h.n2
 omega
theorem WV.Ji (h : WV p x) : x.hl.length ≤ 100 := by
 have h1 := oa (b := 1) x.gs.length (x.hl.map bz.id) (fun q hq => by
  obtain ⟨y, hy, rfl⟩ := List.mem_map.1 hq
  exact ⟨(h.hl y hy).1, (h.hl y hy).2.1⟩) h.h1
 rw [List.length_map] at h1
 have := h.n2
 omega
theorem WV.sm (h : WV p x) (hp : dn p) (hr : x.ready.length ≤ 1000000) : x.Sm := by
 refine ⟨fun c hc => ?_, by have := h.ch; have := hp.ch; omega, by have := h.n2; omega, hr, by have := h.out; omega, fun l hl => by have := h.Ws hl; omega, by have := h.lk; have := hp.lk; omega, by have := h.Ji; omega⟩
 have h1 := h.Jh hc
 unfold cR at h1
 rw [List.length_append, List.length_map, List.length_map] at h1
 have := h.buf c hc
 exact ⟨by omega, by omega, by omega⟩
end
section
variable {p : b6} {x y : Wd} {g q k v : Int} {f : List cH} {i : cH}
theorem ig {z : jo} (hg : g < x.gs.length) (h0 : 0 ≤ g) : aj (x.bu g z) q = if q.toNat = g.toNat then z else aj x q := by
 unfold aj Wd.bu
 dsimp only
 by_cases e : q.toNat = g.toNat
 ·rw [if_pos e, e]
  simp [List.getD_eq_getElem?_getD, List.getElem?_set_self (show g.toNat < x.gs.length by omega)]
 ·rw [if_neg e, List.getD_eq_getElem?_getD, List.getD_eq_getElem?_getD, List.getElem?_set_ne (Ne.symm e)]
theorem wE (h0 : 0 ≤ g) (hg : g < x.gs.length) : aj x g ∈ x.gs := by
 unfold aj
 rw [List.getD_eq_getElem?_getD, List.getElem?_eq_getElem (by omega), Option.getD_some]
 exact List.getElem_mem _
theorem WV.congr (h : WV p x) (hl : y.gs.length = x.gs.length) (hst : ∀ q, (aj y q).st = (aj x q).st ∧ (aj y q).wt = (aj x q).wt) (hg : ∀ z ∈ y.gs, oT p z) (e1 : y.aD = x.aD) (e2 : y.aL = x.aL) (e3 : y.hl = x.hl) (e4 : y.out.length ≤ 1000) : WV p y := by
 have at_ : ∀ q s, At x q s → At y q s := fun q s ha => ⟨ha.1, by rw [hl]; exact ha.2.1, by rw [(hst q).1]; exact ha.2.2⟩
 refine ⟨by rw [hl]; exact h.n1, by rw [hl]; exact h.n2, hg, by rw [e1]; exact h.ch, by rw [e2]; exact h.lk, by rw [e1]; exact h.buf, ?_, ?_, ?_, ?_, ?_, by rw [e1]; exact h.Dl, by rw [e3]; exact h.h1, e4⟩
 ·intro c hc v hv
  rw [e1] at hc
  rw [(hst v.g).2]
  exact ⟨at_ _ _ (h.eC c hc v hv).1, (h.eC c hc v hv).2⟩
 ·intro c hc v hv
  rw [e1] at hc
  rw [(hst v.g).2]
  exact ⟨at_ _ _ (h.snd c hc v hv).1, (h.snd c hc v hv).2⟩
 ·intro l hl q hq
  rw [e2] at hl
  rw [(hst q).2]
  exact ⟨at_ _ _ (h.lw l hl q hq).1, (h.lw l hl q hq).2⟩
 ·intro z hz
  rw [e3] at hz
  exact at_ _ _ (h.hl z hz)
 ·intro q h0 hq
  rw [(hst q).2] at hq
  rw [e1, e2]
  exact h.one q h0 hq
theorem zY {l : List jo} {n : Nat} {z w : jo} (h : w ∈ l.set n z) : w ∈ l ∨ w = z := List.mem_or_eq_of_mem_set h
theorem WV.bu (h : WV p x) (h0 : 0 ≤ g) (hg : g < x.gs.length) {z : jo} (hz : oT p z) (e1 : z.st = (aj x g).st) (e2 : z.wt = (aj x g).wt) : WV p (x.bu g z) := by
 refine h.congr (by simp [Wd.bu]) (fun q => ?_) (fun w hw => ?_) rfl rfl rfl h.out
 ·rw [ig hg h0]
  split
  ·rename_i e
   have : aj x q = aj x g := by unfold aj; rw [e]
   rw [this]; exact ⟨e1, e2⟩
  ·exact ⟨rfl, rfl⟩
 ·rcases zY hw with hw | rfl
  ·exact h.Fu w hw
  ·exact hz
theorem WV.ready (h : WV p x) {r : List Int} : WV p { x with ready := r } := h.congr rfl (fun _ => ⟨rfl, rfl⟩) h.Fu rfl rfl rfl h.out
theorem WV.fin (h : WV p x) {e c : Int} : WV p { x with end_ := e, code := c } := h.congr rfl (fun _ => ⟨rfl, rfl⟩) h.Fu rfl rfl rfl h.out
theorem WV.Jj (h : WV p x) (h0 : 0 ≤ g) (hg : g < x.gs.length) (hf : ni x g) {z : jo} (hz : oT p z) : WV p (x.bu g z) := by
 have ne : ∀ q, 0 ≤ q → q ≠ g → aj (x.bu g z) q = aj x q := fun q q0 hq => by rw [ig hg h0, if_neg (by omega)]
 have at_ : ∀ q s, q ≠ g → At x q s → At (x.bu g z) q s := fun q s hq ha => ⟨ha.1, by simpa [Wd.bu] using ha.2.1, by rw [ne q ha.1 hq]; exact ha.2.2⟩
 refine ⟨by simpa [Wd.bu] using h.n1, by simpa [Wd.bu] using h.n2, fun w hw => ?_, h.ch, h.lk, h.buf, ?_, ?_, ?_, ?_, ?_, h.Dl, h.h1, h.out⟩
 ·rcases zY hw with hw | rfl
  ·exact h.Fu w hw
  ·exact hz
 ·intro c hc v hv
  have hne : v.g ≠ g := fun e => hf.1 c hc (by rw [← e]; exact List.mem_append_right _ (List.mem_map.2 ⟨v, hv, rfl⟩))
  obtain ⟨a, b⟩ := h.eC c hc v hv
  rw [ne _ a.1 hne]
  exact ⟨at_ _ _ hne a, b⟩
 ·intro c hc v hv
  have hne : v.g ≠ g := fun e => hf.1 c hc (by rw [← e]; exact List.mem_append_left _ (List.mem_map.2 ⟨v, hv, rfl⟩))
  obtain ⟨a, b⟩ := h.snd c hc v hv
  rw [ne _ a.1 hne]
  exact ⟨at_ _ _ hne a, b⟩
 ·intro l hl q hq
  have hne : q ≠ g := fun e => hf.2.1 l hl (by rw [← e]; exact hq)
  obtain ⟨a, b⟩ := h.lw l hl q hq
  rw [ne _ a.1 hne]
  exact ⟨at_ _ _ hne a, b⟩
 ·intro w hw
  have hne : w.id ≠ g := hf.2.2 w hw
  exact at_ _ _ hne (h.hl w hw)
 ·intro q q0 hq
  by_cases e : q = g
  ·subst e
   have a := ve.2 hf.1
   have b := yn.2 hf.2.1
   show bW x.aD q + gM x.aL q ≤ 1
   omega
  ·rw [ne q q0 e] at hq
   exact h.one q q0 hq
theorem oT.OQ {z : jo} (h : oT p z) {s : Int} (h1 : s ≠ 2) (h2 : 1 ≤ s ∧ s ≤ 4) : oT p { z with st := s } := ⟨h.l1, h.l2, h.fr, fun e => absurd e h1, h2⟩
theorem WV.eZ (h : WV p x) (h0 : 0 ≤ g) (hg : g < x.gs.length) (hf : ni x g) : WV p (x.eZ g) :=
 WV.ready (h.Jj h0 hg hf ((h.Fu _ (wE h0 hg)).OQ (by decide) (by decide)))
theorem WV.block (h : WV p x) (ha : At x g 1) (hf : f ∈ p.funcs) (hi : jX p f i) : WV p (x.block g i) := by
 have hz := h.Fu _ (wE ha.1 ha.2.1)
 exact h.Jj ha.1 ha.2.1 (h.free (by rw [ha.2.2]; decide) (by rw [ha.2.2]; decide)) ⟨hz.l1, hz.l2, hz.fr, fun _ => ⟨f, hf, hi⟩, by show (1 : Int) ≤ 2 ∧ (2 : Int) ≤ 4; decide⟩
theorem js {α : Type} {l : List α} {n : Nat} {a b : α} (h : b ∈ l.set n a) : b ∈ l ∨ b = a := List.mem_or_eq_of_mem_set h
theorem WV.less (h : WV p x) {c c' : aT} (hc : x.aD[k.toNat]? = some c) (hb : c'.buf.length ≤ c'.room ∧ c'.room ≤ 16) (hr : ∀ v ∈ c'.eC, v ∈ c.eC) (hs : ∀ v ∈ c'.snd, v ∈ c.snd) (hn : ∀ q, (cR c').count q ≤ (cR c).count q) : WV p (x.b9 k c') := by
 have hm : c ∈ x.aD := List.mem_of_getElem? hc
 have OR : ∀ q, bW (x.aD.set k.toNat c') q ≤ bW x.aD q := by
  intro q
  have := lW (fun c : aT => (cR c).count q) x.aD k.toNat c' c hc
  have := hn q
  unfold bW
  omega
 refine ⟨h.n1, h.n2, h.Fu, by simpa [Wd.b9] using h.ch, h.lk, ?_, ?_, ?_, h.lw, h.hl, ?_, ?_, h.h1, h.out⟩
 ·intro d hd
  rcases js hd with hd | rfl
  ·exact h.buf d hd
  ·exact hb
 ·intro d hd v hv
  rcases js hd with hd | rfl
  ·exact h.eC d hd v hv
  ·exact h.eC c hm v (hr v hv)
 ·intro d hd v hv
  rcases js hd with hd | rfl
  ·exact h.snd d hd v hv
  ·exact h.snd c hm v (hs v hv)
 ·intro q q0 hq
  have := h.one q q0 hq
  have := OR q
  show bW (x.aD.set k.toNat c') q + gM x.aL q ≤ 1
  omega
 ·intro q
  exact Nat.le_trans (OR q) (h.Dl q)
theorem WV.more (h : WV p x) {c c' : aT} {w : Wt} (hc : x.aD[k.toNat]? = some c) (hb : c'.buf.length ≤ c'.room ∧ c'.room ≤ 16)
  (hr : ∀ v ∈ c'.eC, v ∈ c.eC ∨ v = w ∧ At x w.g 2 ∧ ((aj x w.g).wt.op = 14 ∨ (aj x w.g).wt.op = 16 ∧ 0 ≤ w.cs ∧ w.cs < (aj x w.g).wt.b))
  (hs : ∀ v ∈ c'.snd, v ∈ c.snd ∨ v = w ∧ At x w.g 2 ∧ ((aj x w.g).wt.op = 13 ∨ (aj x w.g).wt.op = 16 ∧ 0 ≤ w.cs ∧ w.cs < (aj x w.g).wt.b))
  (hn : ∀ q, (cR c').count q ≤ (cR c).count q + (if q = w.g then 1 else 0)) (hz : (aj x w.g).wt.op ≠ 16 → bW x.aD w.g + gM x.aL w.g = 0) (h32 : bW x.aD w.g < 32) : WV p (x.b9 k c') := by
 have hm : c ∈ x.aD := List.mem_of_getElem? hc
 have OR : ∀ q, bW (x.aD.set k.toNat c') q ≤ bW x.aD q + (if q = w.g then 1 else 0) := by
  intro q
  have := lW (fun c : aT => (cR c).count q) x.aD k.toNat c' c hc
  have := hn q
  unfold bW
  omega
 refine ⟨h.n1, h.n2, h.Fu, by simpa [Wd.b9] using h.ch, h.lk, ?_, ?_, ?_, h.lw, h.hl, ?_, ?_, h.h1, h.out⟩
 ·intro d hd
  rcases js hd with hd | rfl
  ·exact h.buf d hd
  ·exact hb
 ·intro d hd v hv
  rcases js hd with hd | rfl
  ·exact h.eC d hd v hv
  ·rcases hr v hv with hv | ⟨rfl, hv⟩
   ·exact h.eC c hm v hv
   ·exact hv
 ·intro d hd v hv
  rcases js hd with hd | rfl
  ·exact h.snd d hd v hv
  ·rcases hs v hv with hv | ⟨rfl, hv⟩
   ·exact h.snd c hm v hv
   ·exact hv
 ·intro q q0 hq
  have a := OR q
  show bW (x.aD.set k.toNat c') q + gM x.aL q ≤ 1
  by_cases e : q = w.g
  ·subst e
   have := hz hq
   rw [if_pos rfl] at a
   omega
  ·have := h.one q q0 hq
   rw [if_neg e] at a
   omega
 ·intro q
  have a := OR q
  show bW (x.aD.set k.toNat c') q ≤ 32
  by_cases e : q = w.g
  ·subst e
   rw [if_pos rfl] at a
   omega
  ·have := h.Dl q
   rw [if_neg e] at a
   omega
end
section
variable {p : b6} {x y : Wd} {g q k n : Int} {f : List cH} {i : cH} {v : Wt}
theorem OS {α : Type} (f g : α → Nat) : ∀ (l : List α), (∀ a ∈ l, f a ≤ g a) → (l.map f).sum ≤ (l.map g).sum
 | [], _ => Nat.le_refl _
 | b :: l, h => by
  simp only [List.map_cons, List.sum_cons]
  have := h b (by simp)
  have := OS f g l fun a ha => h a (by simp [ha])
  omega
theorem zZ (c : aT) : cR (c.drop g) = (cR c).filter (fun q => q != g) := by
 unfold cR aT.drop wo
 simp only [List.filter_append, List.filter_map]
 rfl
theorem Fv (cs : List aT) (q : Int) : bW (cs.map fun c => c.drop g) q ≤ bW cs q := by
 unfold bW
 rw [List.map_map]
 refine OS _ _ cs fun c _ => ?_
 show (cR (c.drop g)).count q ≤ _
 rw [zZ]
 exact List.Sublist.count_le _ List.filter_sublist
theorem WV.leave (h : WV p x) : WV p (x.leave g) := by
 refine ⟨h.n1, h.n2, h.Fu, by simpa [Wd.leave] using h.ch, h.lk, ?_, ?_, ?_, h.lw, h.hl, ?_, ?_, h.h1, h.out⟩
 ·intro d hd
  obtain ⟨c, hc, rfl⟩ := List.mem_map.1 hd
  exact h.buf c hc
 ·intro d hd v hv
  obtain ⟨c, hc, rfl⟩ := List.mem_map.1 hd
  exact h.eC c hc v (List.mem_filter.1 hv).1
 ·intro d hd v hv
  obtain ⟨c, hc, rfl⟩ := List.mem_map.1 hd
  exact h.snd c hc v (List.mem_filter.1 hv).1
 ·intro q q0 hq
  have := Fv (g := g) x.aD q
  have := h.one q q0 hq
  show bW (x.aD.map fun c => c.drop g) q + gM x.aL q ≤ 1
  omega
 ·intro q
  exact Nat.le_trans (Fv x.aD q) (h.Dl q)
theorem HT (h : WV p x) (h3 : (aj x g).wt.op ≠ 18) (h2 : (aj x g).st = 2) : ni (x.leave g) g := by
 refine ⟨fun d hd hg => ?_, fun l hl hg => h3 (h.lw l hl g hg).2, fun w hw e => ?_⟩
 ·obtain ⟨c, hc, rfl⟩ := List.mem_map.1 hd
  rw [zZ] at hg
  have := (List.mem_filter.1 hg).2
  simp at this
 ·have := (h.hl w hw).2.2
  rw [e, h2] at this
  cases this
theorem Ft.set {r : gQ} (h : Ft p r) (q v : Int) : Ft p (r.set q v) := h
theorem oT.cI {z : jo} (h : oT p z) {r : gQ} (hr : Ft p r) : oT p (z.cI r) :=
 ⟨by simpa [jo.cI] using h.l1, by simpa [jo.cI] using h.l2, fun f hf => by
  rcases List.mem_or_eq_of_mem_set hf with hf | rfl
  ·exact h.fr f hf
  ·exact hr, h.wt, h.st⟩
theorem oT.top {z : jo} (h : oT p z) : Ft p z.top := by
 unfold jo.top
 have := h.l1
 rw [List.getD_eq_getElem?_getD, List.getElem?_eq_getElem (by omega), Option.getD_some]
 exact h.fr _ (List.getElem_mem _)
theorem WV.jP (h : WV p x) (h0 : 0 ≤ g) (hg : g < x.gs.length) : oT p (aj x g) := h.Fu _ (wE h0 hg)
theorem WV.bq (h : WV p x) (h0 : 0 ≤ g) (hg : g < x.gs.length) : WV p (x.bq g q n) :=
 h.bu h0 hg ((h.jP h0 hg).cI ((h.jP h0 hg).top.set q n)) rfl rfl
theorem Cs (h0 : 0 ≤ g) (hg : g < x.gs.length) {m : Int} : (aj (x.bq g q n) m).st = (aj x m).st ∧ (aj (x.bq g q n) m).wt = (aj x m).wt ∧ (aj (x.bq g q n) m).fs.length = (aj x m).fs.length := by
 unfold Wd.bq
 rw [ig hg h0]
 split
 ·rename_i e
  have : aj x m = aj x g := by unfold aj; rw [e]
  rw [this]
  exact ⟨rfl, rfl, by simp [jo.cI]⟩
 ·exact ⟨rfl, rfl, rfl⟩
theorem nj (h0 : 0 ≤ g) (hg : g < x.gs.length) {m : Int} (h1 : 0 ≤ m) (hne : m ≠ g) : aj (x.bq g q n) m = aj x m := by
 unfold Wd.bq
 rw [ig hg h0, if_neg (by omega)]
theorem WV.bk (h : WV p x) (h0 : 0 ≤ g) (hg : g < x.gs.length) : bk x g := ⟨h0, hg, (h.jP h0 hg).l1, by have := (h.jP h0 hg).l2; omega⟩
theorem Le (hp : dn p) {a : Int} (h0 : 0 ≤ a) (h1 : a < p.cases.length) : pM p a ∈ p.cases := by
 unfold pM
 rw [List.getD_eq_getElem?_getD, List.getElem?_eq_getElem (by omega), Option.getD_some]
 exact List.getElem_mem _
theorem WV.pN (h : WV p x) (hp : dn p) (ha : At x v.g 2) (hw : (aj x v.g).wt.op = 14 ∨ (aj x v.g).wt.op = 16 ∧ 0 ≤ v.cs ∧ v.cs < (aj x v.g).wt.b) : pN p x v := by
 refine ⟨h.bk ha.1 ha.2.1, ?_⟩
 obtain ⟨f, hf, hi⟩ := (h.jP ha.1 ha.2.1).wt ha.2.2
 obtain ⟨_, _, _, _, _, _, _, _, i13, i14, i16, _⟩ := hi
 split
 ·rename_i e
  rcases hw with hw | ⟨_, c0, c1⟩
  ·rw [e] at hw; cases hw
  ·obtain ⟨a0, a1, a2⟩ := i16 e
   refine ⟨by omega, by omega, by have := hp.cs; omega, (hp.cas _ (Le hp (by omega) (by omega))).2, i14 (.inr e)⟩
 ·rename_i e
  rcases hw with hw | ⟨hw, _⟩
  ·exact ⟨i13 (.inr hw), i14 (.inl hw)⟩
  ·exact absurd hw e
theorem WV.w6 (h : WV p x) (ha : At x v.g 2) : w6 x v := by
 refine ⟨h.bk ha.1 ha.2.1, fun e => ?_⟩
 obtain ⟨f, hf, hi⟩ := (h.jP ha.1 ha.2.1).wt ha.2.2
 obtain ⟨_, _, _, _, _, _, _, _, _, i14, _⟩ := hi
 exact i14 (.inr e)
theorem ni.bR (h : ni x g) : ni (x.bq q k n) g := h
theorem bP {m : Int} : (x.bq g q m).gs.length = x.gs.length := by simp [Wd.bq, Wd.bu]
theorem nk : (x.eZ g).gs.length = x.gs.length := by simp [Wd.eZ, Wd.bu]
theorem qO (h0 : 0 ≤ g) (hg : g < x.gs.length) {m : Int} (h1 : 0 ≤ m) (hne : m ≠ g) : aj (x.eZ g) m = aj x m := by
 show aj (x.bu g _) m = _
 rw [ig hg h0, if_neg (by omega)]
theorem vf (h0 : 0 ≤ g) (hg : g < x.gs.length) : (aj (x.eZ g) g).st = 1 := by
 show (aj (x.bu g _) g).st = _
 rw [ig hg h0, if_pos rfl]
theorem WV.gz (h : WV p x) (ha : At x g 2) (Tc : (aj x g).wt.op ≠ 18) : WV p (x.gz g k) ∧ ni (x.gz g k) g := by
 obtain ⟨h0, hg, h2⟩ := ha
 unfold Wd.gz
 have r2 := h.bq (q := (aj x g).wt.c) (n := k) h0 hg
 have e2 := Cs (x := x) (q := (aj x g).wt.c) (n := k) h0 hg (m := g)
 exact ⟨r2.leave, HT r2 (by rw [e2.2.1]; exact Tc) (by rw [e2.1]; exact h2)⟩
theorem gC : (x.gz g k).gs.length = x.gs.length := by simp [Wd.gz, Wd.leave, bP]
theorem Ct (h0 : 0 ≤ g) (hg : g < x.gs.length) {m : Int} (h1 : 0 ≤ m) (hne : m ≠ g) : aj (x.gz g k) m = aj x m := by
 show aj (x.bq g _ _) m = _
 exact nj h0 hg h1 hne
theorem WV.received (h : WV p x) (ha : At x v.g 2) (Tc : (aj x v.g).wt.op ≠ 18) (hf : (aj x v.g).wt.op ≠ 16 → ni x v.g) {s : Int} : WV p (x.received p v s) := by
 have Z4 := ha
 obtain ⟨h0, hg, h2⟩ := Z4
 unfold Wd.received
 dsimp only
 split
 ·have r1 := h.bq (q := (pM p ((aj x v.g).wt.a + v.cs)).bR) (n := v.v) h0 hg
  have e1 := Cs (x := x) (q := (pM p ((aj x v.g).wt.a + v.cs)).bR) (n := v.v) h0 hg (m := v.g)
  have l1 := bP (x := x) (g := v.g) (q := (pM p ((aj x v.g).wt.a + v.cs)).bR) (m := v.v)
  obtain ⟨r2, f2⟩ := r1.gz (k := v.cs) ⟨h0, by rw [l1]; exact hg, by rw [e1.1]; exact h2⟩ (by rw [e1.2.1]; exact Tc)
  exact r2.eZ h0 (by rw [gC, l1]; exact hg) f2
 ·rename_i e
  have r1 := h.bq (q := (aj x v.g).wt.b) (n := v.v) h0 hg
  have r2 := r1.bq (g := v.g) (q := (aj x v.g).wt.c) (n := s) h0 (by rw [bP]; exact hg)
  exact r2.eZ h0 (by rw [bP, bP]; exact hg) (hf e)
theorem vg {s : Int} : (x.received p v s).gs.length = x.gs.length := by
 unfold Wd.received
 dsimp only
 split
 ·rw [nk, gC, bP]
 ·rw [nk, bP, bP]
theorem xk (h0 : 0 ≤ v.g) (hg : v.g < x.gs.length) {s m : Int} (h1 : 0 ≤ m) (hne : m ≠ v.g) : aj (x.received p v s) m = aj x m := by
 unfold Wd.received
 dsimp only
 split
 ·rw [qO h0 (by rw [gC, bP]; exact hg) h1 hne, Ct h0 (by rw [bP]; exact hg) h1 hne, nj h0 hg h1 hne]
 ·rw [qO h0 (by rw [bP, bP]; exact hg) h1 hne, nj h0 (by rw [bP]; exact hg) h1 hne, nj h0 hg h1 hne]
theorem lX (h0 : 0 ≤ v.g) (hg : v.g < x.gs.length) {s : Int} : (aj (x.received p v s) v.g).st = 1 ∧ (x.received p v s).ready = x.ready ++ [v.g] := by
 unfold Wd.received
 dsimp only
 split
 ·exact ⟨vf h0 (by rw [gC, bP]; exact hg), rfl⟩
 ·exact ⟨vf h0 (by rw [bP, bP]; exact hg), rfl⟩
theorem WV.sent (h : WV p x) (ha : At x v.g 2) (Tc : (aj x v.g).wt.op ≠ 18) (hf : (aj x v.g).wt.op ≠ 16 → ni x v.g) : WV p (x.sent v) := by
 have Z4 := ha
 obtain ⟨h0, hg, h2⟩ := Z4
 unfold Wd.sent
 split
 ·obtain ⟨r2, f2⟩ := h.gz (k := v.cs) ha Tc
  exact r2.eZ h0 (by rw [gC]; exact hg) f2
 ·rename_i e
  exact h.eZ h0 hg (hf e)
theorem OT : (x.sent v).gs.length = x.gs.length := by
 unfold Wd.sent
 split
 ·rw [nk, gC]
 ·rw [nk]
theorem RD (h0 : 0 ≤ v.g) (hg : v.g < x.gs.length) {m : Int} (h1 : 0 ≤ m) (hne : m ≠ v.g) : aj (x.sent v) m = aj x m := by
 unfold Wd.sent
 split
 ·rw [qO h0 (by rw [gC]; exact hg) h1 hne, Ct h0 hg h1 hne]
 ·rw [qO h0 hg h1 hne]
theorem Jk (h0 : 0 ≤ v.g) (hg : v.g < x.gs.length) : (aj (x.sent v) v.g).st = 1 ∧ (x.sent v).ready = x.ready ++ [v.g] := by
 unfold Wd.sent
 split
 ·exact ⟨vf h0 (by rw [gC]; exact hg), rfl⟩
 ·exact ⟨vf h0 hg, rfl⟩
theorem Fw (hk : uV x k) : ∃ c, x.aD[k.toNat]? = some c ∧ dK x.aD k = c := by
 obtain ⟨k0, k1⟩ := hk
 obtain ⟨c, hc⟩ := aP (l := x.aD) (i := k.toNat) (by omega)
 exact ⟨c, hc, by simp [dK, hc]⟩
theorem DB (h : WV p x) {c c' : aT} (hc : x.aD[k.toNat]? = some c) (h0 : 0 ≤ g) (h2 : (aj x g).st = 2) (uS : (aj x g).wt.op ≠ 16) (hn : (cR c').count g + 1 ≤ (cR c).count g) : ni (x.b9 k c') g := by
 have a := h.one g h0 uS
 have b := lW (fun c : aT => (cR c).count g) x.aD k.toNat c' c hc
 have e1 : bW (x.aD.set k.toNat c') g = 0 := by unfold bW at *; omega
 have e2 : gM x.aL g = 0 := by
  have := zX (fun c : aT => (cR c).count g) x.aD c (List.mem_of_getElem? hc)
  unfold bW at a
  omega
 refine ⟨ve.1 e1, yn.1 e2, fun w hw e => ?_⟩
 have := (h.hl w hw).2.2
 rw [e, h2] at this
 cases this
end
def Wk (x y : Wd) : Prop := y.gs.length = x.gs.length ∧ ∃ l : List Int, y.ready = x.ready ++ l ∧ l.Nodup ∧ (∀ q ∈ l, 0 ≤ q ∧ q < x.gs.length ∧ (aj x q).st ≠ 1 ∧ (aj y q).st = 1) ∧ ∀ q, 0 ≤ q → q ∉ l → aj y q = aj x q
section
variable {p : b6} {x y z : Wd} {g q k n : Int} {f : List cH} {i : cH} {v : Wt}
theorem Wk.refl (x : Wd) : Wk x x := ⟨rfl, [], by simp, List.nodup_nil, (fun q h => by cases h), fun q _ _ => rfl⟩
theorem Wk.same (h1 : y.gs = x.gs) (h2 : y.ready = x.ready) : Wk x y := ⟨by rw [h1], [], by simp [h2], List.nodup_nil, fun q h => by (cases h), fun q _ _ => by unfold aj; rw [h1]⟩
theorem Wk.trans (h : Wk x y) (h' : Wk y z) : Wk x z := by
 obtain ⟨a1, l, a2, a3, a4, a5⟩ := h
 obtain ⟨b1, m, b2, b3, b4, b5⟩ := h'
 refine ⟨by rw [b1, a1], l ++ m, by rw [b2, a2, List.append_assoc], ?_, ?_, ?_⟩
 ·refine List.nodup_append.2 ⟨a3, b3, fun q hq r hr e => ?_⟩
  subst e
  exact (b4 q hr).2.2.1 (a4 q hq).2.2.2
 ·intro q hq
  rcases List.mem_append.1 hq with hq | hq
  ·obtain ⟨c1, c2, c3, c4⟩ := a4 q hq
   refine ⟨c1, c2, c3, ?_⟩
   by_cases hm : q ∈ m
   ·exact (b4 q hm).2.2.2
   ·rw [b5 q c1 hm]; exact c4
  ·obtain ⟨c1, c2, c3, c4⟩ := b4 q hq
   by_cases hl : q ∈ l
   ·exact absurd (a4 q hl).2.2.2 c3
   ·exact ⟨c1, by rw [← a1]; exact c2, by rw [← a5 q c1 hl]; exact c3, c4⟩
 ·intro q q0 hq
  rw [List.mem_append] at hq
  rw [b5 q q0 (fun h => hq (.inr h)), a5 q q0 (fun h => hq (.inl h))]
theorem Wk.keep (h : Wk x y) (h0 : 0 ≤ q) (h1 : (aj x q).st = 1) : aj y q = aj x q := by
 obtain ⟨_, l, _, _, a4, a5⟩ := h
 exact a5 q h0 fun hq => (a4 q hq).2.2.1 h1
theorem Wk.received (h0 : 0 ≤ v.g) (hg : v.g < x.gs.length) (h1 : (aj x v.g).st ≠ 1) {s : Int} : Wk x (x.received p v s) :=
 ⟨vg, [v.g], (lX h0 hg).2, by simp, fun q hq => by
  simp only [List.mem_singleton] at hq; subst hq
  exact ⟨h0, hg, h1, (lX h0 hg).1⟩, fun q q0 hq => xk h0 hg q0 (by simpa using hq)⟩
theorem Wk.sent (h0 : 0 ≤ v.g) (hg : v.g < x.gs.length) (h1 : (aj x v.g).st ≠ 1) : Wk x (x.sent v) :=
 ⟨OT, [v.g], (Jk h0 hg).2, by simp, fun q hq => by
  simp only [List.mem_singleton] at hq; subst hq
  exact ⟨h0, hg, h1, (Jk h0 hg).1⟩, fun q q0 hq => RD h0 hg q0 (by simpa using hq)⟩
theorem Wk.eZ (h0 : 0 ≤ g) (hg : g < x.gs.length) (h1 : (aj x g).st ≠ 1) : Wk x (x.eZ g) :=
 ⟨nk, [g], rfl, by simp, fun q hq => by
  simp only [List.mem_singleton] at hq; subst hq
  exact ⟨h0, hg, h1, vf h0 hg⟩, fun q q0 hq => qO h0 hg q0 (by simpa using hq)⟩
theorem Wk.b9 {c : aT} : Wk x (x.b9 k c) := Wk.same rfl rfl
theorem qy (h : WV p x) {c : aT} (hc : c ∈ x.aD) : c.buf.length ≤ 16 ∧ c.snd.length ≤ 3200 ∧ c.eC.length ≤ 3200 := by
 have h1 := h.Jh hc
 unfold cR at h1
 rw [List.length_append, List.length_map, List.length_map] at h1
 have := h.buf c hc
 omega
def Wu (p : b6) (x : Wd) : Out (Wd × Bool) → Prop
 | .eD _ y => WV p y ∧ y.gs = x.gs ∧ y.ready = x.ready
 | .on (y, true) => WV p y ∧ Wk x y
 | .on (y, false) => y = x
 | .cV _ _ => False
theorem eB {α : Type} : ∀ (l : List α) (n : Nat) (a : α), l[n]? = some a → l.set n a = l
 | [], _, _, _ => rfl
 | b :: l, 0, a, h => by simp at h; subst h; rfl
 | b :: l, n + 1, a, h => by rw [List.set_cons_succ, eB l n a (by simpa using h)]
theorem oc {c : aT} (hc : x.aD[k.toNat]? = some c) : x.b9 k c = x := by
 unfold Wd.b9
 rw [eB _ _ _ hc]
theorem WV.put (h : WV p x) (hp : dn p) (hk : uV x k) : oy p x k n ∧ Wu p x (x.put p k n) := by
 obtain ⟨c, hc, e⟩ := Fw hk
 have hm := List.mem_of_getElem? hc
 obtain ⟨s1, s2, s3⟩ := qy h hm
 have hb := h.buf c hm
 have hr := h.eC c hm
 unfold oy Wd.put
 rw [e]
 refine ⟨⟨hk, ?_, ?_⟩, ?_⟩
 ·unfold aT.send
  split
  ·intro h; cases h
  ·split
   ·rename_i w r hw
    intro _
    obtain ⟨a, b⟩ := hr w (by rw [hw]; simp)
    exact h.pN (v := ⟨w.g, w.cs, n⟩) hp a b
   ·split <;> (intro h; cases h)
 ·have : c.Small 3200 := ⟨by omega, s2, s3⟩
  exact (this.send n).mono (by omega)
 ·unfold aT.send
  split
  ·dsimp only
   rw [if_pos rfl, oc hc]
   exact ⟨h, rfl, rfl⟩
  ·split
   ·rename_i w r hw
    dsimp only
    obtain ⟨a, b⟩ := hr w (by rw [hw]; simp)
    have hl : WV p (x.b9 k { c with eC := r }) := h.less hc hb (fun v hv => by rw [hw]; exact List.mem_cons_of_mem _ hv) (fun v hv => hv) (fun q => by
     unfold cR; rw [hw]; simp only [List.map_cons, List.count_append, List.count_cons]; omega)
    have hne : (aj x w.g).wt.op ≠ 18 := by rcases b with b | b; rw [b]; decide; rw [b.1]; decide
    rw [if_neg (by decide), if_pos rfl]
    refine ⟨hl.received (v := ⟨w.g, w.cs, n⟩) a hne (fun uS => ?_), Wk.b9.trans (Wk.received (x := x.b9 k { c with eC := r }) (v := ⟨w.g, w.cs, n⟩) a.1 a.2.1 (by show (aj x w.g).st ≠ 1; rw [a.2.2]; decide))⟩
    exact DB h hc a.1 a.2.2 uS (by unfold cR; rw [hw]; simp only [List.map_cons, List.count_append, List.count_cons, beq_self_eq_true, if_true]; omega)
   ·rename_i hw
    split
    ·dsimp only
     rw [if_neg (by decide), if_neg (by decide)]
     exact ⟨h.less hc ⟨by simp; omega, hb.2⟩ (fun v hv => hv) (fun v hv => hv) (fun q => Nat.le_refl _), Wk.b9⟩
    ·dsimp only
     rw [if_neg (by decide), if_neg (by decide), oc hc]
     exact rfl
theorem WV.get (h : WV p x) (hp : dn p) (hk : uV x k) : uW x k ∧ WV p (x.get k).1 ∧ Wk x (x.get k).1 ∧ ((x.get k).2.2.2 = false → (x.get k).1 = x) := by
 obtain ⟨c, hc, e⟩ := Fw hk
 have hm := List.mem_of_getElem? hc
 obtain ⟨s1, s2, s3⟩ := qy h hm
 have hb := h.buf c hm
 have hs := h.snd c hm
 unfold uW Wd.get
 rw [e]
 obtain ⟨room, buf, snd, eC, closed⟩ := c
 cases snd with
 | cons w r =>
  obtain ⟨a, b⟩ := hs w (by simp)
  obtain ⟨v, l, hv⟩ : ∃ v l, buf ++ [w.v] = v :: l := by
   cases buf with
   | nil => exact ⟨_, _, rfl⟩
   | cons q t => exact ⟨q, t ++ [w.v], rfl⟩
  have hlen : l.length = buf.length := by
   have := congrArg List.length hv
   simp at this; omega
  have er : aT.recv ⟨room, buf, w :: r, eC, closed⟩ = (⟨room, l, r, eC, closed⟩, v, true, w, true, 0) := by
   unfold aT.recv aT.all
   dsimp only
   rw [hv]
   rfl
  rw [er]
  dsimp only
  have hl : WV p (x.b9 k ⟨room, l, r, eC, closed⟩) := h.less hc (by rw [hlen]; exact hb) (fun v hv => hv) (fun v hv => List.mem_cons_of_mem _ hv) (fun q => by
   unfold cR; simp only [List.map_cons, List.cons_append, List.count_cons]; omega)
  have hne : (aj x w.g).wt.op ≠ 18 := by rcases b with b | b; rw [b]; decide; rw [b.1]; decide
  rw [if_pos rfl, if_pos rfl]
  refine ⟨⟨hk, fun _ => h.w6 a, ⟨by dsimp only at *; omega, by simp only [List.length_cons] at s2; dsimp only; omega, by dsimp only at *; omega⟩⟩, hl.sent a hne (fun uS => ?_), Wk.b9.trans (Wk.sent (x := x.b9 k ⟨room, l, r, eC, closed⟩) a.1 a.2.1 (by show (aj x w.g).st ≠ 1; rw [a.2.2]; decide)), (fun h => by cases h)⟩
  exact DB h hc a.1 a.2.2 uS (by unfold cR; simp only [List.map_cons, List.cons_append, List.count_cons, beq_self_eq_true, if_true]; omega)
 | nil =>
  cases buf with
  | cons q t =>
   have er : aT.recv ⟨room, q :: t, [], eC, closed⟩ = (⟨room, t, [], eC, closed⟩, q, true, .zero, false, 0) := rfl
   rw [er]
   dsimp only
   simp only [Bool.false_eq_true, if_false, if_true]
   simp only [List.length_cons] at s1 hb
   exact ⟨⟨hk, (fun h => by cases h), ⟨by dsimp only; omega, by dsimp only at *; omega, by dsimp only at *; omega⟩⟩, h.less hc ⟨by dsimp only; omega, hb.2⟩ (fun v hv => hv) (fun v hv => hv) (fun q => Nat.le_refl _), Wk.b9, (fun h => by cases h)⟩
  | nil =>
   have er : aT.recv ⟨room, [], [], eC, closed⟩ = (⟨room, [], [], eC, closed⟩, 0, false, .zero, false, if closed then 0 else 5) := rfl
   rw [er]
   dsimp only
   simp only [Bool.false_eq_true, if_false, oc hc]
   exact ⟨⟨hk, (fun h => by cases h), ⟨by dsimp only at *; omega, by dsimp only at *; omega, by dsimp only at *; omega⟩⟩, h, Wk.refl _, fun _ => trivial⟩
end
section
variable {p : b6} {x y z : Wd} {g q k n : Int} {f : List cH} {i : cH} {v : Wt}
def Wv (x : Wd) (v : Wt) : Prop := 0 ≤ v.g ∧ v.g < x.gs.length ∧ ((aj x v.g).st = 2 → (aj x v.g).wt.op = 14 ∧ ni x v.g ∨ (aj x v.g).wt.op = 16 ∧ 0 ≤ v.cs ∧ v.cs < (aj x v.g).wt.b)
def z8 (x y : Wd) : Prop := (∀ d ∈ y.aD, ∃ c ∈ x.aD, ∀ q ∈ cR d, q ∈ cR c) ∧ y.aL = x.aL ∧ y.hl = x.hl
theorem z8.refl (x : Wd) : z8 x x := ⟨fun d hd => ⟨d, hd, fun _ h => h⟩, rfl, rfl⟩
theorem z8.free (h : z8 x y) (hf : ni x g) : ni y g := by
 obtain ⟨a, b, c⟩ := h
 refine ⟨fun d hd hg => ?_, by rw [b]; exact hf.2.1, by rw [c]; exact hf.2.2⟩
 obtain ⟨e, he, hs⟩ := a d hd
 exact hf.1 e he (hs g hg)
theorem z8.leave : z8 x (x.leave g) := ⟨fun d hd => by
 obtain ⟨c, hc, rfl⟩ := List.mem_map.1 hd
 exact ⟨c, hc, fun q hq => by rw [zZ] at hq; exact (List.mem_filter.1 hq).1⟩, rfl, rfl⟩
theorem z8.received {s : Int} : z8 x (x.received p v s) := by
 unfold Wd.received
 dsimp only
 split
 ·exact z8.leave (x := (x.bq v.g (pM p ((aj x v.g).wt.a + v.cs)).bR v.v).bq v.g _ _)
 ·exact z8.refl x
theorem wF (hp : dn p) : ∀ (l : List Wt) (x : Wd), WV p x → x.ready.length + l.length ≤ 1000000 → (∀ v ∈ l, Wv x v) → wh p x l ∧ WV p (l.foldl (dL p) x) ∧ Wk x (l.foldl (dL p) x)
 | [], x, h, _, _ => ⟨trivial, h, Wk.refl x⟩
 | v :: l, x, h, hr, ha => by
  obtain ⟨h0, hg, h2⟩ := ha v (by simp)
  have jT : x.ready.length ≤ 1000000 := by simp only [List.length_cons] at hr; omega
  by_cases e : (aj x v.g).st = 2
  ·have Fx : At x v.g 2 := ⟨h0, hg, e⟩
   have hne : (aj x v.g).wt.op ≠ 18 := by rcases h2 e with b | b; rw [b.1]; decide; rw [b.1]; decide
   have hw := h.received (v := { v with v := 0 }) Fx hne (fun uS => by
    rcases h2 e with b | b
    ·exact b.2
    ·exact absurd b.1 uS) (s := 0)
   have hk : Wk x (x.received p { v with v := 0 } 0) := Wk.received (v := { v with v := 0 }) h0 hg (by rw [e]; decide)
   have es : dL p x v = x.received p { v with v := 0 } 0 := by unfold dL; rw [if_pos e]
   have hrd : (x.received p { v with v := 0 } 0).ready = x.ready ++ [v.g] := (lX (v := { v with v := 0 }) h0 hg).2
   obtain ⟨r1, r2, r3⟩ := wF hp l (x.received p { v with v := 0 } 0) hw (by rw [hrd]; simp only [List.length_append, List.length_cons, List.length_nil] at *; omega) (fun w Xr => by
    obtain ⟨b0, b1, b2⟩ := ha w (List.mem_cons_of_mem _ Xr)
    refine ⟨b0, by rw [vg]; exact b1, fun Xp => ?_⟩
    by_cases ew : w.g = v.g
    ·rw [ew, (lX (v := { v with v := 0 }) h0 hg).1] at Xp; cases Xp
    ·rw [xk (v := { v with v := 0 }) h0 hg b0 ew] at Xp ⊢
     rcases b2 Xp with c | c
     ·exact .inl ⟨c.1, z8.received.free c.2⟩
     ·exact .inr c)
   refine ⟨⟨h.sm hp jT, h0, hg, fun _ => h.pN (v := { v with v := 0 }) hp Fx ?_, by rw [es]; exact r1⟩, by rw [List.foldl_cons, es]; exact r2, by rw [List.foldl_cons, es]; exact hk.trans r3⟩
   rcases h2 e with b | b
   ·exact .inl b.1
   ·exact .inr b
  ·have es : dL p x v = x := by unfold dL; rw [if_neg e]
   obtain ⟨r1, r2, r3⟩ := wF hp l x h (by simp only [List.length_cons] at hr; omega) (fun w Xr => ha w (List.mem_cons_of_mem _ Xr))
   exact ⟨⟨h.sm hp jT, h0, hg, fun Xp => absurd Xp e, by rw [es]; exact r1⟩, by rw [List.foldl_cons, es]; exact r2, by rw [List.foldl_cons, es]; exact r3⟩
end
theorem Jl {l : List bz} {i : Nat} (h : i < l.length) : nW l i = l[i] := by
 unfold nW; rw [List.getD_eq_getElem?_getD, List.getElem?_eq_getElem h]; rfl
theorem tI {l : List bz} {i j : Nat} (hi : i < l.length) (hj : j < l.length) : (eG l i j).Perm l := by
 unfold eG
 rw [Jl hi, Jl hj]
 exact List.set_set_perm hi hj
theorem z9 : ∀ (f i : Nat) (l : List bz), i < l.length → (KT f i l).Perm l
 | 0, _, l, _ => List.Perm.refl l
 | f + 1, i, l, h => by
  unfold KT
  split
  ·exact (z9 f _ _ (by rw [fu]; omega)).trans (tI h (by omega))
  ·exact List.Perm.refl l
theorem Aa : ∀ (f i : Nat) (l : List bz), i < l.length → (oz f i l).Perm l
 | 0, _, l, _ => List.Perm.refl l
 | f + 1, i, l, h => by
  unfold oz
  split
  ·exact List.Perm.refl l
  ·have := (Cj h).1
   exact (Aa f _ _ (by rw [fu]; exact this)).trans (tI h this)
theorem Ad {l : List bz} {x : bz} : (sA l x).Perm (l ++ [x]) := z9 _ _ _ (by simp)
theorem DC {l : List bz} {i : Nat} (h : i < l.length) : l.Perm (nW l i :: dX l i) := by
 have hn : l.length - 1 < l.length := by omega
 have h1 : (eG l i (l.length - 1)).Perm l := tI h hn
 have IS : (eG l i (l.length - 1))[l.length - 1]? = some (nW l i) := by
  unfold eG
  rw [List.getElem?_set_self (by rw [List.length_set]; exact hn)]
 have h2 : eG l i (l.length - 1) = (eG l i (l.length - 1)).take (l.length - 1) ++ [nW l i] := by
  have e : eG l i (l.length - 1) = (eG l i (l.length - 1)).take (l.length - 1 + 1) := by
   rw [List.take_of_length_le (by rw [fu]; omega)]
  conv => lhs; rw [e]
  rw [List.take_add_one, IS]
  rfl
 have h3 : l.Perm (nW l i :: (eG l i (l.length - 1)).take (l.length - 1)) := by
  refine h1.symm.trans ?_
  rw [h2]
  have : (List.take (l.length - 1) (eG l i (l.length - 1)) ++ [nW l i]).take (l.length - 1) = (eG l i (l.length - 1)).take (l.length - 1) := by rw [← h2]
  rw [this]
  exact List.perm_append_comm
 unfold dX
 split
 ·rename_i hlt
  have hlen : ((eG l i (l.length - 1)).take (l.length - 1)).length = l.length - 1 := by rw [List.length_take, fu]; omega
  refine h3.trans (List.Perm.cons _ ?_)
  exact ((z9 _ _ _ (by rw [jl, hlen]; exact hlt)).trans (Aa _ _ _ (by rw [hlen]; exact hlt))).symm
 ·exact h3
theorem Ae : ∀ (f : Nat) (l : List bz) (now : Int), l.Perm ((dM f l now).2 ++ (dM f l now).1)
 | 0, l, _ => by simp [dM]
 | f + 1, l, now => by
  unfold dM
  split
  ·rename_i h
   refine (DC h.1).trans ?_
   dsimp only
   exact List.Perm.cons _ (Ae f _ now)
  ·simp
def ij (g : Int) (x y : Wd) : Prop := y.ready.Nodup ∧ g ∉ y.ready ∧ (∀ q ∈ y.ready, 0 ≤ q ∧ q < y.gs.length ∧ ¬ At x q 1 ∧ (aj y q).st = 1) ∧
 (∀ q, 0 ≤ q → q ≠ g → q ∉ y.ready → aj y q = aj x q) ∧ x.gs.length ≤ y.gs.length ∧ ∀ q : Int, x.gs.length ≤ q → q < y.gs.length → q ∈ y.ready
section
variable {p : b6} {x y z : Wd} {g q k n : Int} {f : List cH} {i : cH} {v : Wt}
theorem ij.refl (hr : x.ready = []) : ij g x x := by
 refine ⟨by rw [hr]; exact List.nodup_nil, by rw [hr]; simp, fun q hq => ?_, fun _ _ _ _ => rfl, Nat.le_refl _, fun q a b => by omega⟩
 rw [hr] at hq; cases hq
theorem ij.of (h : Wk x y) (hr : x.ready = []) (hg : At x g 1) : ij g x y := by
 obtain ⟨a1, l, a2, a3, a4, a5⟩ := h
 rw [hr, List.nil_append] at a2
 rw [ij, a2]
 refine ⟨a3, fun hm => (a4 g hm).2.2.1 hg.2.2, fun q hq => ?_, fun q q0 _ hn => a5 q q0 hn, by omega, fun q b c => by omega⟩
 obtain ⟨b1, b2, b3, b4⟩ := a4 q hq
 exact ⟨b1, by omega, fun ha => b3 ha.2.2, b4⟩
theorem ij.Jm (h : ij g x y) (h1 : z.ready = y.ready) (h2 : z.gs.length = y.gs.length) (h3 : ∀ q, 0 ≤ q → q ≠ g → aj z q = aj y q) : ij g x z := by
 obtain ⟨a1, a2, a3, a4, a5, a6⟩ := h
 rw [ij, h1, h2]
 refine ⟨a1, a2, fun q hq => ?_, fun q q0 hne hn => by rw [h3 q q0 hne]; exact a4 q q0 hne hn, a5, a6⟩
 have hne : q ≠ g := fun e => a2 (e ▸ hq)
 obtain ⟨b1, b2, b3, b4⟩ := a3 q hq
 exact ⟨b1, b2, b3, by rw [h3 q b1 hne]; exact b4⟩
theorem ij.pre (h : ij g y z) (h2 : y.gs.length = x.gs.length) (h3 : ∀ q, 0 ≤ q → q ≠ g → aj y q = aj x q) : ij g x z := by
 obtain ⟨a1, a2, a3, a4, a5, a6⟩ := h
 refine ⟨a1, a2, fun q hq => ?_, fun q q0 hne hn => by rw [a4 q q0 hne hn, h3 q q0 hne], by omega, fun q a b => a6 q (by omega) b⟩
 have hne : q ≠ g := fun e => a2 (e ▸ hq)
 obtain ⟨b1, b2, b3, b4⟩ := a3 q hq
 exact ⟨b1, b2, fun ha => b3 ⟨ha.1, by rw [h2]; exact ha.2.1, by rw [h3 q b1 hne]; exact ha.2.2⟩, b4⟩
theorem ij.bR (h : ij g x y) (h0 : 0 ≤ g) (hg : g < y.gs.length) : ij g x (y.bq g q n) := h.Jm rfl bP fun m m0 hne => nj h0 hg m0 hne
theorem qP {w : jo} (h0 : 0 ≤ g) (hg : g < x.gs.length) {m : Int} (m0 : 0 ≤ m) (hne : m ≠ g) : aj (x.bu g w) m = aj x m := by
 rw [ig hg h0, if_neg (by omega)]
theorem ij.bu {w : jo} (h : ij g x y) (h0 : 0 ≤ g) (hg : g < y.gs.length) : ij g x (y.bu g w) := h.Jm rfl (by simp [Wd.bu]) fun m m0 hne => qP h0 hg m0 hne
def g7 (p : b6) (g : Int) (x : Wd) : Out Wd → Prop
 | .eD _ y => WV p y ∧ ij g x y
 | .on y => WV p y ∧ ij g x y
 | .cV _ _ => False
theorem g7.lt {r : Out Wd} (h : g7 p g x r) (hg : At x g 1) : g < r.fin.gs.length := by
 cases r with
 | on y => have := h.2.2.2.2.2.1; have := hg.2.1; show g < y.gs.length; omega
 | eD n y => have := h.2.2.2.2.2.1; have := hg.2.1; show g < y.gs.length; omega
 | cV l y => exact h.elim
theorem ni.xQ (h : ni x g) : bW x.aD g = 0 ∧ gM x.aL g = 0 ∧ DA x.hl g = 0 :=
 ⟨ve.2 h.1, yn.2 h.2.1, List.count_eq_zero.2 fun hm => by
  obtain ⟨y, hy, e⟩ := List.mem_map.1 hm
  exact h.2.2 y hy e⟩
theorem At.free (hg : At x g 1) (h : WV p x) : ni x g := h.free (by rw [hg.2.2]; decide) (by rw [hg.2.2]; decide)
theorem RE (h : WV p x) (hg : At x g 1) (hi : jX p f i) (h9 : i.op = 9) (hr : x.ready = []) : (bk x g ∧ aU i.b) ∧ g7 p g x (x.call g i) := by
 obtain ⟨_, _, _, _, _, i9, _⟩ := hi
 obtain ⟨a0, a1, b1, c1⟩ := i9 (.inl h9)
 have hz := h.jP hg.1 hg.2.1
 refine ⟨⟨h.bk hg.1 hg.2.1, b1⟩, ?_⟩
 unfold Wd.call
 split
 ·exact ⟨h, ij.refl hr⟩
 ·rename_i hn
  refine ⟨h.bu hg.1 hg.2.1 ⟨by simp, by simp; omega, fun r hr => ?_, hz.wt, hz.st⟩ rfl rfl, (ij.refl hr).bu hg.1 hg.2.1⟩
  rcases List.mem_append.1 hr with hr | hr
  ·exact hz.fr r hr
  ·simp only [List.mem_singleton] at hr; subst hr
   exact ⟨a0, a1, Int.le_refl 0, (by show (0 : Int) ≤ 64; decide), c1⟩
theorem RF (h : WV p x) (hp : dn p) (hg : At x g 1) (hi : jX p f i) (h20 : i.op = 20) (hr : x.ready = []) : (bk x g ∧ aU i.a ∧ x.Sm) ∧ g7 p g x (x.emit g i) := by
 obtain ⟨_, _, _, _, _, _, i10, _⟩ := hi
 refine ⟨⟨h.bk hg.1 hg.2.1, i10 (.inr (.inr (.inl h20))), h.sm hp (by rw [hr]; decide)⟩, ?_⟩
 unfold Wd.emit
 split
 ·exact ⟨h, ij.refl hr⟩
 ·rename_i hn
  exact ⟨h.congr rfl (fun _ => ⟨rfl, rfl⟩) h.Fu rfl rfl rfl (by simp; omega), (ij.refl hr).Jm rfl rfl fun _ _ _ => rfl⟩
theorem RG (h : WV p x) (hg : At x g 1) (hi : jX p f i) (h10 : i.op = 10) (hr : x.ready = []) : (bk x g ∧ aU i.a ∧ aU (aj x g).top.qU) ∧ g7 p g x (.on (x.back g i)) := by
 obtain ⟨_, _, _, _, _, _, i10, _⟩ := hi
 have hz := h.jP hg.1 hg.2.1
 refine ⟨⟨h.bk hg.1 hg.2.1, i10 (.inl h10), hz.top.2.2.2.2⟩, ?_⟩
 have hf := hg.free h
 unfold Wd.back
 split
 ·rename_i h2
  refine ⟨h.bu hg.1 hg.2.1 ⟨by simp [jo.back]; omega, by have := hz.l2; simp [jo.back]; omega, fun r hr => ?_, hz.wt, hz.st⟩ rfl rfl, (ij.refl hr).bu hg.1 hg.2.1⟩
  rcases List.mem_or_eq_of_mem_set hr with hr | rfl
  ·exact hz.fr r (List.mem_of_mem_take hr)
  ·refine Ft.set ?_ _ _
   rw [List.getD_eq_getElem?_getD, List.getElem?_eq_getElem (by omega), Option.getD_some]
   exact hz.fr _ (List.getElem_mem _)
 ·have hd : WV p (x.bu g { aj x g with st := 4 }) := h.Jj hg.1 hg.2.1 hf (hz.OQ (by decide) (by decide))
  have Td : ij g x (x.bu g { aj x g with st := 4 }) := (ij.refl hr).bu hg.1 hg.2.1
  split
  ·exact ⟨hd.congr rfl (fun _ => ⟨rfl, rfl⟩) hd.Fu rfl rfl rfl hd.out, Td.Jm rfl rfl fun _ _ _ => rfl⟩
  ·exact ⟨hd, Td⟩
theorem RH (h : WV p x) (hp : dn p) (hg : At x g 1) (hf : f ∈ p.funcs) (hi : jX p f i) (Z5 : i.op = 13) (hr : x.ready = []) :
  ((bk x g ∧ aU i.b ∧ oy p x i.a (bt x g i.b) ∧ u9 x g i (x.put p i.a (bt x g i.b))) ∧ x.Sm) ∧ g7 p g x (x.send p g i) := by
 have hi' := hi
 obtain ⟨_, _, _, _, _, _, _, i13, OU, _⟩ := hi'
 obtain ⟨a0, a1⟩ := i13 (.inl Z5)
 have hk : uV x i.a := ⟨a0, by rw [h.ch]; exact a1⟩
 obtain ⟨p1, p2⟩ := h.put (n := bt x g i.b) hp hk
 have OE := h.bk hg.1 hg.2.1
 have hs := h.sm hp (by rw [hr]; decide)
 have hfr := hg.free h
 obtain ⟨c, hc, ec⟩ := Fw hk
 have hm := List.mem_of_getElem? hc
 obtain ⟨s1, s2, s3⟩ := qy h hm
 unfold Wd.send
 generalize jE : x.put p i.a (bt x g i.b) = r at p2
 match r, p2 with
 | .eD n y, p2 =>
  exact ⟨⟨⟨OE, OU (.inl Z5), p1, trivial⟩, hs⟩, p2.1, ij.of (Wk.same p2.2.1 p2.2.2) hr hg⟩
 | .on (y, true), p2 =>
  exact ⟨⟨⟨OE, OU (.inl Z5), p1, trivial⟩, hs⟩, p2.1, ij.of p2.2 hr hg⟩
 | .on (y, false), p2 =>
  have p3 : y = x := p2
  subst p3
  refine ⟨⟨⟨OE, OU (.inl Z5), p1, OE, rfl, hk, by rw [ec]; exact ⟨by omega, by omega, by omega⟩⟩, hs⟩, ?_, ?_⟩
  ·have hb := h.block hg hf hi
   have eg : aj (y.block g i) g = { aj y g with st := 2, wt := i } := gI hg.1 hg.2.1
   show WV p ((y.block g i).b9 i.a { dK y.aD i.a with snd := (dK y.aD i.a).snd ++ [⟨g, 0, bt y g i.b⟩] })
   rw [ec]
   refine hb.more (c := c) (w := ⟨g, 0, bt y g i.b⟩) hc (h.buf c hm) (fun v hv => .inl hv) (fun v hv => ?_) (fun q => ?_) (fun _ => ?_) ?_
   ·rcases List.mem_append.1 hv with hv | hv
    ·exact .inl hv
    ·refine .inr ⟨by simpa using hv, ⟨hg.1, by simpa [Wd.block, Wd.bu] using hg.2.1, by rw [eg]⟩, .inl (by rw [eg]; exact Z5)⟩
   ·unfold cR
    simp only [List.map_append, List.map_cons, List.map_nil, List.count_append, List.count_cons, List.count_nil]
    by_cases e : q = g
    ·subst e; simp; omega
    ·rw [if_neg e]
     have : (g == q) = false := by simp; exact fun h => e h.symm
     simp [this]
   ·have := hfr.xQ
    show bW y.aD g + gM y.aL g = 0
    omega
   ·have := hfr.xQ
    show bW y.aD g < 32
    omega
  ·exact (ij.refl hr).Jm rfl (by simp [Wd.block, Wd.IX, Wd.bu, Wd.b9]) fun m m0 hne => by
    show aj (y.bu g _) m = _
    exact qP hg.1 hg.2.1 m0 hne
 | .cV l y, p2 => exact p2.elim
end
section
variable {p : b6} {x y z : Wd} {g q k n : Int} {f : List cH} {i : cH} {v : Wt}
theorem kZ (l : List Int) (q g : Int) : (l ++ [g]).count q ≤ l.count q + (if q = g then 1 else 0) := by
 rw [List.count_append, List.count_cons, List.count_nil]
 by_cases e : q = g
 ·subst e; simp
 ·rw [if_neg e]
  have : (g == q) = false := by simp; exact fun h => e h.symm
  simp [this]
theorem RI (h : WV p x) (hp : dn p) (hg : At x g 1) (hf : f ∈ p.funcs) (hi : jX p f i) (h14 : i.op = 14) (hr : x.ready = []) :
  (wj x g i ∧ x.Sm) ∧ g7 p g x (.on (x.recv g i)) := by
 have hi' := hi
 obtain ⟨_, _, _, _, _, _, _, i13, OU, i14, _⟩ := hi'
 obtain ⟨a0, a1⟩ := i13 (.inr (.inl h14))
 have hk : uV x i.a := ⟨a0, by rw [h.ch]; exact a1⟩
 obtain ⟨p1, p2, p3, p4⟩ := h.get hp hk
 have OE := h.bk hg.1 hg.2.1
 have hs := h.sm hp (by rw [hr]; decide)
 have hfr := hg.free h
 obtain ⟨c, hc, ec⟩ := Fw hk
 have hm := List.mem_of_getElem? hc
 obtain ⟨s1, s2, s3⟩ := qy h hm
 have ek := p3.keep hg.1 hg.2.2
 have el := p3.1
 refine ⟨⟨⟨OE, OU (.inr h14), i14 (.inl h14), p1, p2.bk hg.1 (by rw [el]; exact hg.2.1), by rw [ek], fun e => ?_⟩, hs⟩, ?_⟩
 ·rw [p4 e]
  exact ⟨hk, by rw [ec]; exact ⟨by omega, by omega, by omega⟩⟩
 ·unfold Wd.recv
  have Td : ij g x (x.get i.a).1 := ij.of p3 hr hg
  split
  ·have r1 := p2.bq (g := g) (q := i.b) (n := (x.get i.a).2.1) hg.1 (by rw [el]; exact hg.2.1)
   refine ⟨r1.bq hg.1 (by rw [bP, el]; exact hg.2.1), (Td.bR hg.1 (by rw [el]; exact hg.2.1)).bR hg.1 (by rw [bP, el]; exact hg.2.1)⟩
  ·rename_i e
   rw [p4 (by simpa using e)]
   have hb := h.block hg hf hi
   have eg : aj (x.block g i) g = { aj x g with st := 2, wt := i } := gI hg.1 hg.2.1
   refine ⟨?_, ?_⟩
   ·show WV p ((x.block g i).b9 i.a { dK x.aD i.a with eC := (dK x.aD i.a).eC ++ [⟨g, 0, 0⟩] })
    rw [ec]
    refine hb.more (c := c) (w := ⟨g, 0, 0⟩) hc (h.buf c hm) (fun v hv => ?_) (fun v hv => .inl hv) (fun q => ?_) (fun _ => ?_) ?_
    ·rcases List.mem_append.1 hv with hv | hv
     ·exact .inl hv
     ·exact .inr ⟨by simpa using hv, ⟨hg.1, by simpa [Wd.block, Wd.bu] using hg.2.1, by rw [eg]⟩, .inl (by rw [eg]; exact h14)⟩
    ·unfold cR
     rw [List.map_append, ← List.append_assoc]
     exact kZ _ _ _
    ·have := hfr.xQ
     show bW x.aD g + gM x.aL g = 0
     omega
    ·have := hfr.xQ
     show bW x.aD g < 32
     omega
   ·exact (ij.refl hr).Jm rfl (by simp [Wd.block, Wd.IY, Wd.bu, Wd.b9]) fun m m0 hne => by
     show aj (x.bu g _) m = _
     exact qP hg.1 hg.2.1 m0 hne
theorem RJ (h : WV p x) (hp : dn p) (hg : At x g 1) (hi : jX p f i) (h15 : i.op = 15) (hr : x.ready = []) :
  (nU p x i ∧ x.Sm) ∧ g7 p g x (x.shut p i) := by
 have hi' := hi
 obtain ⟨_, _, _, _, _, _, _, i13, _⟩ := hi'
 obtain ⟨a0, a1⟩ := i13 (.inr (.inr h15))
 have hk : uV x i.a := ⟨a0, by rw [h.ch]; exact a1⟩
 have hs := h.sm hp (by rw [hr]; decide)
 obtain ⟨c, hc, ec⟩ := Fw hk
 have hm := List.mem_of_getElem? hc
 obtain ⟨s1, s2, s3⟩ := qy h hm
 have hb := h.buf c hm
 have hrc := h.eC c hm
 unfold nU Wd.shut
 rw [ec]
 obtain ⟨room, buf, snd, eC, closed⟩ := c
 cases closed with
 | true =>
  refine ⟨⟨⟨hk, by dsimp only at *; omega, fun e => by simp [aT.close] at e⟩, hs⟩, ?_⟩
  simp only [aT.close, if_true]
  rw [oc hc]
  exact ⟨h, ij.refl hr⟩
 | false =>
  have SX : WV p (x.b9 i.a ⟨room, buf, [], [], true⟩) := h.less hc hb (fun v hv => by cases hv) (fun v hv => by cases hv) (fun q => by simp [cR])
  have OV := wF hp eC (x.b9 i.a ⟨room, buf, [], [], true⟩) SX (by show x.ready.length + eC.length ≤ 1000000; rw [hr]; dsimp only [List.length_nil] at *; omega) (fun v hv => by
   obtain ⟨a, b⟩ := hrc v hv
   refine ⟨a.1, a.2.1, fun _ => ?_⟩
   rcases b with b | b
   ·refine .inl ⟨b, DB h hc a.1 a.2.2 (by rw [b]; decide) ?_⟩
    have : 0 < List.count v.g (cR ⟨room, buf, snd, eC, false⟩) := List.count_pos_iff.2 (List.mem_append_right _ (List.mem_map.2 ⟨v, hv, rfl⟩))
    show List.count v.g (cR ⟨room, buf, [], [], true⟩) + 1 ≤ _
    simp only [cR, List.map_nil, List.append_nil, List.count_nil] at *
    omega
   ·exact .inr b)
  refine ⟨⟨⟨hk, by dsimp only at *; omega, fun _ _ => ?_⟩, hs⟩, ?_⟩
  ·simp only [aT.close, Bool.false_eq_true, if_false]
   exact OV.1
  ·simp only [aT.close, Bool.false_eq_true, if_false]
   rw [if_neg (by decide)]
   split
   ·exact ⟨SX, (ij.refl hr).Jm rfl rfl fun _ _ _ => rfl⟩
   ·exact ⟨OV.2.1, ij.of (Wk.b9.trans OV.2.2) hr hg⟩
theorem OW (h : WV p x) (hp : dn p) (hg : At x g 1) (hi : jX p f i) (h17 : i.op = 17) (hr : x.ready = []) :
  (bk x g ∧ aU i.a ∧ x.hl.length < 1000000) ∧ g7 p g x (.on (x.sleep g i)) := by
 obtain ⟨_, _, _, _, _, _, i10, _⟩ := hi
 refine ⟨⟨h.bk hg.1 hg.2.1, i10 (.inr (.inl h17)), by have := h.Ji; omega⟩, ?_⟩
 unfold Wd.sleep
 split
 ·have hf := hg.free h
  have hz := h.jP hg.1 hg.2.1
  have h1 := h.Jj hg.1 hg.2.1 hf (hz.OQ (s := 3) (by decide) (by decide))
  have Td : ij g x (x.bu g { aj x g with st := 3 }) := (ij.refl hr).bu hg.1 hg.2.1
  refine ⟨⟨h1.n1, h1.n2, h1.Fu, h1.ch, h1.lk, h1.buf, h1.eC, h1.snd, h1.lw, fun w hw => ?_, h1.one, h1.Dl, fun q => ?_, h1.out⟩, Td.Jm rfl rfl fun _ _ _ => rfl⟩
  ·have GJ := Ad.mem_iff.1 hw
   rcases List.mem_append.1 GJ with GJ | GJ
   ·exact h1.hl w GJ
   ·simp only [List.mem_singleton] at GJ; subst GJ
    refine ⟨hg.1, by simpa [Wd.bu] using hg.2.1, ?_⟩
    show (aj (x.bu g { aj x g with st := 3 }) g).st = 3
    rw [gI hg.1 hg.2.1]
  ·show DA (sA x.hl _) q ≤ 1
   unfold DA
   rw [(Ad.map bz.id).count_eq, List.map_append, List.map_cons, List.map_nil]
   have a := kZ (x.hl.map bz.id) q g
   have b := h.h1 q
   unfold DA at b
   by_cases e : q = g
   ·subst e
    have := hf.xQ.2.2
    unfold DA at this
    rw [if_pos rfl] at a
    dsimp only at *
    omega
   ·rw [if_neg e] at a
    dsimp only at *
    omega
 ·exact ⟨h, ij.refl hr⟩
theorem Te (hk : Ds x k) : ∃ c, x.aL[k.toNat]? = some c ∧ oR x k = c := by
 obtain ⟨k0, k1⟩ := hk
 obtain ⟨c, hc⟩ := aP (l := x.aL) (i := k.toNat) (by omega)
 exact ⟨c, hc, by simp [oR, hc]⟩
theorem WV.HU (h : WV p x) {c c' : Lk} (hc : x.aL[k.toNat]? = some c) (hr : ∀ v ∈ c'.waits, v ∈ c.waits) (hn : ∀ q, c'.waits.count q ≤ c.waits.count q) : WV p (x.gB k c') := by
 have hm : c ∈ x.aL := List.mem_of_getElem? hc
 refine ⟨h.n1, h.n2, h.Fu, h.ch, by simpa [Wd.gB] using h.lk, h.buf, h.eC, h.snd, fun d hd v hv => ?_, h.hl, fun q q0 hq => ?_, h.Dl, h.h1, h.out⟩
 ·rcases js hd with hd | rfl
  ·exact h.lw d hd v hv
  ·exact h.lw c hm v (hr v hv)
 ·have a := h.one q q0 hq
  have b := lW (fun l : Lk => l.waits.count q) x.aL k.toNat c' c hc
  have := hn q
  show bW x.aD q + gM (x.aL.set k.toNat c') q ≤ 1
  unfold gM at *
  omega
theorem RK (h : WV p x) (hp : dn p) (hg : At x g 1) (hf : f ∈ p.funcs) (hi : jX p f i) (Tc : i.op = 18) (hr : x.ready = []) :
  (bk x g ∧ Ds x i.a ∧ x.Sm) ∧ g7 p g x (.on (x.lock g i)) := by
 have hi' := hi
 obtain ⟨_, _, _, _, _, _, _, _, _, _, _, i18, _⟩ := hi'
 obtain ⟨a0, a1⟩ := i18 (.inl Tc)
 have hk : Ds x i.a := ⟨a0, by rw [h.lk]; exact a1⟩
 refine ⟨⟨h.bk hg.1 hg.2.1, hk, h.sm hp (by rw [hr]; decide)⟩, ?_⟩
 obtain ⟨c, hc, ec⟩ := Te hk
 have hm := List.mem_of_getElem? hc
 have hfr := hg.free h
 unfold Wd.lock
 rw [ec]
 unfold Lk.take
 split
 ·dsimp only
  rw [if_pos rfl]
  exact ⟨h.HU hc (fun v hv => hv) (fun q => Nat.le_refl _), (ij.refl hr).Jm rfl rfl fun _ _ _ => rfl⟩
 ·dsimp only
  rw [if_neg (by decide)]
  have hb := h.block hg hf hi
  have eg : aj (x.block g i) g = { aj x g with st := 2, wt := i } := gI hg.1 hg.2.1
  refine ⟨?_, ?_⟩
  ·show WV p ((x.block g i).gB i.a ⟨c.owner, c.waits ++ [g]⟩)
   refine ⟨hb.n1, hb.n2, hb.Fu, hb.ch, by simpa [Wd.gB] using hb.lk, hb.buf, hb.eC, hb.snd, fun d hd v hv => ?_, hb.hl, fun q q0 hq => ?_, hb.Dl, hb.h1, hb.out⟩
   ·rcases js hd with hd | rfl
    ·exact hb.lw d hd v hv
    ·rcases List.mem_append.1 hv with hv | hv
     ·exact hb.lw c hm v hv
     ·simp only [List.mem_singleton] at hv; subst hv
      exact ⟨⟨hg.1, by simpa [Wd.gB, Wd.block, Wd.bu] using hg.2.1, by show (aj (x.block v i) v).st = 2; rw [eg]⟩, by show (aj (x.block v i) v).wt.op = 18; rw [eg]; exact Tc⟩
   ·have a := hb.one q q0 hq
    have b := lW (fun l : Lk => l.waits.count q) x.aL i.a.toNat ⟨c.owner, c.waits ++ [g]⟩ c hc
    have d := kZ c.waits q g
    show bW x.aD q + gM (x.aL.set i.a.toNat _) q ≤ 1
    have a' : bW x.aD q + gM x.aL q ≤ 1 := a
    by_cases e : q = g
    ·subst e
     have := hfr.xQ
     rw [if_pos rfl] at d
     unfold gM at *
     dsimp only at *
     omega
    ·rw [if_neg e] at d
     unfold gM at *
     dsimp only at *
     omega
  ·exact (ij.refl hr).Jm rfl (by simp [Wd.block, Wd.gB, Wd.bu]) fun m m0 hne => by
    show aj (x.bu g _) m = _
    exact qP hg.1 hg.2.1 m0 hne
theorem Lf (h : WV p x) (hp : dn p) (hg : At x g 1) (hi : jX p f i) (h19 : i.op = 19) (hr : x.ready = []) :
  (ng x g i ∧ x.Sm) ∧ g7 p g x (x.unlock g i) := by
 have hi' := hi
 obtain ⟨_, _, _, _, _, _, _, _, _, _, _, i18, _⟩ := hi'
 obtain ⟨a0, a1⟩ := i18 (.inr h19)
 have hk : Ds x i.a := ⟨a0, by rw [h.lk]; exact a1⟩
 have hs := h.sm hp (by rw [hr]; decide)
 obtain ⟨c, hc, ec⟩ := Te hk
 have hm := List.mem_of_getElem? hc
 have hw := h.lw c hm
 unfold ng Wd.unlock
 rw [ec]
 unfold Lk.r8
 split
 ·refine ⟨⟨⟨hk, fun e => absurd rfl e⟩, hs⟩, ?_⟩
  dsimp only
  rw [if_pos (by decide)]
  have e : x.gB i.a c = x := by unfold Wd.gB; rw [eB _ _ _ hc]
  rw [e]
  exact ⟨h, ij.refl hr⟩
 ·obtain ⟨o, ws⟩ := c
  cases ws with
  | nil =>
   refine ⟨⟨⟨hk, fun e => absurd rfl e⟩, hs⟩, ?_⟩
   split
   ·rename_i e; exact absurd rfl e
   ·split
    ·rename_i e; exact absurd rfl e
    ·exact ⟨h.HU (c' := ⟨-1, []⟩) hc (fun v hv => by cases hv) (fun q => by simp), (ij.refl hr).Jm rfl rfl fun _ _ _ => rfl⟩
  | cons w ws =>
   obtain ⟨a, b⟩ := hw w (by simp)
   refine ⟨⟨⟨hk, fun _ => ⟨a.1, a.2.1⟩⟩, hs⟩, ?_⟩
   have hne : w ≠ -1 := by have := a.1; omega
   have hl : WV p (x.gB i.a ⟨w, ws⟩) := h.HU hc (fun v hv => List.mem_cons_of_mem _ hv) (fun q => by simp only [List.count_cons]; omega)
   have hfr : ni (x.gB i.a ⟨w, ws⟩) w := by
    have o1 := h.one w a.1 (by rw [b]; decide)
    have s := lW (fun l : Lk => l.waits.count w) x.aL i.a.toNat ⟨w, ws⟩ ⟨o, w :: ws⟩ hc
    simp only [List.count_cons, beq_self_eq_true, if_true] at s
    have e1 : gM (x.aL.set i.a.toNat ⟨w, ws⟩) w = 0 := by unfold gM at *; omega
    have e2 : bW x.aD w = 0 := by
     have := zX (fun l : Lk => l.waits.count w) x.aL ⟨o, w :: ws⟩ hm
     simp only [List.count_cons, beq_self_eq_true, if_true] at this
     unfold gM at *; omega
    refine ⟨ve.1 e2, yn.1 e1, fun y hy e => ?_⟩
    have := (h.hl y hy).2.2
    rw [e, a.2.2] at this
    cases this
   have hres : g7 p g x (.on ((x.gB i.a ⟨w, ws⟩).eZ w)) := ⟨hl.eZ a.1 a.2.1 hfr, ij.of (Wk.trans (Wk.same rfl rfl) (Wk.eZ (x := x.gB i.a ⟨w, ws⟩) a.1 a.2.1 (by show (aj x w).st ≠ 1; rw [a.2.2]; decide))) hr hg⟩
   split
   ·rename_i e; exact absurd rfl e
   ·split
    ·exact hres
    ·rename_i e; exact absurd hne e
end
section
variable {p : b6} {x y z : Wd} {g q k n : Int} {f : List cH} {i : cH} {v : Wt}
theorem kH {w : jo} (h0 : 0 ≤ q) (hq : q < x.gs.length) : aj { x with gs := x.gs ++ [w] } q = aj x q := by
 unfold aj
 dsimp only
 rw [List.getD_eq_getElem?_getD, List.getD_eq_getElem?_getD, List.getElem?_append_left (by omega)]
theorem Cu {w : jo} : aj { x with gs := x.gs ++ [w] } (x.gs.length : Int) = w := by
 unfold aj
 dsimp only
 rw [Int.toNat_natCast, List.getD_eq_getElem?_getD, List.getElem?_append_right (Nat.le_refl _)]
 simp
theorem WV.spawn (h : WV p x) (hn : x.gs.length < 100) {w : jo} (hw : oT p w) : WV p { x with gs := x.gs ++ [w] } := by
 have at_ : ∀ q s, At x q s → At { x with gs := x.gs ++ [w] } q s := fun q s ha => ⟨ha.1, by have := ha.2.1; simp; omega, by rw [kH ha.1 ha.2.1]; exact ha.2.2⟩
 refine ⟨by simp, by simp; omega, fun z hz => ?_, h.ch, h.lk, h.buf, fun c hc v hv => ?_, fun c hc v hv => ?_, fun l hl q hq => ?_, fun z hz => at_ _ _ (h.hl z hz), fun q q0 hq => ?_, h.Dl, h.h1, h.out⟩
 ·rcases List.mem_append.1 hz with hz | hz
  ·exact h.Fu z hz
  ·simp only [List.mem_singleton] at hz; subst hz; exact hw
 ·obtain ⟨a, b⟩ := h.eC c hc v hv
  rw [kH a.1 a.2.1]
  exact ⟨at_ _ _ a, b⟩
 ·obtain ⟨a, b⟩ := h.snd c hc v hv
  rw [kH a.1 a.2.1]
  exact ⟨at_ _ _ a, b⟩
 ·obtain ⟨a, b⟩ := h.lw l hl q hq
  rw [kH a.1 a.2.1]
  exact ⟨at_ _ _ a, b⟩
 ·by_cases hlt : q < x.gs.length
  ·rw [kH q0 hlt] at hq
   exact h.one q q0 hq
  ·refine h.one q q0 ?_
   unfold aj
   rw [List.getD_eq_getElem?_getD, List.getElem?_eq_none (by omega)]
   decide
theorem OX {w : jo} : Wd.eZ { x with gs := x.gs ++ [{ w with st := 0 }] } (x.gs.length : Int) = { x with gs := x.gs ++ [{ w with st := 1 }], ready := x.ready ++ [(x.gs.length : Int)] } := by
 unfold Wd.eZ Wd.bu
 rw [Cu]
 simp [List.set_append_right]
theorem OY (h : WV p x) (hp : dn p) (hg : At x g 1) (hi : jX p f i) (h11 : i.op = 11) (hr : x.ready = []) : (bk x g ∧ aU i.b ∧ aU i.c ∧ x.Sm) ∧ g7 p g x (x.spawn g i) := by
 obtain ⟨_, _, _, _, _, i9, _⟩ := hi
 obtain ⟨a0, a1, b1, c1⟩ := i9 (.inr h11)
 refine ⟨⟨h.bk hg.1 hg.2.1, b1, c1, h.sm hp (by rw [hr]; decide)⟩, ?_⟩
 unfold Wd.spawn
 split
 ·exact ⟨h, ij.refl hr⟩
 ·rename_i hn
  rw [OX (w := ⟨0, [gQ.begin i.a (bt x g i.b)], .zero⟩)]
  have hw : oT p ⟨1, [gQ.begin i.a (bt x g i.b)], .zero⟩ := ⟨by simp, by simp, fun r hr => by
   simp only [List.mem_singleton] at hr; subst hr
   exact ⟨a0, a1, Int.le_refl 0, (by show (0 : Int) ≤ 64; decide), by show aU 0; decide⟩, (fun e => by cases e), by show (1 : Int) ≤ 1 ∧ (1 : Int) ≤ 4; decide⟩
  have h1 := (h.spawn (by omega) hw).ready (r := x.ready ++ [(x.gs.length : Int)])
  have hlen : g < (x.gs ++ [(⟨1, [gQ.begin i.a (bt x g i.b)], .zero⟩ : jo)]).length := by have := hg.2.1; simp; omega
  refine ⟨h1.bq hg.1 hlen, ?_⟩
  have Td : ij g x { x with gs := x.gs ++ [⟨1, [gQ.begin i.a (bt x g i.b)], .zero⟩], ready := x.ready ++ [(x.gs.length : Int)] } := by
   rw [ij, hr]
   simp only [List.nil_append, List.length_append, List.length_cons, List.length_nil]
   refine ⟨by simp, by have := hg.2.1; simp; omega, fun q hq => ?_, fun q q0 _ hn => ?_, by omega, fun q a b => by simp; omega⟩
   ·simp only [List.mem_singleton] at hq; subst hq
    exact ⟨by omega, by omega, fun ha => by have := ha.2.1; omega, by show (aj { x with gs := x.gs ++ [_] } _).st = 1; rw [Cu]⟩
   ·show aj { x with gs := x.gs ++ [_] } q = aj x q
    by_cases hlt : q < x.gs.length
    ·exact kH q0 hlt
    ·simp only [List.mem_singleton] at hn
     unfold aj
     dsimp only
     rw [List.getD_eq_getElem?_getD, List.getD_eq_getElem?_getD, List.getElem?_eq_none (by simp; omega), List.getElem?_eq_none (by omega)]
  exact Td.bR hg.1 hlen
theorem Jn (h : WV p x) (hg : At x g 2) (uS : (aj x g).wt.op = 16) (hf : ni x g) {fH : List Int} {cases : List ov} (hc : ∀ c ∈ cases, c.Ok x.aD.length) (hb : (cases.length : Int) ≤ (aj x g).wt.b) (h32 : cases.length ≤ 32) :
  ∀ j, j ≤ cases.length → WV p { x with aD := dU g fH cases x.aD j } ∧ bW (dU g fH cases x.aD j) g ≤ j
 | 0, _ => ⟨h, by show bW x.aD g ≤ 0; have := hf.xQ; omega⟩
 | j + 1, hj => by
  obtain ⟨ih, ic⟩ := Jn h hg uS hf (fH := fH) hc hb h32 j (by omega)
  obtain ⟨c, DM⟩ := aP (l := cases) (i := j) (by omega)
  have ok := hc c (List.mem_of_getElem? DM)
  unfold dU
  rw [DM]
  dsimp only
  unfold j9
  generalize hcs : dU g fH cases x.aD j = cs at ih ic
  have hlen : cs.length = x.aD.length := by
   have a := ih.ch
   have b := h.ch
   dsimp only at a
   omega
  have key : ∀ d : aT, (c.way = 0 ∨ c.way = 1) → dK cs c.ch = d → ∀ d' : aT, d'.buf = d.buf → d'.room = d.room →
    ((∀ v ∈ d'.eC, v ∈ d.eC ∨ v = ⟨g, j, 0⟩) ∧ d'.snd = d.snd ∨ (∀ v ∈ d'.snd, v ∈ d.snd ∨ v = ⟨g, j, fH.getD c.bR.toNat 0⟩) ∧ d'.eC = d.eC) →
    (∀ q, (cR d').count q ≤ (cR d).count q + (if q = g then 1 else 0)) →
    WV p { x with aD := cs.set c.ch.toNat d' } ∧ bW (cs.set c.ch.toNat d') g ≤ j + 1 := by
   intro d Ww hd d' e1 e2 e3 hn
   obtain ⟨k0, k1, _⟩ := ok.2.2 (by rcases Ww with e | e <;> rw [e] <;> decide)
   obtain ⟨d2, RA⟩ := aP (l := cs) (i := c.ch.toNat) (by omega)
   have : d2 = d := by rw [← hd]; simp [dK, RA]
   subst this
   have hm : d2 ∈ cs := List.mem_of_getElem? RA
   have Z6 := ih.buf d2 hm
   refine ⟨?_, ?_⟩
   ·rcases e3 with ⟨e3, e4⟩ | ⟨e3, e4⟩
    ·exact ih.more (k := c.ch) (w := ⟨g, j, 0⟩) RA (by rw [e1, e2]; exact Z6) (fun v hv => by
      rcases e3 v hv with e | e
      ·exact .inl e
      ·exact .inr ⟨e, hg, .inr ⟨uS, by dsimp only; omega, by dsimp only; show (j : Int) < (aj x g).wt.b; omega⟩⟩) (fun v hv => .inl (by rw [← e4]; exact hv)) hn (fun e => absurd uS e) (by show bW cs g < 32; omega)
    ·exact ih.more (k := c.ch) (w := ⟨g, j, fH.getD c.bR.toNat 0⟩) RA (by rw [e1, e2]; exact Z6) (fun v hv => .inl (by rw [← e4]; exact hv)) (fun v hv => by
      rcases e3 v hv with e | e
      ·exact .inl e
      ·exact .inr ⟨e, hg, .inr ⟨uS, by dsimp only; omega, by dsimp only; show (j : Int) < (aj x g).wt.b; omega⟩⟩) hn (fun e => absurd uS e) (by show bW cs g < 32; omega)
   ·have a := lW (fun c : aT => (cR c).count g) cs c.ch.toNat d' d2 RA
    have b := hn g
    rw [if_pos rfl] at b
    unfold bW at *
    omega
  split
  ·rename_i hw
   refine key _ (.inl hw) rfl _ rfl rfl (.inl ⟨fun v hv => ?_, rfl⟩) (fun q => ?_)
   ·rcases List.mem_append.1 hv with hv | hv
    ·exact .inl hv
    ·exact .inr (by simpa using hv)
   ·unfold cR
    rw [List.map_append, ← List.append_assoc]
    exact kZ _ _ _
  ·split
   ·rename_i hw
    refine key _ (.inr hw) rfl _ rfl rfl (.inr ⟨fun v hv => ?_, rfl⟩) (fun q => ?_)
    ·rcases List.mem_append.1 hv with hv | hv
     ·exact .inl hv
     ·exact .inr (by simpa using hv)
    ·unfold cR
     have := kZ ((dK cs c.ch).snd.map Wt.g) q g
     simp only [List.map_append, List.map_cons, List.map_nil, List.count_append] at *
     omega
   ·exact ⟨ih, by omega⟩
end
section
variable {p : b6} {x y z : Wd} {g q k n : Int} {f : List cH} {i : cH} {v : Wt} {d : jW}
theorem oT.RL {w : jo} (h : oT p w) (Bl : w.top.pc + 1 ≤ 64) : oT p (w.cI w.top.next) :=
 h.cI ⟨h.top.1, h.top.2.1, by have := h.top.2.2.1; show 0 ≤ w.top.pc + 1; omega, Bl, h.top.2.2.2.2⟩
theorem WV.next (h : WV p x) (hg : At x g 1) (Bl : (aj x g).top.pc + 1 ≤ 64) : WV p (x.next g) ∧ At (x.next g) g 1 ∧ (x.next g).gs.length = x.gs.length ∧ (∀ q, 0 ≤ q → q ≠ g → aj (x.next g) q = aj x q) ∧ (aj (x.next g) g).fs.length = (aj x g).fs.length := by
 have hz := (h.jP hg.1 hg.2.1).RL Bl
 have e : aj (x.next g) g = (aj x g).cI (aj x g).top.next := gI hg.1 hg.2.1
 refine ⟨h.bu hg.1 hg.2.1 hz rfl rfl, ⟨hg.1, by simpa [Wd.next, Wd.bu] using hg.2.1, by rw [e]; exact hg.2.2⟩, by simp [Wd.next, Wd.bu], fun q q0 hne => qP hg.1 hg.2.1 q0 hne, by rw [e]; simp [jo.cI]⟩
theorem Cv {c : ov} (h : c ∈ aC p i) : c ∈ p.cases := List.mem_of_mem_drop (List.mem_of_mem_take h)
theorem Fy {cases : List ov} {cs : List aT} (h : k ∈ enabled cases cs) : ∃ (j : Nat) (c : ov), k = (j : Int) ∧ j < cases.length ∧ cases[j]? = some c ∧ can cs c = true := by
 unfold enabled C2 at h
 obtain ⟨j, hj, rfl⟩ := List.mem_map.1 h
 obtain ⟨h1, h2⟩ := List.mem_filter.1 hj
 rw [List.mem_range] at h1
 obtain ⟨c, hc⟩ := aP (l := cases) (i := j) (by omega)
 unfold Nh at h2
 rw [hc] at h2
 exact ⟨j, c, rfl, h1, hc, h2⟩
theorem Lg (h : WV p x) (hp : dn p) (hg : At x g 1) (hf : f ∈ p.funcs) (hi : jX p f i) (uS : i.op = 16) (hr : x.ready = []) (Bl : (aj x g).top.pc + 1 ≤ 64)
  (hd : ∀ v, d = .num v → enabled (aC p i) x.aD ≠ [] → 0 ≤ v ∧ v < (enabled (aC p i) x.aD).length) :
  nh p x g i d = true ∧ (g7 p g x (x.choose p g i d) ∨ ∃ l, d = .cV l ∧ x.choose p g i d = .cV l x) := by
 have hi' := hi
 obtain ⟨_, _, _, _, _, _, _, _, _, i14, i16, _⟩ := hi'
 have hc := i14 (.inr uS)
 obtain ⟨a0, b1, ab⟩ := i16 uS
 have hcs := hp.cs
 have OE := h.bk hg.1 hg.2.1
 have hs := h.sm hp (by rw [hr]; decide)
 obtain ⟨n1, n2, n3, n4, n5⟩ := h.next hg Bl
 have Ro := (h.jP hg.1 hg.2.1).top.2.2.1
 have SX : (aC p i).length = i.b.toNat := by
  unfold aC
  rw [List.length_take, List.length_drop]; omega
 have Wx : ∀ c ∈ aC p i, c.Ok x.aD.length := fun c hc => by rw [h.ch]; exact (hp.cas c (Cv hc)).1
 have hne1 : (x.next g).aD = x.aD := rfl
 have Tf : ∀ k, k ∈ enabled (aC p i) x.aD → zH p x g i k ∧ g7 p g x (x.qh p g i k) := by
  intro k hk
  obtain ⟨j, c, rfl, hj, DM, hcan⟩ := Fy hk
  have hm : c ∈ aC p i := List.mem_of_getElem? DM
  have hrg := (hp.cas c (Cv hm)).2
  have hok := Wx c hm
  have ec : (aC p i).getD (j : Int).toNat ⟨0, 0, 0⟩ = c := by rw [Int.toNat_natCast, List.getD_eq_getElem?_getD, DM]; rfl
  have Ww : c.way = 0 ∨ c.way = 1 := by
   unfold can at hcan
   split at hcan
   ·rename_i e; exact .inl e
   ·split at hcan
    ·rename_i e; exact .inr e
    ·cases hcan
  obtain ⟨k0, k1, _⟩ := hok.2.2 (by rcases Ww with e | e <;> rw [e] <;> decide)
  have OZ : uV (x.next g) c.ch := ⟨k0, k1⟩
  unfold zH Wd.qh
  rw [ec]
  dsimp only
  by_cases hw : c.way = 1
  ·rw [if_pos hw, if_pos hw]
   obtain ⟨p1, p2⟩ := n1.put (n := bt (x.next g) g c.bR) hp OZ
   generalize (x.next g).put p c.ch (bt (x.next g) g c.bR) = r at p2
   match r, p2 with
   | .eD n y, p2 => exact ⟨⟨by omega, by omega, hrg, p1, trivial⟩, p2.1, (ij.of (Wk.same p2.2.1 p2.2.2) hr n2).pre n3 n4⟩
   | .on (y, true), p2 =>
    have ek := p2.2.keep hg.1 n2.2.2
    have el : g < y.gs.length := by rw [p2.2.1, n3]; exact hg.2.1
    exact ⟨⟨by omega, by omega, hrg, p1, p2.1.bk hg.1 el, by rw [ek, n5]⟩, p2.1.bq hg.1 el, ((ij.of p2.2 hr n2).pre n3 n4).bR hg.1 el⟩
   | .on (y, false), p2 =>
    have p3 : y = x.next g := p2
    subst p3
    have el : g < (x.next g).gs.length := by rw [n3]; exact hg.2.1
    exact ⟨⟨by omega, by omega, hrg, p1, n1.bk hg.1 el, n5⟩, n1.bq hg.1 el, ((ij.refl (x := x.next g) hr).pre n3 n4).bR hg.1 el⟩
   | .cV l y, p2 => exact p2.elim
  ·rw [if_neg hw, if_neg hw]
   obtain ⟨p1, p2, p3, _⟩ := n1.get hp OZ
   have ek := p3.keep hg.1 n2.2.2
   have el : g < ((x.next g).get c.ch).1.gs.length := by rw [p3.1, n3]; exact hg.2.1
   have r1 := p2.bq (g := g) (q := c.bR) (n := ((x.next g).get c.ch).2.1) hg.1 el
   exact ⟨⟨by omega, by omega, hrg, p1, p2.bk hg.1 el, by rw [ek, n5]⟩, r1.bq hg.1 (by rw [bP]; exact el), (((ij.of p3 hr n2).pre n3 n4).bR hg.1 el).bR hg.1 (by rw [bP]; exact el)⟩
 refine ⟨?_, ?_⟩
 ·unfold nh
  rw [Bool.and_eq_true]
  refine ⟨decide_eq_true ⟨OE, ⟨a0, by omega, ab, by omega⟩, hc, hs, by omega, Ro, Wx⟩, ?_⟩
  cases d with
  | cV l => rfl
  | num v =>
   dsimp only
   cases he : enabled (aC p i) x.aD with
   | nil => rfl
   | cons q t =>
    rw [List.isEmpty_cons, Bool.false_or]
    obtain ⟨v0, v1⟩ := hd v rfl (by rw [he]; simp)
    rw [he] at v1
    refine decide_eq_true ⟨v0, v1, (Tf _ ?_).1⟩
    rw [he, List.getD_eq_getElem?_getD, List.getElem?_eq_getElem (by omega), Option.getD_some]
    exact List.getElem_mem _
 ·unfold Wd.choose
  split
  ·refine .inl ?_
   unfold Wd.tF
   dsimp only
   split
   ·exact ⟨n1.bq hg.1 (by rw [n3]; exact hg.2.1), ((ij.refl (x := x.next g) hr).pre n3 n4).bR hg.1 (by rw [n3]; exact hg.2.1)⟩
   ·have hb := n1.block n2 hf hi
    have eg : aj ((x.next g).block g i) g = { aj (x.next g) g with st := 2, wt := i } := gI hg.1 (by rw [n3]; exact hg.2.1)
    have hfr := n2.free n1
    have hw := (Jn (x := (x.next g).block g i) hb ⟨hg.1, by simpa [Wd.block, Wd.bu, n3] using hg.2.1, by rw [eg]⟩ (by rw [eg]; exact uS) hfr (fH := u6 (aj (x.next g) g).top) (cases := aC p i) Wx (by rw [eg, SX]; show ((i.b.toNat : Nat) : Int) ≤ i.b; omega) (by omega) (aC p i).length (Nat.le_refl _)).1
    refine ⟨hw, ((ij.refl (x := x.next g) hr).pre n3 n4).Jm rfl (by simp [Wd.block, Wd.bu]) fun m m0 hne => ?_⟩
    show aj ((x.next g).bu g _) m = _
    exact qP hg.1 (by rw [n3]; exact hg.2.1) m0 hne
  ·rename_i hne
   cases d with
   | num v =>
    refine .inl (Tf _ ?_).2
    obtain ⟨v0, v1⟩ := hd v rfl hne
    rw [List.getD_eq_getElem?_getD, List.getElem?_eq_getElem (by omega), Option.getD_some]
    exact List.getElem_mem _
   | cV l => exact .inr ⟨l, rfl, rfl⟩
theorem Af (h : WV p x) (hp : dn p) (h0 : 0 ≤ g) (hd : ∀ v kd n, d = .num v → asks p { x with ready := [] } g = some (kd, n) → 0 ≤ v ∧ v < n) :
  ∃ r rest, xh p x g d = some (r, rest) ∧ (g7 p g { x with ready := [] } r ∧ (xg { x with ready := [] } g ∨ r = .on { x with ready := [] } ∧ rest = true) ∨ ∃ l, d = .cV l ∧ r = .cV l { x with ready := [] } ∧ rest = false ∧ xg { x with ready := [] } g ∧ asks p { x with ready := [] } g ≠ none) := by
 have h := h.ready (r := [])
 generalize hx : ({ x with ready := [] } : Wd) = x' at h hd
 have hr : x'.ready = [] := by rw [← hx]
 unfold xh
 rw [hx]
 dsimp only
 split
 ·rename_i O0
  have hg : At x' g 1 := ⟨O0.1, O0.2.1, O0.2.2.2⟩
  have hz := h.jP hg.1 hg.2.1
  obtain ⟨t1, t2, t3, t4, t5⟩ := hz.top
  rw [if_pos ⟨h.bk hg.1 hg.2.1, t1, t3, by omega⟩]
  obtain ⟨code, m9⟩ := aP (l := p.funcs) (i := (aj x' g).top.fn.toNat) (by omega)
  rw [m9]
  dsimp only
  have hf : code ∈ p.funcs := List.mem_of_getElem? m9
  obtain ⟨c1, c2, c3⟩ := hp.code code hf
  cases Wy : code[(aj x' g).top.pc.toNat]? with
  | none => exact ⟨_, _, rfl, .inl ⟨⟨h, ij.refl hr⟩, .inl O0⟩⟩
  | some i =>
   dsimp only
   have hi : jX p code i := c3 i (List.mem_of_getElem? Wy)
   have hi' := hi
   obtain ⟨o0, o1, o2, o7, o8, o9, o10, o13, o13b, o14, o16, o18, o21⟩ := hi'
   have hpl := (List.getElem?_eq_some_iff.1 Wy).1
   have Bl : (aj x' g).top.pc + 1 ≤ 64 := by omega
   obtain ⟨n1, n2, n3, n4, n5⟩ := h.next hg Bl
   have xd : (x'.next g).ready = [] := hr
   have jN : asks p x' g = if i.op = 21 then some (4, i.b) else if i.op = 16 then (if enabled (aC p i) x'.aD = [] then none else some (3, (enabled (aC p i) x'.aD).length)) else none := by
    unfold asks Fk
    rw [if_pos O0, m9]
    dsimp only
    rw [Wy]
   have fin : ∀ {r : Out Wd}, g7 p g (x'.next g) r → g7 p g x' r := by
    intro r hres
    cases r with
    | on y => exact ⟨hres.1, hres.2.pre n3 n4⟩
    | eD n y => exact ⟨hres.1, hres.2.pre n3 n4⟩
    | cV l y => exact hres.elim
   split
   ·rename_i h8
    try rw [if_pos o2]
    refine ⟨_, _, rfl, .inl ⟨⟨h.bu hg.1 hg.2.1 (hz.cI ?_) rfl rfl, (ij.refl hr).bu hg.1 hg.2.1⟩, .inl O0⟩⟩
    unfold gQ.pure
    have base : Ft p (aj x' g).top.next := ⟨t1, t2, by show 0 ≤ (aj x' g).top.pc + 1; omega, Bl, t5⟩
    split; exact base
    split; exact base.set _ _
    split; exact base.set _ _
    split; exact base.set _ _
    split; exact base.set _ _
    split; exact base.set _ _
    split; exact base.set _ _
    split
    ·rename_i e
     exact ⟨t1, t2, (o7 e).1, by have := (o7 e).2; show i.a ≤ 64; omega, t5⟩
    ·split
     ·have := o8 (by omega)
      exact ⟨t1, t2, this.1, by show i.b ≤ 64; omega, t5⟩
     ·exact base
   ·rename_i h8
    split
    ·rename_i uS
     have hw := Lg (d := d) h hp hg hf hi uS hr Bl (fun v hv hne => by
      refine hd v 3 _ hv ?_
      rw [jN, if_neg (by omega), if_pos uS, if_neg hne])
     rw [if_pos hw.1]
     rcases hw.2 with GJ | ⟨l, CW, GJ⟩
     ·rw [if_pos (GJ.lt hg)]
      exact ⟨_, _, rfl, .inl ⟨GJ, .inl O0⟩⟩
     ·rw [GJ, if_pos (show g < (Out.fin (.cV l x')).gs.length from hg.2.1)]
      refine ⟨_, _, rfl, .inr ⟨l, CW, rfl, rfl, O0, ?_⟩⟩
      rw [jN, if_neg (by omega), if_pos uS]
      split
      ·rename_i e
       unfold Wd.choose at GJ
       rw [if_pos e] at GJ
       cases GJ
      ·simp
    ·rename_i uS
     split
     ·rename_i ZF
      rw [if_pos (o10 (.inr (.inr (.inr ZF))))]
      cases d with
      | num v =>
       have hl : g < (x'.next g).gs.length := by rw [n3]; exact hg.2.1
       have hres : g7 p g x' (x'.rand g i (.num v)) := ⟨n1.bq hg.1 hl, ((ij.refl (x := x'.next g) hr).pre n3 n4).bR hg.1 hl⟩
       rw [if_pos (hres.lt hg)]
       exact ⟨_, _, rfl, .inl ⟨hres, .inl O0⟩⟩
      | cV l =>
       rw [if_pos (show g < (Out.fin (x'.rand g i (.cV l))).gs.length from hg.2.1)]
       exact ⟨_, _, rfl, .inr ⟨l, rfl, rfl, rfl, O0, by rw [jN, if_pos ZF]; simp⟩⟩
     ·rename_i ZF
      have go : ∀ r, nX p (x'.next g) g i = some r → g7 p g (x'.next g) r → ∃ r rest, (match nX p (x'.next g) g i with
        | none => none
        | some r => if g < r.fin.gs.length then some (r, Hx i.op r) else none) = some (r, rest) ∧ (g7 p g x' r ∧ (xg x' g ∨ r = .on x' ∧ rest = true) ∨ ∃ l, d = .cV l ∧ r = .cV l x' ∧ rest = false ∧ xg x' g ∧ asks p x' g ≠ none) := by
       intro r Ox hres
       rw [Ox]
       dsimp only
       rw [if_pos (hres.lt n2)]
       exact ⟨_, _, rfl, .inl ⟨fin hres, .inl O0⟩⟩
      have hop : i.op = 9 ∨ i.op = 10 ∨ i.op = 11 ∨ i.op = 12 ∨ i.op = 13 ∨ i.op = 14 ∨ i.op = 15 ∨ i.op = 17 ∨ i.op = 18 ∨ i.op = 19 ∨ i.op = 20 ∨ i.op = 22 := by omega
      rcases hop with e | e | e | e | e | e | e | e | e | e | e | e
      ·have w := RE n1 n2 hi e xd
       refine go _ ?_ w.2
       unfold nX
       rw [e]; simp only [Int.reduceEq, if_false, if_true]
       rw [if_pos w.1]
      ·have w := RG n1 n2 hi e xd
       refine go _ ?_ w.2
       unfold nX
       rw [e]; simp only [if_true]
       rw [if_pos w.1]
      ·have w := OY n1 hp n2 hi e xd
       refine go _ ?_ w.2
       unfold nX
       rw [e]; simp only [Int.reduceEq, if_false, if_true]
       rw [if_pos w.1]
      ·refine go (.on (x'.next g)) ?_ ⟨n1, ij.refl xd⟩
       unfold nX
       rw [e]; simp only [Int.reduceEq, if_false, if_true]
      ·have w := RH n1 hp n2 hf hi e xd
       refine go _ ?_ w.2
       unfold nX
       rw [e]; simp only [Int.reduceEq, if_false, if_true]
       rw [if_pos w.1]
      ·have w := RI n1 hp n2 hf hi e xd
       refine go _ ?_ w.2
       unfold nX
       rw [e]; simp only [Int.reduceEq, if_false, if_true]
       rw [if_pos w.1]
      ·have w := RJ n1 hp n2 hi e xd
       refine go _ ?_ w.2
       unfold nX
       rw [e]; simp only [Int.reduceEq, if_false, if_true]
       rw [if_pos w.1]
      ·have w := OW n1 hp n2 hi e xd
       refine go _ ?_ w.2
       unfold nX
       rw [e]; simp only [Int.reduceEq, if_false, if_true]
       rw [if_pos w.1]
      ·have w := RK n1 hp n2 hf hi e xd
       refine go _ ?_ w.2
       unfold nX
       rw [e]; simp only [Int.reduceEq, if_false, if_true]
       rw [if_pos w.1]
      ·have w := Lf n1 hp n2 hi e xd
       refine go _ ?_ w.2
       unfold nX
       rw [e]; simp only [Int.reduceEq, if_false, if_true]
       rw [if_pos w.1]
      ·have w := RF n1 hp n2 hi e xd
       refine go _ ?_ w.2
       unfold nX
       rw [e]; simp only [Int.reduceEq, if_false, if_true]
       rw [if_pos w.1]
      ·refine go (.eD i.a (x'.next g)) ?_ ⟨n1, ij.refl xd⟩
       unfold nX
       rw [e]; simp only [Int.reduceEq, if_false, if_true]
 ·exact ⟨_, _, rfl, .inl ⟨⟨h, ij.refl hr⟩, .inr ⟨rfl, rfl⟩⟩⟩
theorem DD {w : Wd} {k n : Int} (hp : dn p) (h : asks p w g = some (k, n)) : 1 ≤ n ∧ n < 1099511627776 := by
 unfold asks at h
 split at h
 ·split at h
  ·cases h
  ·rename_i ins hi
   have hio : ∃ f ∈ p.funcs, ins ∈ f := by
    unfold Fk at hi
    split at hi
    ·cases hi
    ·rename_i code hc
     exact ⟨code, List.mem_of_getElem? hc, List.mem_of_getElem? hi⟩
   obtain ⟨f, hf, hm⟩ := hio
   have hok := (hp.code f hf).2.2 ins hm
   split at h
   ·rename_i e
    simp only [Option.some.injEq, Prod.mk.injEq] at h
    have := hok.2.2.2.2.2.2.2.2.2.2.2.2 e
    omega
   ·split at h
    ·split at h
     ·cases h
     ·rename_i hne
      simp only [Option.some.injEq, Prod.mk.injEq] at h
      have h1 : (enabled (aC p ins) w.aD).length ≤ (aC p ins).length := ED _ _ _
      have h2 : (aC p ins).length ≤ p.cases.length := by
       unfold aC
       rw [List.length_take, List.length_drop]; omega
      have := hp.cs
      have h3 : 0 < (enabled (aC p ins) w.aD).length := by
       rcases hl : enabled (aC p ins) w.aD with _ | ⟨q, t⟩
       ·exact absurd hl hne
       ·simp
      omega
    ·cases h
 ·cases h
end
section
variable {p : b6} {x y z : Wd} {g q k n : Int}
theorem Cw : ∀ (l : List Int) (x : Wd), WV p x → l.Nodup → (∀ q ∈ l, 0 ≤ q ∧ q < x.gs.length ∧ (aj x q).st ≠ 1 ∧ ni x q) → WV p (l.foldl Wd.eZ x) ∧ Wk x (l.foldl Wd.eZ x) ∧ (l.foldl Wd.eZ x).ready = x.ready ++ l
 | [], x, h, _, _ => ⟨h, Wk.refl x, by simp⟩
 | q :: l, x, h, hn, ha => by
  obtain ⟨q0, q1, q2, q3⟩ := ha q (by simp)
  obtain ⟨Rb, xu⟩ := List.nodup_cons.1 hn
  obtain ⟨r1, r2, r3⟩ := Cw l (x.eZ q) (h.eZ q0 q1 q3) xu (fun m hm => by
   obtain ⟨m0, m1, m2, m3⟩ := ha m (List.mem_cons_of_mem _ hm)
   have hne : m ≠ q := fun e => Rb (e ▸ hm)
   exact ⟨m0, by rw [nk]; exact m1, by rw [qO q0 q1 m0 hne]; exact m2, m3⟩)
  refine ⟨r1, (Wk.eZ q0 q1 q2).trans r2, ?_⟩
  rw [List.foldl_cons, r3]
  show (x.ready ++ [q]) ++ l = _
  simp
def IW (x : Wd) : List Int := (dM x.hl.length x.hl (IntKind.wrap .u64 (x.clock + 1))).2.map bz.id
theorem RM (he : x.end_ = 0) : x.tick = (IW x).foldl Wd.eZ { x with clock := IntKind.wrap .u64 (x.clock + 1), hl := (dM x.hl.length x.hl (IntKind.wrap .u64 (x.clock + 1))).1, ready := [] } := by
 unfold Wd.tick
 rw [if_neg (by rw [he]; decide)]
 rfl
theorem Jo (h : WV p x) : (∀ y ∈ (dM x.hl.length x.hl (IntKind.wrap .u64 (x.clock + 1))).2, 0 ≤ y.id ∧ y.id < x.gs.length) ∧ WV p x.tick ∧ Wk { x with ready := [] } x.tick ∧ x.tick.ready.length ≤ 100 := by
 generalize hr : dM x.hl.length x.hl (IntKind.wrap .u64 (x.clock + 1)) = r
 have hp : x.hl.Perm (r.2 ++ r.1) := by rw [← hr]; exact Ae _ _ _
 have m2 : ∀ y ∈ r.2, y ∈ x.hl := fun y hy => hp.mem_iff.2 (List.mem_append_left _ hy)
 have m1 : ∀ y ∈ r.1, y ∈ x.hl := fun y hy => hp.mem_iff.2 (List.mem_append_right _ hy)
 have hc : ∀ q, (r.2.map bz.id).count q + (r.1.map bz.id).count q ≤ 1 := fun q => by
  have a := h.h1 q
  unfold DA at a
  rw [(hp.map bz.id).count_eq, List.map_append, List.count_append] at a
  exact a
 refine ⟨fun y hy => ⟨(h.hl y (m2 y hy)).1, (h.hl y (m2 y hy)).2.1⟩, ?_⟩
 by_cases he : x.end_ = 0
 ·rw [RM he]
  unfold IW
  rw [hr]
  have h1 : WV p { x with clock := IntKind.wrap .u64 (x.clock + 1), hl := r.1, ready := [] } :=
   ⟨h.n1, h.n2, h.Fu, h.ch, h.lk, h.buf, h.eC, h.snd, h.lw, fun y hy => h.hl y (m1 y hy), h.one, h.Dl, fun q => by have := hc q; unfold DA; dsimp only; omega, h.out⟩
  have hnd : (r.2.map bz.id).Nodup := List.nodup_iff_count.2 fun q => by have := hc q; omega
  obtain ⟨r1, r2, r3⟩ := Cw (r.2.map bz.id) { x with clock := IntKind.wrap .u64 (x.clock + 1), hl := r.1, ready := [] } h1 hnd (fun q hq => by
   obtain ⟨y, hy, rfl⟩ := List.mem_map.1 hq
   have a := h.hl y (m2 y hy)
   refine ⟨a.1, a.2.1, by show (aj x y.id).st ≠ 1; rw [a.2.2]; decide, fun c Xh hg => ?_, fun l hl hg => ?_, fun w hw e => ?_⟩
   ·have := (h.RC Xh hg).1.2.2
    rw [a.2.2] at this; cases this
   ·have := (h.lw l hl _ hg).1.2.2
    rw [a.2.2] at this; cases this
   ·have b := hc y.id
    have c1 : 0 < (r.2.map bz.id).count y.id := List.count_pos_iff.2 hq
    have c2 : 0 < (r.1.map bz.id).count y.id := List.count_pos_iff.2 (List.mem_map.2 ⟨w, hw, e⟩)
    omega)
  refine ⟨r1, Wk.trans (Wk.same rfl rfl) r2, ?_⟩
  rw [r3]
  have a := h.Ji
  have b := hp.length_eq
  simp only [List.length_append, List.length_map, List.nil_append] at *
  omega
 ·have e : x.tick = { x with ready := [] } := by unfold Wd.tick; rw [if_pos he]
  rw [e]
  exact ⟨h.ready, Wk.refl _, by simp⟩
theorem Wz (hp : dn p) : WV p (Wd.new p) := by
 have e : ∀ q, aj (Wd.new p) q = if q.toNat = 0 then ⟨1, [gQ.begin 0 0], .zero⟩ else ⟨0, [], .zero⟩ := by
  intro q
  unfold aj Wd.new
  dsimp only
  split
  ·rename_i e; rw [e]; rfl
  ·rename_i e
   rw [List.getD_eq_getElem?_getD, List.getElem?_eq_none (by simp; omega)]; rfl
 have ye : ∀ c ∈ (Wd.new p).aD, ∃ n, c = aT.new n := fun c hc => by
  obtain ⟨n, _, rfl⟩ := List.mem_map.1 hc
  exact ⟨n, rfl⟩
 have hlk : ∀ l ∈ (Wd.new p).aL, l.waits = [] := fun l hl => by
  have := List.eq_of_mem_replicate hl
  rw [this]
 have z1 : ∀ q, bW (Wd.new p).aD q = 0 := fun q => qx _ _ fun c hc => by
  obtain ⟨n, rfl⟩ := ye c hc
  rfl
 have z2 : ∀ q, gM (Wd.new p).aL q = 0 := fun q => qx _ _ fun l hl => by rw [hlk l hl]; rfl
 refine ⟨by simp [Wd.new], by simp [Wd.new], fun y hy => ?_, by simp [Wd.new], by (simp [Wd.new]; have := hp.lk.1; omega), fun c hc => ?_, fun c hc v hv => ?_, fun c hc v hv => ?_, fun l hl q hq => ?_, fun y hy => by simp [Wd.new] at hy, fun q _ _ => by rw [z1, z2]; omega, fun q => by rw [z1]; omega, fun q => by simp [DA, Wd.new], by simp [Wd.new]⟩
 ·simp only [Wd.new, List.mem_singleton] at hy
  subst hy
  refine ⟨by simp, by simp, fun r hr => ?_, (fun e => by cases e), by show (1 : Int) ≤ 1 ∧ (1 : Int) ≤ 4; decide⟩
  simp only [List.mem_singleton] at hr; subst hr
  exact ⟨Int.le_refl 0, by have := hp.f1; show (0 : Int) < _; omega, Int.le_refl 0, (by show (0 : Int) ≤ 64; decide), by show aU 0; decide⟩
 ·obtain ⟨n, rfl⟩ := ye c hc
  exact ⟨Nat.zero_le _, MG n⟩
 ·obtain ⟨n, rfl⟩ := ye c hc
  cases hv
 ·obtain ⟨n, rfl⟩ := ye c hc
  cases hv
 ·rw [hlk l hl] at hq; cases hq
end
def jQ (ps : List dm) (a : Int) : Nat := ((ps.map dm.q).flatMap Loc.all).count a
def Bq (ms : List va) (a : Int) : Nat := (ms.flatMap fun m => jA m.g).count a
def jR (x : Sc) (a : Int) : Nat := jQ x.ps a + x.gl.count a + Bq x.ms a
def RN (q : Loc) : Prop := q.l.length ≤ q.room ∧ q.room ≤ 1024 ∧ 0 < q.room
def MV (P : Nat) (m : va) : Prop := (m.p = -1 ∧ m.g = -1 ∧ m.left = 0) ∨ (0 ≤ m.p ∧ m.p < P ∧ -1 ≤ m.g ∧ 0 ≤ m.left ∧ m.left ≤ 1024 ∧ (0 ≤ m.g → 1 ≤ m.left))
structure SV (p : b6) (N : Nat) (x : Sc) : Prop where
 w : WV p x.w
 one : ∀ a, At x.w a 1 → jR x a = 1
 zero : ∀ a, ¬ At x.w a 1 → jR x a = 0
 cP : x.c.P = x.ps.length
 cM : x.c.M = x.ms.length
 P1 : 1 ≤ x.ps.length ∧ x.ps.length ≤ 64
 M1 : 1 ≤ x.ms.length ∧ x.ms.length ≤ 64
 cS : 1 ≤ x.c.S ∧ x.c.S ≤ 1024
 room : ∀ pr ∈ x.ps, RN pr.q
 dO : ∀ pr ∈ x.ps, 0 ≤ pr.turns ∧ pr.turns ≤ N
 ms : ∀ m ∈ x.ms, MV x.ps.length m
 eV : ∀ (i : Nat) m, x.ms[i]? = some m → m.p ≠ -1 → (ay x m.p).eV = i
 st : 0 ≤ x.steps ∧ x.steps ≤ N
 tk : x.d.taken.length ≤ 3 * N
 k : x.d.k.Ok
section
variable {p : b6} {N : Nat} {x y z : Sc} {m i g a : Int}
theorem qz {ps : List dm} {j : Nat} {pr S6 : dm} (h : ps[j]? = some pr) : jQ (ps.set j S6) a + pr.q.all.count a = jQ ps a + S6.q.all.count a := by
 unfold jQ
 rw [List.map_set]
 exact Rd a (by rw [List.getElem?_map, h]; rfl)
theorem Ag : ∀ {ms : List va} {j : Nat} {mc lY : va}, ms[j]? = some mc → Bq (ms.set j lY) a + (jA mc.g).count a = Bq ms a + (jA lY.g).count a
 | [], _, _, _, h => by simp at h
 | z :: ms, 0, mc, lY, h => by
  simp only [List.getElem?_cons_zero, Option.some.injEq] at h; subst h
  simp only [Bq, List.set_cons_zero, List.flatMap_cons, List.count_append]; omega
 | z :: ms, j + 1, mc, lY, h => by
  have := Ag (ms := ms) (lY := lY) (j := j) (by simpa using h)
  simp only [Bq, List.set_cons_succ, List.flatMap_cons, List.count_append] at *; omega
theorem od {α : Type} (f : α → List Int) : ∀ (l : List α) (b : α), b ∈ l → (f b).count a ≤ (l.flatMap f).count a
 | c :: l, b, h => by
  simp only [List.flatMap_cons, List.count_append]
  rcases List.mem_cons.1 h with rfl | h
  ·omega
  ·have := od f l b h; omega
theorem SV.Z7 (h : SV p N x) : jR x a ≤ 1 := by
 by_cases e : At x.w a 1
 ·rw [h.one a e]; omega
 ·rw [h.zero a e]; omega
theorem SV.at_ (h : SV p N x) (hc : 0 < jR x a) : At x.w a 1 := Classical.byContradiction fun e => by rw [h.zero a e] at hc; omega
theorem SV.Tg (h : SV p N x) : ∀ v ∈ x.gl, 0 ≤ v := fun v hv => (h.at_ (a := v) (by have : 0 < x.gl.count v := List.count_pos_iff.2 hv; unfold jR; omega)).1
theorem SV.O1 (h : SV p N x) {pr : dm} (hp : pr ∈ x.ps) : pr.q.Pos := by
 have gS : ∀ v ∈ pr.q.all, 0 ≤ v := fun v hv => (h.at_ (a := v) (by
  have h1 := od (a := v) Loc.all (x.ps.map dm.q) pr.q (List.mem_map.2 ⟨pr, hp, rfl⟩)
  have : 0 < pr.q.all.count v := List.count_pos_iff.2 hv
  unfold jR jQ; omega)).1
 refine ⟨?_, fun v hv => gS v (by unfold Loc.all; simp [hv])⟩
 by_cases hn : pr.q.next = -1
 ·omega
 ·have := gS pr.q.next (by unfold Loc.all; rw [if_neg hn]; simp)
  omega
theorem SV.WB (h : SV p N x) : x.gl.length ≤ 100 := by
 have h1 := oa (b := 1) x.w.gs.length x.gl (fun v hv => by
  have := h.at_ (a := v) (by have : 0 < x.gl.count v := List.count_pos_iff.2 hv; unfold jR; omega)
  exact ⟨this.1, this.2.1⟩) (fun v => by have := h.Z7 (a := v); unfold jR at this; omega)
 have := h.w.n2
 omega
theorem SV.mg (h : SV p N x) {mc : va} (hm : mc ∈ x.ms) (h0 : 0 ≤ mc.g) : At x.w mc.g 1 := h.at_ (by
 have h1 := od (a := mc.g) (fun m : va => jA m.g) x.ms mc hm
 have : (jA mc.g).count mc.g = 1 := by rw [iS h0]; simp
 unfold jR Bq; omega)
theorem gD (h0 : 0 ≤ m) (hm : m < x.ms.length) : x.ms[m.toNat]? = some (ax x m) := by
 obtain ⟨y, hy⟩ := aP (l := x.ms) (i := m.toNat) (by omega)
 rw [hy]; simp [ax, hy]
theorem mz (h0 : 0 ≤ i) (hi : i < x.ps.length) : x.ps[i.toNat]? = some (ay x i) := by
 obtain ⟨y, hy⟩ := aP (l := x.ps) (i := i.toNat) (by omega)
 rw [hy]; simp [ay, hy]
def cX : dm := ⟨⟨-1, 0, []⟩, 0, -1⟩
theorem SV.go (h : SV p N x) (m0 : 0 ≤ m) (m1 : m < x.ms.length) (i0 : 0 ≤ i) (i1 : i < x.ps.length) (ps' : List dm) (lY : va) (Dx : List Int) (d' : jB)
  (hl : ps'.length = x.ps.length) (hr : ∀ pr ∈ ps', RN pr.q ∧ 0 ≤ pr.turns ∧ pr.turns ≤ N + 1) (hb : ∀ j : Nat, j ≠ i.toNat → (ps'.getD j cX).eV = (x.ps.getD j cX).eV)
  (hbi : lY.p = -1 ∨ lY.p = i ∧ (ps'.getD i.toNat cX).eV = m) (hold : (ax x m).p = i ∨ (ay x i).eV = -1) (Ah : MV x.ps.length lY)
  (hc : ∀ a, jQ ps' a + Dx.count a + (jA lY.g).count a = jQ x.ps a + x.gl.count a + (jA (ax x m).g).count a) (hd : d'.taken.length ≤ 3 * N + 3) (hk : d'.k.Ok) :
  SV p (N + 1) { x with ps := ps', ms := x.ms.set m.toNat lY, gl := Dx, d := d' } := by
 have jF := gD m0 m1
 have hS : ∀ a, jR { x with ps := ps', ms := x.ms.set m.toNat lY, gl := Dx, d := d' } a = jR x a := fun a => by
  have e1 := Ag (a := a) (lY := lY) jF
  have e2 := hc a
  unfold jR
  dsimp only
  omega
 refine ⟨h.w, fun a ha => by rw [hS]; exact h.one a ha, fun a ha => by rw [hS]; exact h.zero a ha, by rw [hl]; exact h.cP, by simpa using h.cM, by rw [hl]; exact h.P1, by simpa using h.M1, h.cS, fun pr hp => (hr pr hp).1, fun pr hp => (by have := (hr pr hp).2; omega), fun mc Gu => ?_, fun j mc hj hne => ?_, by have := h.st; dsimp only; omega, by dsimp only; omega, hk⟩
 ·rw [hl]
  rcases js Gu with Gu | rfl
  ·exact h.ms mc Gu
  ·exact Ah
 ·by_cases e : j = m.toNat
  ·subst e
   rw [List.getElem?_set_self (by omega)] at hj
   simp only [Option.some.injEq] at hj
   subst hj
   rcases hbi with hbi | ⟨e1, e2⟩
   ·exact absurd hbi hne
   ·show (ps'.getD lY.p.toNat cX).eV = _
    rw [e1, e2]; omega
  ·rw [List.getElem?_set_ne (Ne.symm e)] at hj
   have hby := h.eV j mc hj hne
   have hmv2 := h.ms mc (List.mem_of_getElem? hj)
   have hpi : mc.p.toNat ≠ i.toNat := by
    intro e2
    have e3 : mc.p = i := by rcases hmv2 with hh | hh; exact absurd hh.1 hne; omega
    rw [e3] at hby
    rcases hold with e4 | e4
    ·have := h.eV m.toNat (ax x m) jF (by rw [e4]; omega)
     rw [e4, hby] at this
     omega
    ·rw [e4] at hby; omega
   show (ps'.getD mc.p.toNat cX).eV = _
   rw [hb _ hpi]
   exact hby
end
section
variable {p : b6} {N : Nat} {x y z : Sc} {m i g a : Int}
theorem RO {q : Loc} (h : ∀ v ∈ q.all, 0 ≤ v) : q.Pos := by
 refine ⟨?_, fun v hv => h v (by unfold Loc.all; simp [hv])⟩
 by_cases hn : q.next = -1
 ·omega
 ·have := h q.next (by unfold Loc.all; rw [if_neg hn]; simp)
  omega
theorem RP {q : Loc} (h : q.Pos) : ∀ v ∈ q.all, 0 ≤ v := by
 intro v hv
 unfold Loc.all at hv
 rcases List.mem_append.1 hv with hv | hv
 ·split at hv
  ·cases hv
  ·simp only [List.mem_singleton] at hv; subst hv; have := h.1; omega
 ·exact h.2 v hv
theorem Jp {q : Loc} {t : Int} {gl : List Int} (hq : q.Pos) (hb : RN q) (hg : ∀ v ∈ gl, 0 ≤ v) :
  RN (gf q t gl).1 ∧ (∀ a, (gf q t gl).1.all.count a + (gf q t gl).2.1.count a + (jA (gf q t gl).2.2.1).count a = q.all.count a + gl.count a) ∧
   ((gf q t gl).2.2.2 = true → 0 ≤ (gf q t gl).2.2.1) ∧ ((gf q t gl).2.2.2 = false → (gf q t gl).2.2.1 = -1) := by
 have c1 := Fa q gl
 have b1 := Re hb gl
 unfold gf
 generalize q.dO gl = r at c1 b1
 obtain ⟨q1, g1, n1⟩ := r
 dsimp only at c1 b1 ⊢
 have nn : ∀ v, 0 < q.all.count v + gl.count v → 0 ≤ v := fun v hv => by
  by_cases e : v ∈ gl
  ·exact hg v e
  ·rw [List.count_eq_zero.2 e] at hv
   exact RP hq v (List.count_pos_iff.1 (by omega))
 have p1 : q1.Pos := RO fun v hv => nn v (by have : 0 < q1.all.count v := List.count_pos_iff.2 hv; have := c1 v; omega)
 have KS : ∀ v ∈ g1, 0 ≤ v := fun v hv => nn v (by have : 0 < g1.count v := List.count_pos_iff.2 hv; have := c1 v; omega)
 split
 ·rename_i hh
  cases g1 with
  | nil => simp at hh
  | cons v l =>
   refine ⟨b1, fun a => ?_, fun _ => KS v (by simp), fun e => by cases e⟩
   have := c1 a
   simp only [List.drop_succ_cons, List.drop_zero, List.headD_cons]
   rw [iS (KS v (by simp))]
   simp only [List.count_cons, List.count_nil] at *
   omega
 ·split
  ·rename_i hh
   have hgp := I8 p1
   have h0 : 0 ≤ q1.get.2 := by
    rcases hgp with ⟨e1, e2, _⟩ | ⟨_, h0⟩
    ·unfold nZ at hh
     rw [e1, e2] at hh
     cases hh
    ·exact h0
   refine ⟨Oq b1, fun a => ?_, fun _ => h0, fun e => by cases e⟩
   have := c1 a
   have := I7 q1 p1 a
   dsimp only
   omega
  ·rename_i hh
   have e1 : q1.next = -1 ∧ q1.l = [] := by
    unfold nZ at hh
    simp only [Bool.or_eq_true, bne_iff_ne, ne_eq, Bool.not_eq_true', List.isEmpty_eq_false_iff, not_or, Decidable.not_not] at hh
    exact hh
   have eg : q1.get = (q1, -1) := by
    unfold Loc.get
    rw [if_neg (by rw [e1.1]; decide), e1.2]
   rw [eg]
   dsimp only
   have c2 := KL q1 g1 KS 0
   refine ⟨Ot b1 _ _, fun a => ?_, fun e => ?_, fun e => ?_⟩
   ·have := c1 a
    have := c2 a
    omega
   ·rcases Cg (x := q1) KS 0 with ⟨e2, _⟩ | ⟨_, h0⟩
    ·rw [e2] at e; cases e
    ·exact h0
   ·rcases Cg (x := q1) KS 0 with ⟨_, h0⟩ | ⟨e2, _⟩
    ·exact h0
    ·cases g1 with
     | nil => exact absurd rfl e2
     | cons v l => cases e
theorem SV.mono {N' : Nat} (h : SV p N x) (hn : N ≤ N') : SV p N' x :=
 ⟨h.w, h.one, h.zero, h.cP, h.cM, h.P1, h.M1, h.cS, h.room, fun pr hp => by have := h.dO pr hp; omega, h.ms, h.eV, by have := h.st; omega, by have := h.tk; omega, h.k⟩
theorem SV.inc (h : SV p (N + 1) y) (hs : 0 ≤ y.steps ∧ y.steps ≤ N) : SV p (N + 1) { y with steps := y.steps + 1 } :=
 ⟨h.w, h.one, h.zero, h.cP, h.cM, h.P1, h.M1, h.cS, h.room, h.dO, h.ms, h.eV, by dsimp only; omega, h.tk, h.k⟩
theorem SV.draw {d' : jB} (h : SV p N x) (hd : d'.taken.length ≤ 3 * N + 3) (hk : d'.k.Ok) : SV p (N + 1) { x with d := d' } :=
 ⟨h.w, h.one, h.zero, h.cP, h.cM, h.P1, h.M1, h.cS, h.room, fun pr hp => by have := h.dO pr hp; omega, h.ms, h.eV, by have := h.st; dsimp only; omega, by dsimp only; omega, hk⟩
theorem bH {l : List dm} {n : Nat} {b : dm} (h : n < l.length) : (l.set n b).getD n cX = b := by simp [List.getD_eq_getElem?_getD, List.getElem?_set_self h]
theorem getD_set_ne {l : List dm} {n j : Nat} {b : dm} (h : j ≠ n) : (l.set n b).getD j cX = l.getD j cX := by simp [List.getD_eq_getElem?_getD, List.getElem?_set_ne (Ne.symm h)]
theorem SV.hold {d' : jB} (h : SV p N x) (m0 : 0 ≤ m) (m1 : m < x.ms.length) (hm : (ax x m).p = -1) (hd : d'.taken.length ≤ 3 * N + 3) (hk : d'.k.Ok) : SV p (N + 1) (Sc.hold { x with d := d' } m).1 ∧ (Sc.hold { x with d := d' } m).1.steps = x.steps := by
 unfold Sc.hold
 dsimp only
 have jF := gD m0 m1
 split
 ·rename_i n hn
  obtain ⟨hlt, hb, _⟩ := List.findIdx?_eq_some_iff_getElem.1 hn
  have jE := mz (x := x) (i := (n : Int)) (by omega) (by omega)
  rw [Int.toNat_natCast] at jE
  have eb : (ay x (n : Int)).eV = -1 := by
   rw [List.getElem?_eq_getElem hlt, Option.some.injEq] at jE
   rw [← jE]; simpa using hb
  have Ah := h.ms _ (List.mem_of_getElem? jF)
  have hg : (ax x m).g = -1 ∧ (ax x m).left = 0 := by rcases Ah with e | e; exact e.2; omega
  refine ⟨?_, rfl⟩
  refine h.go (i := (n : Int)) m0 m1 (by omega) (by omega) (x.ps.set n { ay x (n : Int) with eV := m }) { ax x m with p := (n : Int) } x.gl d' (by simp) (fun pr hp => ?_) (fun j hj => ?_) (.inr ⟨rfl, ?_⟩) (.inr eb) (.inr ⟨by dsimp only; omega, by dsimp only; omega, by dsimp only; omega, by dsimp only; omega, by dsimp only; omega, by dsimp only; omega⟩) (fun a => ?_) hd hk
  ·rcases List.mem_or_eq_of_mem_set hp with hp | rfl
   ·exact ⟨h.room pr hp, by have := h.dO pr hp; omega⟩
   ·have hm := List.mem_of_getElem? jE
    exact ⟨h.room (ay x (n : Int)) hm, by have := h.dO _ hm; dsimp only; omega⟩
  ·rw [Int.toNat_natCast] at hj
   rw [getD_set_ne hj]
  ·rw [Int.toNat_natCast, bH hlt]
  ·have := qz (a := a) (S6 := { ay x (n : Int) with eV := m }) jE
   dsimp only at *
   omega
 ·exact ⟨h.draw hd hk, rfl⟩
theorem SV.tick {d' : jB} (h : SV p N x) (hd : d'.taken.length ≤ 3 * N + 3) (hk : d'.k.Ok) : zO { x with d := d' } ∧ SV p (N + 1) (Sc.tick { x with d := d' }).1 ∧ (Sc.tick { x with d := d' }).1.steps = x.steps := by
 obtain ⟨t1, t2, t3, t4⟩ := Jo h.w
 have hg := h.WB
 refine ⟨⟨by have := h.w.Ji; dsimp only; omega, t1, by dsimp only; omega⟩, ?_, rfl⟩
 unfold Sc.tick
 dsimp only
 obtain ⟨a1, l, a2, a3, a4, a5⟩ := t3
 rw [List.nil_append] at a2
 rw [a2]
 have hS : ∀ a, jR { x with w := x.w.tick, gl := x.gl ++ l, d := d' } a = jR x a + l.count a := fun a => by
  unfold jR; dsimp only; rw [List.count_append]; omega
 have hA : ∀ a, At x.w.tick a 1 ↔ At x.w a 1 ∨ a ∈ l := fun a => by
  constructor
  ·rintro ⟨b1, b2, b3⟩
   by_cases e : a ∈ l
   ·exact .inr e
   ·refine .inl ⟨b1, by rw [a1] at b2; exact b2, ?_⟩
    rw [a5 a b1 e] at b3; exact b3
  ·rintro (⟨b1, b2, b3⟩ | e)
   ·by_cases e : a ∈ l
    ·exact ⟨b1, by rw [a1]; exact b2, (a4 a e).2.2.2⟩
    ·exact ⟨b1, by rw [a1]; exact b2, by rw [a5 a b1 e]; exact b3⟩
   ·obtain ⟨c1, c2, c3, c4⟩ := a4 a e
    exact ⟨c1, by rw [a1]; exact c2, c4⟩
 have hn : ∀ a, a ∈ l → ¬ At x.w a 1 := fun a e hh => (a4 a e).2.2.1 hh.2.2
 refine ⟨t2, fun a ha => ?_, fun a ha => ?_, h.cP, h.cM, h.P1, h.M1, h.cS, h.room, fun pr hp => by have := h.dO pr hp; omega, h.ms, h.eV, by have := h.st; dsimp only; omega, by dsimp only; omega, hk⟩
 ·rw [hS]
  rcases (hA a).1 ha with e | e
  ·rw [h.one a e, List.count_eq_zero.2 (fun hm => hn a hm e)]
  ·rw [h.zero a (hn a e), Nat.le_antisymm (List.nodup_iff_count.1 a3 a) (List.count_pos_iff.2 e)]
 ·rw [hS, h.zero a (fun e => ha ((hA a).2 (.inl e))), List.count_eq_zero.2 (fun e => ha ((hA a).2 (.inr e)))]
end
section
variable {p : b6} {N : Nat} {x y z : Sc} {m i g a kind : Int}
theorem SV.bg {fT : List dm} {AG : List Int} {dz : jB} {t : Bool} (h : SV p N x) (m0 : 0 ≤ m) (m1 : m < x.ms.length) (hmp : (ax x m).p = i) (i0 : 0 ≤ i) (i1 : i < x.ps.length) (hg : (ax x m).g = -1)
  (hl : fT.length = x.ps.length) (hr : ∀ pr ∈ fT, RN pr.q ∧ 0 ≤ pr.turns ∧ pr.turns ≤ N) (hb : ∀ j : Nat, (fT.getD j cX).eV = (x.ps.getD j cX).eV)
  (hc : ∀ a, jQ fT a + AG.count a + (jA g).count a = jQ x.ps a + x.gl.count a) (hok : t = true → 0 ≤ g) (hno : t = false → jA g = []) (hd : dz.taken.length ≤ 3 * N + 3) (hk : dz.k.Ok) :
  SV p (N + 1) (Sc.bg { x with ps := fT, gl := AG, d := dz } m i kind g t).1 ∧ (Sc.bg { x with ps := fT, gl := AG, d := dz } m i kind g t).1.steps = x.steps := by
 have jF := gD m0 m1
 have e0 : jA (ax x m).g = [] := by rw [hg]; rfl
 have hpi : fT[i.toNat]? = some (fT.getD i.toNat cX) := by
  rw [List.getD_eq_getElem?_getD, List.getElem?_eq_getElem (by omega)]; rfl
 have hmem := List.mem_of_getElem? hpi
 have hby : (x.ps.getD i.toNat cX).eV = m := by
  have := h.eV m.toNat (ax x m) jF (by rw [hmp]; omega)
  rw [hmp] at this
  show (ay x i).eV = m
  rw [this]; omega
 have zl : ∀ b : dm, b.q = (fT.getD i.toNat cX).q → ∀ a, jQ (fT.set i.toNat b) a = jQ fT a := fun b e a => by
  have := qz (a := a) (S6 := b) hpi
  rw [e] at this
  omega
 unfold Sc.bg
 cases t with
 | true =>
  rw [if_pos rfl]
  refine ⟨?_, rfl⟩
  have Ah := h.ms _ (List.mem_of_getElem? jF)
  refine h.go (i := i) m0 m1 i0 i1 (fT.set i.toNat { fT.getD i.toNat cX with turns := (fT.getD i.toNat cX).turns + 1 }) ⟨(ax x m).p, g, x.c.S⟩ AG dz (by simp [hl]) (fun pr hp => ?_) (fun j hj => by rw [getD_set_ne hj]; exact hb j) (.inr ⟨hmp, ?_⟩) (.inl hmp) (.inr ⟨by dsimp only; omega, by dsimp only; omega, by dsimp only; have := hok rfl; omega, by have := h.cS; dsimp only; omega, by have := h.cS; dsimp only; omega, fun _ => by have := h.cS; dsimp only; omega⟩) (fun a => ?_) hd hk
  ·rcases List.mem_or_eq_of_mem_set hp with hp | rfl
   ·have := hr pr hp; exact ⟨this.1, by omega⟩
   ·have := hr _ hmem; exact ⟨this.1, by dsimp only; omega⟩
  ·rw [bH (by omega)]
   exact (hb _).trans hby
  ·rw [zl { fT.getD i.toNat cX with turns := (fT.getD i.toNat cX).turns + 1 } rfl, e0]
   have := hc a
   simp only [List.count_nil]
   omega
 | false =>
  rw [if_neg (by decide)]
  refine ⟨?_, rfl⟩
  refine h.go (i := i) m0 m1 i0 i1 (fT.set i.toNat { fT.getD i.toNat cX with eV := -1 }) ⟨-1, -1, 0⟩ AG dz (by simp [hl]) (fun pr hp => ?_) (fun j hj => by rw [getD_set_ne hj]; exact hb j) (.inl rfl) (.inl hmp) (.inl ⟨rfl, rfl, rfl⟩) (fun a => ?_) hd hk
  ·rcases List.mem_or_eq_of_mem_set hp with hp | rfl
   ·have := hr pr hp; exact ⟨this.1, by omega⟩
   ·have := hr _ hmem; exact ⟨this.1, by dsimp only; omega⟩
  ·rw [zl { fT.getD i.toNat cX with eV := -1 } rfl, e0]
   have := hc a
   rw [hno rfl] at this
   simp only [List.count_nil] at *
   have e1 : jA (-1) = [] := rfl
   rw [e1, List.count_nil]
   omega
theorem vj {d : jB} {k n : Int} (hk : d.k.Ok) : (d.draw k n).1.taken.length ≤ d.taken.length + 1 := by
 generalize jO : d.draw k n = r
 obtain ⟨d', o⟩ := r
 cases o with
 | num v =>
  have := (eH hk jO).2.2
  dsimp only
  rw [this]; simp
 | cV l =>
  have := (qw jO).1
  dsimp only
  rw [this]; omega
theorem SV.find {d' : jB} (h : SV p N x) (m0 : 0 ≤ m) (m1 : m < x.ms.length) (hp : (ax x m).p ≠ -1) (hg : (ax x m).g = -1) (hN : N ≤ 10000000) (hd : d'.taken.length ≤ 3 * N + 1) (hk : d'.k.Ok) :
  wB { x with d := d' } m ∧ SV p (N + 1) (Sc.find { x with d := d' } m).1 ∧ (Sc.find { x with d := d' } m).1.steps = x.steps := by
 have jF := gD m0 m1
 have Ah := h.ms _ (List.mem_of_getElem? jF)
 have hr : 0 ≤ (ax x m).p ∧ (ax x m).p < x.ps.length ∧ 0 ≤ (ax x m).left ∧ (ax x m).left ≤ 1024 := by
  rcases Ah with e | e
  ·exact absurd e.1 hp
  ·omega
 obtain ⟨i0, i1, l0, l1⟩ := hr
 have jE := mz i0 i1
 have Th := List.mem_of_getElem? jE
 have ht := h.dO _ Th
 have hroom := h.room _ Th
 have hpos := h.O1 Th
 have e0 : jA (ax x m).g = [] := by rw [hg]; rfl
 have hcP := h.cP
 have hP1 := h.P1
 refine ⟨⟨m0, m1, i0, i1, by have := h.WB; dsimp only; omega, ht.1, by have := ht.2; show (ay x (ax x m).p).turns < 1000000000; omega, by dsimp only; omega, by dsimp only; omega, by dsimp only; omega⟩, ?_⟩
 have own := Jp (t := (ay x (ax x m).p).turns) hpos hroom h.Tg
 unfold Sc.find
 dsimp only
 have em : ax { x with d := d' } m = ax x m := rfl
 have ep : ∀ j, ay { x with d := d' } j = ay x j := fun _ => rfl
 rw [em]
 simp only [ep]
 generalize hi : (ax x m).p = i at *
 have zl : ∀ b : dm, ∀ a, jQ (x.ps.set i.toNat b) a + (ay x i).q.all.count a = jQ x.ps a + b.q.all.count a := fun b a => qz jE
 split
 ·rename_i hn
  refine ⟨?_, rfl⟩
  have hgp := I8 hpos
  have h0 : 0 ≤ (ay x i).q.get.2 := by
   rcases hgp with ⟨e1, _⟩ | ⟨_, h0⟩
   ·exact absurd e1 hn.2
   ·exact h0
  have hby : (ay x i).eV = m := by
   have := h.eV m.toNat (ax x m) jF (by rw [hi]; omega)
   rw [hi] at this
   rw [this]; omega
  refine h.go (i := i) m0 m1 i0 i1 (x.ps.set i.toNat { ay x i with q := (ay x i).q.get.1 }) ⟨i, (ay x i).q.get.2, (ax x m).left⟩ x.gl d' (by simp) (fun pr hp => ?_) (fun j hj => by rw [getD_set_ne hj]) (.inr ⟨rfl, by rw [bH (by omega)]; exact hby⟩) (.inl hi) (.inr ⟨by dsimp only; omega, by dsimp only; omega, by dsimp only; omega, l0, l1, fun _ => by have := hn.1; dsimp only; omega⟩) (fun a => ?_) (by omega) hk
  ·rcases List.mem_or_eq_of_mem_set hp with hp | rfl
   ·exact ⟨h.room pr hp, by have := h.dO pr hp; omega⟩
   ·exact ⟨Oq hroom, by dsimp only; omega⟩
  ·have a1 := zl { ay x i with q := (ay x i).q.get.1 } a
   have a2 := I7 _ hpos a
   rw [e0]
   simp only [List.count_nil] at *
   try dsimp only at *
   omega
 ·
  have hown : Sc.own { x with d := d' } i = ({ x with ps := x.ps.set i.toNat { ay x i with q := (gf (ay x i).q (ay x i).turns x.gl).1 }, gl := (gf (ay x i).q (ay x i).turns x.gl).2.1, d := d' }, (gf (ay x i).q (ay x i).turns x.gl).2.2.1, (gf (ay x i).q (ay x i).turns x.gl).2.2.2) := rfl
  rw [hown]
  generalize gf (ay x i).q (ay x i).turns x.gl = r at own
  obtain ⟨q1, g1, v1, has⟩ := r
  obtain ⟨o1, o2, o3, o4⟩ := own
  dsimp only at o1 o2 o3 o4 ⊢
  have WC : ∀ pr ∈ x.ps.set i.toNat { ay x i with q := q1 }, RN pr.q ∧ 0 ≤ pr.turns ∧ pr.turns ≤ N := fun pr hp => by
   rcases List.mem_or_eq_of_mem_set hp with hp | rfl
   ·exact ⟨h.room pr hp, h.dO pr hp⟩
   ·exact ⟨o1, ht⟩
  have RQ : ∀ j : Nat, ((x.ps.set i.toNat { ay x i with q := q1 }).getD j cX).eV = (x.ps.getD j cX).eV := fun j => by
   by_cases e : j = i.toNat
   ·subst e
    rw [bH (by omega)]
    rfl
   ·rw [getD_set_ne e]
  have ZK : ∀ a, jQ (x.ps.set i.toNat { ay x i with q := q1 }) a + g1.count a + (jA v1).count a = jQ x.ps a + x.gl.count a := fun a => by
   have a1 := zl { ay x i with q := q1 } a
   have a2 := o2 a
   dsimp only at *
   omega
  split
  ·rename_i hh
   have ev1 : jA v1 = [] := by rw [o4 hh.1]; rfl
   have CW := vj (k := 2) (n := x.c.P) hk
   have zT := lU (kind := 2) (n := x.c.P) hk
   split
   ·rename_i d2 l jO
    rw [jO] at CW zT
    refine ⟨?_, rfl⟩
    have : SV p (N + 1) { x with ps := x.ps.set i.toNat { ay x i with q := q1 }, ms := x.ms.set m.toNat (ax x m), gl := g1, d := d2 } :=
     h.go (i := i) m0 m1 i0 i1 _ (ax x m) g1 d2 (by simp) (fun pr hp => by have := WC pr hp; exact ⟨this.1, by omega⟩) (fun j hj => RQ j) (.inr ⟨hi, by
      rw [RQ]
      have := h.eV m.toNat (ax x m) jF (by rw [hi]; omega)
      rw [hi] at this
      show (ay x i).eV = m
      rw [this]; omega⟩) (.inl hi) Ah (fun a => by have := ZK a; rw [ev1] at this; simp only [List.count_nil] at this; exact congrArg (· + (jA (ax x m).g).count a) this) (by dsimp only at CW; omega) zT
    rw [eB _ _ _ jF] at this
    exact this
   ·rename_i d2 v jO
    rw [jO] at CW zT
    have PU := eH hk jO
    have Tz : gY x.c.P = x.c.P := by unfold gY; rw [if_neg (by omega)]
    rw [Tz] at PU
    dsimp only at CW zT ⊢
    split
    ·exact h.bg (g := -1) m0 m1 hi i0 i1 hg (by simp) WC RQ (fun a => by have := ZK a; rw [ev1] at this; exact this) (fun e => by cases e) (fun _ => rfl) (by omega) zT
    ·rename_i ZS
     have hne : v.toNat ≠ i.toNat := by omega
     have epi : ay { x with ps := x.ps.set i.toNat { ay x i with q := q1 }, gl := g1, d := d2 } i = { ay x i with q := q1 } := bH (by omega)
     have epv : ay { x with ps := x.ps.set i.toNat { ay x i with q := q1 }, gl := g1, d := d2 } v = ay x v := getD_set_ne hne
     have HN := mz (x := x) (i := v) PU.1 (by omega)
     have Ti := List.mem_of_getElem? HN
     have O2 := h.O1 Ti
     have HW := h.room _ Ti
     have hst := KM q1 (ay x v).q O2 o1.1
     have hsb := Ou o1 HW
     have hsp := Ch (x := q1) O2 o1.1
     rw [epi, epv]
     dsimp only
     generalize q1.c9 (ay x v).q = s at hst hsb hsp
     obtain ⟨s1, s2, s3⟩ := s
     dsimp only at hst hsb hsp ⊢
     have hz : Sc.bT (Sc.bT { x with ps := x.ps.set i.toNat { ay x i with q := q1 }, gl := g1, d := d2 } i { ay x i with q := s1 }) v { ay x v with q := s2 } = { x with ps := (x.ps.set i.toNat { ay x i with q := s1 }).set v.toNat { ay x v with q := s2 }, gl := g1, d := d2 } := by
      unfold Sc.bT
      dsimp only
      rw [List.set_set]
     rw [hz]
     refine h.bg (g := s3) m0 m1 hi i0 i1 hg (by simp) (fun pr hp => ?_) (fun j => ?_) (fun a => ?_) (fun e => ?_) (fun e => ?_) (by omega) zT
     ·rcases List.mem_or_eq_of_mem_set hp with hp | rfl
      ·rcases List.mem_or_eq_of_mem_set hp with hp | rfl
       ·exact ⟨h.room pr hp, h.dO pr hp⟩
       ·exact ⟨hsb.1, ht⟩
      ·exact ⟨hsb.2, h.dO (ay x v) Ti⟩
     ·by_cases e : j = v.toNat
      ·subst e
       rw [bH (by simp; omega)]
       rfl
      ·rw [getD_set_ne e]
       by_cases e2 : j = i.toNat
       ·subst e2
        rw [bH (by omega)]
        rfl
       ·rw [getD_set_ne e2]
     ·have a1 := zl { ay x i with q := s1 } a
      have a2 := qz (ps := x.ps.set i.toNat { ay x i with q := s1 }) (a := a) (S6 := { ay x v with q := s2 }) (j := v.toNat) (pr := ay x v) (by rw [List.getElem?_set_ne (Ne.symm hne)]; exact HN)
      have a3 := hst a
      have a4 := o2 a
      rw [ev1] at a4
      simp only [List.count_nil] at a4
      dsimp only at *
      omega
     ·unfold fS at e
      rcases hsp with ⟨e1, e2⟩ | ⟨_, e2⟩
      ·rw [e1] at e
       have h1 := O2.1
       simp at e
       omega
      ·exact e2
     ·unfold fS at e
      simp only [Bool.or_eq_false_iff, bne_eq_false_iff_eq] at e
      rw [e.1]; rfl
  ·rename_i hh
   exact h.bg (g := v1) m0 m1 hi i0 i1 hg (by simp) WC RQ ZK o3 (fun e => by rw [o4 e]; rfl) (by omega) hk
end
section
variable {p : b6} {N : Nat} {x y z : Sc} {m i g a kind : Int}
theorem wG : ∀ (l : List Int) (z : Sc), 0 ≤ (ax z m).p → (ax z m).p < z.ps.length → (∀ v ∈ l, 0 ≤ v) → (∀ pr ∈ z.ps, RN pr.q) →
  (∀ a, jQ (l.foldl (aE m) z).ps a + (l.foldl (aE m) z).gl.count a = jQ z.ps a + z.gl.count a + l.count a) ∧
  (∀ pr ∈ (l.foldl (aE m) z).ps, RN pr.q) ∧ (∀ j : Nat, ((l.foldl (aE m) z).ps.getD j cX).eV = (z.ps.getD j cX).eV ∧ ((l.foldl (aE m) z).ps.getD j cX).turns = (z.ps.getD j cX).turns)
 | [], z, _, _, _, hr => ⟨fun a => by simp, hr, fun j => ⟨rfl, rfl⟩⟩
 | r :: l, z, h0, h1, hv, hr => by
  have jE := mz (x := z) h0 h1
  have hps : (aE m z r).ps.length = z.ps.length := by simp [aE, Sc.bT]
  have jF : ax (aE m z r) m = ax z m := rfl
  have Z8 := hr _ (List.mem_of_getElem? jE)
  have Ox : ∀ pr ∈ (aE m z r).ps, RN pr.q := fun pr hp => by
   rcases List.mem_or_eq_of_mem_set hp with hp | rfl
   ·exact hr pr hp
   ·exact Oo Z8 _ _
  obtain ⟨a1, a2, a3⟩ := wG l (aE m z r) (by rw [jF]; exact h0) (by rw [jF, hps]; exact h1) (fun v hm => hv v (List.mem_cons_of_mem _ hm)) Ox
  rw [List.foldl_cons]
  refine ⟨fun a => ?_, a2, fun j => ?_⟩
  ·have b1 := a1 a
   have b2 := KK (ay z (ax z m).p).q r (by have := hv r (by simp); omega) z.gl a
   have b3 := qz (a := a) (S6 := { ay z (ax z m).p with q := ((ay z (ax z m).p).q.ready r z.gl).1 }) jE
   have b4 : jQ (aE m z r).ps a = jQ (z.ps.set (ax z m).p.toNat { ay z (ax z m).p with q := ((ay z (ax z m).p).q.ready r z.gl).1 }) a := rfl
   have b5 : (aE m z r).gl = ((ay z (ax z m).p).q.ready r z.gl).2.1 := rfl
   rw [b4, b5] at b1
   simp only [List.count_cons, List.count_nil] at *
   try dsimp only at *
   omega
  ·obtain ⟨c1, c2⟩ := a3 j
   rw [c1, c2]
   show ((z.ps.set (ax z m).p.toNat _).getD j cX).eV = _ ∧ ((z.ps.set (ax z m).p.toNat _).getD j cX).turns = _
   by_cases e : j = (ax z m).p.toNat
   ·subst e
    rw [bH (by omega)]
    exact ⟨rfl, rfl⟩
   ·rw [getD_set_ne e]
    exact ⟨rfl, rfl⟩
theorem RR {w y : Wd} (hy : WV p y) (h : ij g w y) : y.ready.length ≤ 100 := by
 have h1 := oa (b := 1) y.gs.length y.ready (fun v hv => ⟨(h.2.2.1 v hv).1, (h.2.2.1 v hv).2.1⟩) (fun v => List.nodup_iff_count.1 h.1 v)
 have := hy.n2
 omega
theorem WD {w y : Wd} (h : ij g w y) (h0 : 0 ≤ g) (hg : g < w.gs.length) : (At y a 1 ↔ (a = g ∧ (aj y g).st = 1) ∨ a ∈ y.ready ∨ (a ≠ g ∧ At w a 1)) := by
 obtain ⟨_, a2, a3, a4, a5, a6⟩ := h
 constructor
 ·rintro ⟨b1, b2, b3⟩
  by_cases e : a = g
  ·exact .inl ⟨e, by rw [← e]; exact b3⟩
  ·by_cases er : a ∈ y.ready
   ·exact .inr (.inl er)
   ·refine .inr (.inr ⟨e, b1, ?_, by rw [← a4 a b1 e er]; exact b3⟩)
    by_cases hl : a < w.gs.length
    ·exact hl
    ·exact absurd (a6 a (by omega) b2) er
 ·rintro (⟨rfl, e⟩ | e | ⟨e, b1, b2, b3⟩)
  ·exact ⟨h0, by omega, e⟩
  ·exact ⟨(a3 a e).1, (a3 a e).2.1, (a3 a e).2.2.2⟩
  ·by_cases er : a ∈ y.ready
   ·exact ⟨(a3 a er).1, (a3 a er).2.1, (a3 a er).2.2.2⟩
   ·exact ⟨b1, by omega, by rw [a4 a b1 e er]; exact b3⟩
theorem SV.fy {d' : jB} {y : Wd} {rest : Bool} (h : SV p N x) (m0 : 0 ≤ m) (m1 : m < x.ms.length) (hp : (ax x m).p ≠ -1) (hg : 0 ≤ (ax x m).g) (hy : WV p y) (hr : ij (ax x m).g { x.w with ready := [] } y)
  (hd : d'.taken.length ≤ 3 * N + 3) (hk : d'.k.Ok) {d0 : jB} : ∃ z o, fy { x with d := d0 } m (ax x m).g d' y rest = some (z, o) ∧ SV p (N + 1) z ∧ z.steps = x.steps := by
 have jF := gD m0 m1
 have Gu := List.mem_of_getElem? jF
 have Ah := h.ms _ Gu
 have Fx := h.mg Gu hg
 have hbd : 0 ≤ (ax x m).p ∧ (ax x m).p < x.ps.length ∧ 1 ≤ (ax x m).left ∧ (ax x m).left ≤ 1024 := by
  rcases Ah with e | e
  ·exact absurd e.1 hp
  ·have := e.2.2.2.2.2 hg; omega
 obtain ⟨i0, i1, l0, l1⟩ := hbd
 have jT := RR hy hr
 have hglt : (ax x m).g < y.gs.length := by have := hr.2.2.2.2.1; have := Fx.2.1; dsimp only at *; omega
 unfold Proofs.fy
 rw [if_pos ⟨by omega, hglt⟩]
 have f1 := fI (m := m) y.ready { x with w := y, d := d' } i0 i1
 have f2 := wG (m := m) y.ready { x with w := y, d := d' } i0 i1 (fun v hv => (hr.2.2.1 v hv).1) h.room
 (try dsimp only at f1 f2 ⊢)
 generalize List.foldl (aE m) { x with w := y, d := d' } y.ready = z at f1 f2
 obtain ⟨z1, z2, z3, z4, z5, z6, _⟩ := f1
 obtain ⟨c1, c2, c3⟩ := f2
 have Z9 := fun a => WD (a := a) hr hg Fx.2.1
 have Tj : ∀ a, a ∈ y.ready → ¬ At x.w a 1 ∧ a ≠ (ax x m).g ∧ y.ready.count a = 1 := fun a ha =>
  ⟨(hr.2.2.1 a ha).2.2.1, fun e => hr.2.1 (e ▸ ha), Nat.le_antisymm (List.nodup_iff_count.1 hr.1 a) (List.count_pos_iff.2 ha)⟩
 have aaa : ∀ pr ∈ z.ps, 0 ≤ pr.turns ∧ pr.turns ≤ N := fun pr jE => by
  obtain ⟨j, hj, e⟩ := List.getElem_of_mem jE
  have e2 : z.ps.getD j cX = pr := by rw [List.getD_eq_getElem?_getD, List.getElem?_eq_getElem hj, e]; rfl
  have Gm : j < x.ps.length := by omega
  have e3 : x.ps.getD j cX = x.ps[j] := by rw [List.getD_eq_getElem?_getD, List.getElem?_eq_getElem Gm]; rfl
  have := (c3 j).2
  rw [e2, e3] at this
  rw [this]
  exact h.dO _ (List.getElem_mem Gm)
 have done : ∀ (lY : va) (Dx : List Int), lY.p = (ax x m).p → 0 ≤ lY.left → lY.left ≤ 1024 → -1 ≤ lY.g → (0 ≤ lY.g → 1 ≤ lY.left) →
   (∀ a, Dx.count a + (jA lY.g).count a = z.gl.count a + (if (aj y (ax x m).g).st = 1 then [(ax x m).g].count a else 0)) →
   SV p (N + 1) { z with ms := z.ms.set m.toNat lY, gl := Dx } := by
  intro lY Dx e1 e2 e3 e4 e5 e6
  have hS : ∀ a, jR { z with ms := z.ms.set m.toNat lY, gl := Dx } a + [(ax x m).g].count a = jR x a + y.ready.count a + (if (aj y (ax x m).g).st = 1 then [(ax x m).g].count a else 0) := fun a => by
   have q1 := Ag (a := a) (lY := lY) jF
   have q2 := c1 a
   have q3 := e6 a
   rw [iS hg] at q1
   unfold jR
   (try dsimp only)
   rw [z1]
   (try dsimp only at q2)
   omega
  have hwz : z.w = y := z3
  refine ⟨by (try dsimp only); rw [hwz]; exact hy, fun a ha => ?_, fun a ha => ?_, by (try dsimp only); rw [z5, z2]; exact h.cP, by (try dsimp only); rw [z5, z1]; simpa using h.cM, by (try dsimp only); rw [z2]; exact h.P1, by (try dsimp only); rw [z1]; simpa using h.M1, by (try dsimp only); rw [z5]; exact h.cS, c2, fun pr jE => by have := aaa pr jE; omega, fun mc O3 => ?_, fun j mc hj hne => ?_, by have := h.st; (try dsimp only); rw [z6]; (try dsimp only); omega, by (try dsimp only); rw [z4]; (try dsimp only); omega, by (try dsimp only); rw [z4]; exact hk⟩
  ·(try dsimp only at ha)
   rw [hwz] at ha
   have hs := hS a
   rcases (Z9 a).1 ha with ⟨e, es⟩ | e | ⟨e, ew⟩
   ·subst e
    have n1 : y.ready.count (ax x m).g = 0 := List.count_eq_zero.2 hr.2.1
    have n2 := h.one _ Fx
    rw [if_pos es] at hs
    omega
   ·obtain ⟨w1, w2, w3⟩ := Tj a e
    have n2 := h.zero a w1
    have n3 : [(ax x m).g].count a = 0 := List.count_eq_zero.2 (by simpa using w2)
    rw [n3] at hs
    have : (if (aj y (ax x m).g).st = 1 then 0 else 0) = 0 := by split <;> rfl
    omega
   ·have n3 : [(ax x m).g].count a = 0 := List.count_eq_zero.2 (by simpa using e)
    have n2 := h.one a ew
    have n1 : y.ready.count a = 0 := List.count_eq_zero.2 (fun e2 => (Tj a e2).1 ew)
    rw [n3] at hs
    have : (if (aj y (ax x m).g).st = 1 then 0 else 0) = 0 := by split <;> rfl
    omega
  ·(try dsimp only at ha)
   rw [hwz] at ha
   have hs := hS a
   have hn := fun e => ha ((Z9 a).2 e)
   by_cases e : a = (ax x m).g
   ·subst e
    have n1 : y.ready.count (ax x m).g = 0 := List.count_eq_zero.2 hr.2.1
    have n2 := h.one _ Fx
    have n3 : [(ax x m).g].count (ax x m).g = 1 := by simp
    rw [if_neg (fun es => hn (.inl ⟨rfl, es⟩))] at hs
    omega
   ·have n3 : [(ax x m).g].count a = 0 := List.count_eq_zero.2 (by simpa using e)
    have n2 := h.zero a (fun ew => hn (.inr (.inr ⟨e, ew⟩)))
    have n1 : y.ready.count a = 0 := List.count_eq_zero.2 (fun e2 => hn (.inr (.inl e2)))
    rw [n3] at hs
    have : (if (aj y (ax x m).g).st = 1 then 0 else 0) = 0 := by split <;> rfl
    omega
  ·(try dsimp only at O3 ⊢)
   rw [z2]
   rw [z1] at O3
   rcases js O3 with O3 | rfl
   ·exact h.ms mc O3
   ·exact .inr ⟨by omega, by (try dsimp only); omega, e4, e2, e3, e5⟩
  ·(try dsimp only at hj)
   rw [z1] at hj
   show (z.ps.getD mc.p.toNat cX).eV = _
   rw [(c3 _).1]
   by_cases e : j = m.toNat
   ·subst e
    rw [List.getElem?_set_self (by (try dsimp only); omega)] at hj
    simp only [Option.some.injEq] at hj
    subst hj
    rw [e1]
    exact h.eV m.toNat _ jF hp
   ·rw [List.getElem?_set_ne (Ne.symm e)] at hj
    exact h.eV j mc hj hne
 have hzm : ax z m = ax x m := by unfold ax; rw [z1]
 have hzs : z.steps = x.steps := z6
 unfold Sc.gP
 rw [hzm]
 split
 ·rename_i hkp
  refine ⟨_, _, rfl, ?_, hzs⟩
  have hst : (aj y (ax x m).g).st = 1 := by
   have := hkp.1
   unfold hU at this
   simp only [Bool.and_eq_true, beq_iff_eq] at this
   exact this.2
  exact done { ax x m with left := (ax x m).left - 1 } z.gl rfl (by (try dsimp only); omega) (by (try dsimp only); omega) (by (try dsimp only); omega) (fun _ => by (try dsimp only); omega) (fun a => by rw [if_pos hst]; (try dsimp only); rw [iS hg])
 ·refine ⟨_, _, rfl, ?_, hzs⟩
  refine done { ax x m with left := (ax x m).left - 1, g := -1 } _ rfl (by (try dsimp only); omega) (by (try dsimp only); omega) (by (try dsimp only); omega) (fun e => by (try dsimp only at e); omega) (fun a => ?_)
  have e1 : jA (-1) = [] := rfl
  (try dsimp only)
  rw [e1, z3]
  split
  ·rw [List.count_append]; simp
  ·simp
end
section
variable {p : b6} {N : Nat} {x y z : Sc} {m i g a kind : Int}
theorem SV.O4 (h : SV p N x) {r : List Int} {d' : jB} (hd : d'.taken.length ≤ 3 * N + 3) (hk : d'.k.Ok) : SV p (N + 1) { x with w := { x.w with ready := r }, d := d' } :=
 ⟨h.w.ready, h.one, h.zero, h.cP, h.cM, h.P1, h.M1, h.cS, h.room, fun pr hp => by have := h.dO pr hp; omega, h.ms, h.eV, by have := h.st; dsimp only; omega, by dsimp only; omega, hk⟩
theorem SV.run {d' : jB} (h : SV p N x) (hp : dn p) (m0 : 0 ≤ m) (m1 : m < x.ms.length) (hmp : (ax x m).p ≠ -1) (hg : (ax x m).g ≠ -1) (hN : N ≤ 1000000) (hd : d'.taken.length ≤ 3 * N + 1) (hk : d'.k.Ok) :
  ∃ z o, Sc.run p { x with d := d' } m = some (z, o) ∧ SV p (N + 1) z ∧ z.steps = x.steps := by
 have jF := gD m0 m1
 have Gu := List.mem_of_getElem? jF
 have Ah := h.ms _ Gu
 have hbd : 0 ≤ (ax x m).p ∧ (ax x m).p < x.ps.length ∧ 0 ≤ (ax x m).g ∧ 1 ≤ (ax x m).left ∧ (ax x m).left ≤ 1024 := by
  rcases Ah with e | e
  ·exact absurd e.1 hmp
  ·have := e.2.2.2.2.2; omega
 obtain ⟨i0, i1, g0, l0, l1⟩ := hbd
 have Fx := h.mg Gu g0
 unfold Sc.run
 have em : ax { x with d := d' } m = ax x m := rfl
 rw [em]
 rw [if_pos (show wC p { x with d := d' } m from ⟨m0, m1, i0, i1, by have := h.WB; dsimp only; omega, by dsimp only; omega, l0, by show (ax x m).left < 1000000000; omega, g0⟩)]
 dsimp only
 generalize jN : asks p { x.w with ready := [] } (ax x m).g = ak
 have hbk : ∀ k n, ak = some (k, n) → 1 ≤ n ∧ n < 1099511627776 := fun k n e => DD hp (by rw [jN]; exact e)
 rw [if_pos (show Tb ak = true from by
  cases ak with
  | none => rfl
  | some kn => obtain ⟨k, n⟩ := kn; have := hbk k n rfl; exact decide_eq_true (by omega))]
 have Bm : ∀ d2 dr, dh d' ak = (d2, dr) → d2.k.Ok ∧ d2.taken.length ≤ 3 * N + 2 ∧ (∀ v kd n, dr = .num v → ak = some (kd, n) → 0 ≤ v ∧ v < n) := by
  intro d2 dr e
  cases ak with
  | none =>
   unfold dh at e
   cases e
   exact ⟨hk, by omega, fun v kd n _ e => by cases e⟩
  | some kn =>
   obtain ⟨k, n⟩ := kn
   unfold dh at e
   dsimp only at e
   have a1 := lU (kind := k) (n := n) hk
   have a2 := vj (k := k) (n := n) hk
   rw [e] at a1 a2
   dsimp only at a1 a2
   refine ⟨a1, by omega, fun v kd n' e1 e2 => ?_⟩
   subst e1
   cases e2
   have := eH hk e
   have hb := hbk _ _ rfl
   rw [show gY n = n from by unfold gY; rw [if_neg (by omega)]] at this
   exact ⟨this.1, this.2.1⟩
 generalize jO : dh d' ak = dd at Bm
 obtain ⟨d2, dr⟩ := dd
 obtain ⟨k2, t2, v2⟩ := Bm d2 dr rfl
 dsimp only
 obtain ⟨r, rest, hex, hres⟩ := Af (d := dr) h.w hp g0 (fun v kd n e1 e2 => v2 v kd n e1 (by rw [← jN]; exact e2))
 rw [hex]
 rcases hres with ⟨hres, _⟩ | ⟨l, e1, e2, _⟩
 ·cases r with
  | on y => exact h.fy m0 m1 hmp g0 hres.1 hres.2 (by omega) k2
  | eD n y => exact h.fy (y := { y with end_ := 2, code := n }) m0 m1 hmp g0 (hres.1.fin (e := 2) (c := n)) (hres.2.Jm rfl rfl fun _ _ _ => rfl) (by omega) k2
  | cV l y => exact hres.elim
 ·subst e2
  exact ⟨_, _, rfl, h.O4 (by omega) k2, rfl⟩
theorem SV.step (h : SV p N x) (hp : dn p) (hN : N ≤ 1000000) : ∃ y o, x.step p = some (y, o) ∧ SV p (N + 1) y := by
 have hst := h.st
 have Ry := h.tk
 have hM := h.cM
 have hM1 := h.M1
 have hP1 := h.P1
 unfold Sc.step
 rw [if_pos (show yl x from ⟨by have := h.w.n2; omega, hM, by omega, by omega, by omega, hst.1, by omega⟩)]
 split
 ·exact ⟨_, _, rfl, h.mono (by omega)⟩
 ·rename_i hs
  have CW := vj (k := 1) (n := x.c.M + 1) h.k
  have zT := lU (kind := 1) (n := x.c.M + 1) h.k
  split
  ·rename_i d' l jO
   rw [jO] at CW zT
   dsimp only at CW zT
   exact ⟨_, _, rfl, h.draw (by omega) zT⟩
  ·rename_i d' m jO
   rw [jO] at CW zT
   dsimp only at CW zT
   have hv := eH h.k jO
   rw [show gY (x.c.M + 1) = x.c.M + 1 from by unfold gY; rw [if_neg (by omega)]] at hv
   obtain ⟨m0, mM, _⟩ := hv
   have fin : ∀ z o, SV p (N + 1) z → z.steps = x.steps → ∃ y o', Option.map ie (some (z, o)) = some (y, o') ∧ SV p (N + 1) y := fun z o hz hzs => by
    cases o with
    | ev e => exact ⟨_, _, rfl, hz.inc (by rw [hzs]; exact hst)⟩
    | cV l => exact ⟨_, _, rfl, hz⟩
   unfold Sc.act
   dsimp only
   split
   ·obtain ⟨t1, t2, t3⟩ := h.tick (d' := d') (by omega) zT
    rw [if_pos t1]
    exact fin _ _ t2 t3
   ·rename_i hmM
    have m1 : m < x.ms.length := by omega
    have em : ax { x with d := d' } m = ax x m := rfl
    rw [em]
    split
    ·rename_i hmp
     obtain ⟨t2, t3⟩ := h.hold (d' := d') m0 m1 hmp (by omega) zT
     exact fin _ _ t2 t3
    ·rename_i hmp
     split
     ·rename_i PV
      obtain ⟨t1, t2, t3⟩ := h.find (d' := d') m0 m1 hmp PV (by omega) (by omega) zT
      rw [if_pos t1]
      exact fin _ _ t2 t3
     ·rename_i PV
      obtain ⟨z, o, t1, t2, t3⟩ := h.run (d' := d') hp m0 m1 hmp PV hN (by omega) zT
      rw [t1]
      exact fin _ _ t2 t3
theorem SV.new {c : OG} {d : jB} (hp : dn p) (hP : 1 ≤ c.P ∧ c.P ≤ 64) (hM : 1 ≤ c.M ∧ c.M ≤ 64) (hS : 1 ≤ c.S ∧ c.S ≤ 1024) (hd : d.taken = []) (hk : d.k.Ok) : SV p 0 (Sc.new p c d) := by
 have hw := Wz hp
 have hA : ∀ a, At (Wd.new p) a 1 ↔ a = 0 := fun a => by
  constructor
  ·rintro ⟨b1, b2, _⟩
   simp [Wd.new] at b2
   omega
  ·rintro rfl
   exact ⟨by decide, by simp [Wd.new], rfl⟩
 have hQ : ∀ a, jQ (List.replicate c.P.toNat ⟨⟨-1, fR c.R, []⟩, 0, -1⟩) a = 0 := fun a => by
  unfold jQ
  rw [List.count_eq_zero]
  intro hm
  obtain ⟨q, hq, h2⟩ := List.mem_flatMap.1 hm
  obtain ⟨pr, jE, rfl⟩ := List.mem_map.1 hq
  rw [List.eq_of_mem_replicate jE] at h2
  simp [Loc.all] at h2
 have hMm : ∀ a, Bq (List.replicate c.M.toNat ⟨-1, -1, 0⟩) a = 0 := fun a => by
  unfold Bq
  rw [List.count_eq_zero]
  intro hm
  obtain ⟨q, hq, h2⟩ := List.mem_flatMap.1 hm
  rw [List.eq_of_mem_replicate hq] at h2
  simp [jA] at h2
 have hC : ∀ a, jR (Sc.new p c d) a = [(0 : Int)].count a := fun a => by
  unfold jR Sc.new
  dsimp only
  rw [hQ, hMm]; omega
 have cap := IZ c.R
 refine ⟨hw, fun a ha => ?_, fun a ha => ?_, by simp [Sc.new]; omega, by simp [Sc.new]; omega, by simp [Sc.new]; omega, by simp [Sc.new]; omega, hS, fun pr jE => ?_, fun pr jE => ?_, fun mc jF => ?_, fun j mc hj hne => ?_, by simp [Sc.new], by simp [Sc.new, hd], hk⟩
 ·rw [hC, (hA a).1 ha]; rfl
 ·rw [hC]
  exact List.count_eq_zero.2 (fun e => ha ((hA a).2 (by simpa using e)))
 ·rw [List.eq_of_mem_replicate jE]
  exact ⟨by simp, cap.2, cap.1⟩
 ·rw [List.eq_of_mem_replicate jE]
  simp
 ·rw [List.eq_of_mem_replicate jF]
  exact .inl ⟨rfl, rfl, rfl⟩
 ·have := List.eq_of_mem_replicate (List.mem_of_getElem? hj)
  rw [this] at hne
  exact absurd rfl hne
end
theorem O5 : bn Tryz.prog 248 4 1 1 [.bool false] := bn.mk' (zv := .bool false) (by kernel_rfl) (by kernel_rfl) rfl (by omega)
section
variable {R : Mem} {L L' : List HP} {M : Mem} {K : Value → Mem → Prop} {Kp : List PanicEntry → Mem → Prop}
theorem xl {B : Option Addr} {n c : Nat} {x : Int} {l : List (Int × Int)} (h : Hp R L M) (hB : Src R L B (Du.cells l)) (hn : n = l.length) (hs : l.length ≤ 1000000) (hx : x ≤ 1000000) (hp : ∀ r ∈ l, 0 ≤ r.2)
  (k : ∀ M', Hp R L M' → K (.int .i64 (sJ x.toNat l)) M') : aa Tryz.prog 75 #[.slice B n c, .int .i64 x] M K Kp := by
 subst hn
 refine ze ?_
 have e0 : (if (0 : Int) > x then 0 else x) = ((x.toNat : Nat) : Int) := by split <;> omega
 rw [e0]
 have hm : x.toNat ≤ 1000000 := by omega
 generalize x.toNat = m at *
 refine h.xT (E := bB) (a := 0) pL (by omega) ?_
 clear h
 intro kl M h
 repeat (first|(refine aq h ?_;clear h;intro kb M h)|(refine au h ?_;clear h;intro M h)|refine St.to h ?_|(apply Exists.intro;(repeat apply Exists.intro);refine And.intro rfl ?_)|refine av ?_|refine ae ?_|refine ai ?_)
 rw [Ob] at h
 refine ⟨fun d vs M => ∃ i : Nat, vs = [.int .i64 (i : Int)] ∧ d = m - i ∧ i ≤ m ∧ Hp R (bO bB 3 (some ⟨kl, 0, none⟩) m ((List.range m).map fun j => if j < i then -1 else 0) :: L) M,
  ⟨_, 0, rfl, rfl, by omega, by simpa using h⟩, ?_⟩
 clear h
 rintro d _ ii M ⟨i, he, hd, hi, h⟩
 simp only [List.cons.injEq, Value.int.injEq, and_true, true_and] at he
 subst he
 refine aM.2 ⟨fun hlt => ?_, fun hge => ?_⟩
 ·repeat (first|(refine aq h ?_;clear h;intro kb M h)|(refine au h ?_;clear h;intro M h)|refine St.to h ?_|(apply Exists.intro;(repeat apply Exists.intro);refine And.intro rfl ?_)|refine av ?_|refine ae ?_|refine ai ?_)
  refine gK (a' := -1) i 0 h (B4 (by omega)) (by decide) rfl (by simp [bB]) ?_
  clear h; intro M h
  rw [aV (by omega)]
  refine ⟨m - (i + 1), by omega, i + 1, rfl, rfl, by omega, ?_⟩
  rw [G5, EU (g := fun j => if j < i + 1 then -1 else 0)] at h
  ·exact h
  ·intro j _
   by_cases h1 : j = i
   ·subst h1; simp
   ·simp only [h1, if_false]
    by_cases h2 : j < i
    ·rw [if_pos h2, if_pos (by omega)]
    ·rw [if_neg h2, if_neg (by omega)]
 obtain rfl : i = m := by omega
 rw [EU (g := fun _ => -1) (fun j hj => by simp [hj])] at h
 refine h.xT (E := Et) (a := false) O5 (by omega) ?_
 clear h
 intro ks M h
 repeat (first|(refine aq h ?_;clear h;intro kb M h)|(refine au h ?_;clear h;intro M h)|refine St.to h ?_|(apply Exists.intro;(repeat apply Exists.intro);refine And.intro rfl ?_)|refine av ?_|refine ae ?_|refine ai ?_)
 rw [Ob] at h
 refine ⟨fun d vs M => ∃ j : Nat, vs = [.int .i64 (fW i (l.take j)).at_, .int .i64 (fW i (l.take j)).out, .int .i64 (j : Int)] ∧ d = l.length - j ∧ j ≤ l.length ∧
   Hp R (bO Et 4 (some ⟨ks, 0, none⟩) i ((List.range i).map (fW i (l.take j)).seen) :: bO bB 3 (some ⟨kl, 0, none⟩) i ((List.range i).map (fW i (l.take j)).last) :: L) M,
  ⟨_, 0, rfl, rfl, by omega, h⟩, ?_⟩
 clear h
 rintro d _ w1 w2 jj M ⟨j, he, hd, hj, h⟩
 simp only [List.cons.injEq, Value.int.injEq, and_true, true_and] at he
 obtain ⟨rfl, rfl, rfl⟩ := he
 have ok := uo i (l.take j)
 have aab : (l.take j).length ≤ l.length := by rw [List.length_take]; omega
 refine aM.2 ⟨fun hlt => ?_, fun hge => ?_⟩
 ·obtain ⟨r, hr⟩ := aP (l := l) (i := j) (by omega)
  have Xk := hp r (List.mem_of_getElem? hr)
  have hstep : fW i (l.take (j + 1)) = dJ i (fW i (l.take j)) r := by rw [dD hr, qF]
  obtain ⟨rk, rn⟩ := r
  dsimp only at Xk
  obtain ⟨q, rfl⟩ := Int.eq_ofNat_of_zero_le Xk
  obtain ⟨b, o, rfl⟩ := hB.cons.cons.lI h (by omega) (by decide)
  generalize hS : fW i (l.take j) = s at *
  obtain ⟨b1, b2, b3, b4, b5⟩ := ok
  repeat (first|(refine aq h ?_;clear h;intro kb M h)|(refine au h ?_;clear h;intro M h)|refine St.to h ?_|(apply Exists.intro;(repeat apply Exists.intro);refine And.intro rfl ?_)|refine av ?_|refine ae ?_|refine ai ?_)
  simp only [Int.toNat_natCast]
  refine aZ (hB.cons.cons.at h (j := 0) hr rfl (by simp [Du])) ?_
  refine aZ (hB.cons.cons.at h (j := 1) hr rfl (by simp [Du]; omega)) ?_
  repeat (first|(refine aq h ?_;clear h;intro kb M h)|(refine au h ?_;clear h;intro M h)|refine St.to h ?_|(apply Exists.intro;(repeat apply Exists.intro);refine And.intro rfl ?_)|refine av ?_|refine ae ?_|refine ai ?_)
  rw [aV (by omega), fa (n := s.at_ + 1) (by omega) (by omega)]
  refine eL.2 ⟨fun hne => ?_, fun OZ => ?_⟩
  ·have es : dJ i s (rk, (q : Int)) = s := by unfold dJ; rw [if_neg hne]
   refine ⟨l.length - (j + 1), by omega, j + 1, by rw [hstep, es], rfl, by omega, ?_⟩
   rw [hstep, es]; exact h.pE
  ·repeat (first|(refine aq h ?_;clear h;intro kb M h)|(refine au h ?_;clear h;intro M h)|refine St.to h ?_|(apply Exists.intro;(repeat apply Exists.intro);refine And.intro rfl ?_)|refine av ?_|refine ae ?_|refine ai ?_)
   have e_u : IntKind.wrap .u64 ((i : Nat) : Int) = (i : Int) := by rw [IntKind.wrap_u64]; omega
   rw [e_u]
   refine aM.2 ⟨fun hri => ?_, fun hri => ?_⟩
   ·have Ta : q < i := by omega
    have IS := b3 q
    have s1 := h.src (A := some ⟨kl, 0, none⟩)
    repeat (first|(refine aq h ?_;clear h;intro kb M h)|(refine au h ?_;clear h;intro M h)|refine St.to h ?_|(apply Exists.intro;(repeat apply Exists.intro);refine And.intro rfl ?_)|refine av ?_|refine ae ?_|refine ai ?_)
    simp only [Int.toNat_natCast]
    refine aZ (s1.at h (j := 0) (B4 Ta) rfl (by simp [bB])) ?_
    repeat (first|(refine aq h ?_;clear h;intro kb M h)|(refine au h ?_;clear h;intro M h)|refine St.to h ?_|(apply Exists.intro;(repeat apply Exists.intro);refine And.intro rfl ?_)|refine av ?_|refine ae ?_|refine ai ?_)
    refine gK (a' := s.at_) q 0 h (B4 Ta) (by decide) rfl (by simp [bB]) ?_
    clear h; intro M h
    repeat (first|(refine aq h ?_;clear h;intro kb M h)|(refine au h ?_;clear h;intro M h)|refine St.to h ?_|(apply Exists.intro;(repeat apply Exists.intro);refine And.intro rfl ?_)|refine av ?_|refine ae ?_|refine ai ?_)
    refine gK (a' := true) q 0 h (B4 Ta) (by decide) rfl (by simp [Et]) ?_
    clear h; intro M h
    repeat (first|(refine aq h ?_;clear h;intro kb M h)|(refine au h ?_;clear h;intro M h)|refine St.to h ?_|(apply Exists.intro;(repeat apply Exists.intro);refine And.intro rfl ?_)|refine av ?_|refine ae ?_|refine ai ?_)
    rw [fa (n := s.at_ - s.last q) (by omega) (by omega)]
    have es : dJ i s (rk, (q : Int)) = ⟨fun j => if j = q then s.at_ else s.last j, fun j => if j = q then true else s.seen j, s.at_ + 1, if s.at_ - s.last q > s.out then s.at_ - s.last q else s.out⟩ := by
     unfold dJ; rw [if_pos OZ, if_pos hri]; simp
    rw [G5, G5] at h
    refine ⟨l.length - (j + 1), by omega, j + 1, by rw [hstep, es], rfl, by omega, ?_⟩
    rw [hstep, es]; exact h.sub bD
   ·have es : dJ i s (rk, (q : Int)) = ⟨s.last, s.seen, s.at_ + 1, s.out⟩ := by unfold dJ; rw [if_pos OZ, if_neg hri]
    refine ⟨l.length - (j + 1), by omega, j + 1, by rw [hstep, es], rfl, by omega, ?_⟩
    rw [hstep, es]; exact h.pE
 ·have Sw : l.take j = l := List.take_of_length_le (by omega)
  have hres : sJ i l = if wall (fW i l) i then iL (fW i l) i else 0 := rfl
  rw [Sw] at ok h aab ⊢
  generalize fW i l = s at *
  obtain ⟨b1, b2, b3, b4, b5⟩ := ok
  have bw : ∀ t, iL s t ≤ l.length + 1 := fun t => lJ.2 ⟨by omega, fun j _ => by have := b3 j; omega⟩
  refine ⟨fun d vs M => ∃ t : Nat, vs = [.int .i64 (iL s t), .int .i64 (t : Int)] ∧ d = i - t ∧ t ≤ i ∧ wall s t = true ∧
    Hp R (bO Et 4 (some ⟨ks, 0, none⟩) i ((List.range i).map s.seen) :: bO bB 3 (some ⟨kl, 0, none⟩) i ((List.range i).map s.last) :: L) M, ⟨_, 0, rfl, rfl, by omega, rfl, h⟩, ?_⟩
  clear h
  rintro d _ w3 tt M ⟨t, he, hd, ht, hw, h⟩
  simp only [List.cons.injEq, Value.int.injEq, and_true, true_and] at he
  obtain ⟨rfl, rfl⟩ := he
  refine aM.2 ⟨fun hlt => ?_, fun hge => ?_⟩
  ·have PR : t < i := by omega
   have s1 := h.src (A := some ⟨kl, 0, none⟩)
   have s2 := h.src (A := some ⟨ks, 0, none⟩)
   repeat (first|(refine aq h ?_;clear h;intro kb M h)|(refine au h ?_;clear h;intro M h)|refine St.to h ?_|(apply Exists.intro;(repeat apply Exists.intro);refine And.intro rfl ?_)|refine av ?_|refine ae ?_|refine ai ?_)
   simp only [Int.toNat_natCast]
   refine aZ (s1.at h (j := 0) (B4 PR) rfl (by simp [bB])) ?_
   repeat (first|(refine aq h ?_;clear h;intro kb M h)|(refine au h ?_;clear h;intro M h)|refine St.to h ?_|(apply Exists.intro;(repeat apply Exists.intro);refine And.intro rfl ?_)|refine av ?_|refine ae ?_|refine ai ?_)
   refine XX (s2.at h (j := 0) (B4 PR) rfl (by simp [Et])) ?_
   cases hss : s.seen t with
   | false =>
    have : sJ i l = 0 := by
     rw [hres, if_neg]
     intro gS
     have := Ew.1 gS t PR
     rw [hss] at this; cases this
    rw [this] at k
    exact ae (k _ h.pE)
   | true =>
    refine ai ?_
    have PS := b3 t
    refine ⟨i - (t + 1), by omega, t + 1, ?_, rfl, by omega, by simp [wall, hw, hss], h⟩
    rw [fa (n := s.at_ - s.last t) (by omega) (by omega), aV (by omega)]
    rfl
  ·obtain rfl : t = i := by omega
   rw [hres, if_pos hw] at k
   exact k _ h.pE
end
structure jG where
 m : FW
 bX : Int
def lj : sH jG := ⟨fun b c => exs fun r : Nat => sep [pt b [.map (some r), .int .i64 c.bX] 172, ob r (ja c.m)]⟩
def jG.wait (c : jG) (g now : Int) : jG := match fZ c.m.l g with
 | none => c
 | some f => ⟨c.m.del g, if IntKind.wrap .i64 (now - f) > c.bX then IntKind.wrap .i64 (now - f) else c.bX⟩
def jG.since (c : jG) (g now : Int) : jG := { c with m := c.m.put g now }
def jG.step (c : jG) (e : Ev) (y : Sc) : jG :=
 e.ready.foldl (fun c g => c.since g (IntKind.wrap .i64 (y.steps - 1)))
  (if e.kind = 7 then (if (aj y.w e.g).st = 1 then (c.wait e.g (IntKind.wrap .i64 (y.steps - 1))).since e.g (IntKind.wrap .i64 (y.steps - 1)) else c.wait e.g (IntKind.wrap .i64 (y.steps - 1))) else c)
section
variable {R : Mem} {L L' L2 : List HP} {M : Mem} {K : Value → Mem → Prop} {Kp : List PanicEntry → Mem → Prop} {pa : PA} {p : b6} {b cb wb db : Nat} {x : Sc} {c : jG} {g now : Int}
theorem vk (h : Hp R L M) [o : bY lj b L c L'] : ∃ r, Hp R (pt b [.map (some r), .int .i64 c.bX] 172 :: ob r (ja c.m) :: L') M := by
 have := h.obj lj b
 simpa only [lj, Hp.di, Hp.aX, List.cons_append, List.nil_append] using this
theorem Ai {r : Nat} (h : Hp R (pt b [.map (some r), .int .i64 c.bX] 172 :: ob r (ja c.m) :: L) M) : Hp R (az lj b c :: L) M := by
 refine Hp.vL ?_
 simp only [lj, Hp.di, Hp.aX, List.cons_append, List.nil_append]
 exact ⟨_, h⟩
theorem O6 : Tryz.prog.underlying 170 = some (.map 3 3) := by kernel_rfl
theorem O7 : Tryz.prog.underlying 3 = some (.int .i64) := by kernel_rfl
theorem mp_i : ∃ i, Tryz.prog.info? 3 = some i ∧ i.zero = some (.int .i64 0) := ⟨_, rfl, rfl⟩
theorem Cy (h : Hp R L M) [o : bY lj b L c L'] (k : ∀ M', Hp R (az lj b (c.wait g now) :: L') M' → K (.tuple #[]) M') : aa Tryz.prog 74 #[.pointer (some ⟨b, 0, none⟩), .int .i64 g, .int .i64 now] M K Kp := by
 refine tw ?_
 have h' := vk h (b := b)
 clear h
 obtain ⟨r, h⟩ := h'
 obtain ⟨i, hi, hz⟩ := mp_i
 refine yM h ?_
 refine Rc (r := r) h O6 O7 hi hz ?_
 refine ⟨_, _, rfl, ?_⟩
 unfold jG.wait at k
 cases hs : fZ c.m.l g with
 | none =>
  rw [hs] at k
  exact ai (k _ (Ai h))
 | some f =>
  rw [hs] at k
  refine ae (aH h ?_)
  simp only [Option.getD_some]
  refine au h ?_
  clear h; intro M h
  refine yM h ?_
  refine Wc (r := r) h O6 O7 ?_
  clear h; intro M h
  exact ⟨rfl, k _ (Ai (r := r) (h.sub bD))⟩
theorem Lh (h : Hp R L M) [q : qm b L pa p wb db x L'] (g0 : 0 ≤ g) (g1 : g < x.w.gs.length) (k : ∀ M', Hp R (az (e8 pa p wb db) b x :: L') M' → K (.int .i64 (aj x.w g).st) M') : aa Tryz.prog 119 #[.pointer (some ⟨wb, 0, none⟩), .int .i64 g] M K Kp := by
 have h' := fx h (b := b)
 clear h
 obtain ⟨a, hl, h⟩ := h'
 refine u5 (b := wb) h g0 g1 ?_
 exact k _ (ia hl (h.sub bD))
theorem O8 (h : Hp R L M) [q : qm b L pa p wb db x L'] (k : ∀ M', Hp R (az (e8 pa p wb db) b x :: L') M' → K (.int .i64 (x.w.gs.length : Int)) M') : aa Tryz.prog 73 #[.pointer (some ⟨wb, 0, none⟩)] M K Kp := by
 have h' := fx h (b := b)
 clear h
 obtain ⟨a, hl, h⟩ := h'
 refine KN (b := wb) h ?_
 exact k _ (ia hl (h.sub bD))
theorem HX {rs : List Int} {A : Option Addr} {n : Nat} {now : Int} {aac : Mem → Prop} {L0 : List HP} (h : Hp R (az lj b c :: L0) M) (hA : RS bB R A n rs) (jT : rs.length ≤ 1000000) (k : ∀ M', Hp R (az lj b (rs.foldl (fun c g => c.since g now) c) :: L0) M' → aac M') :
  ∃ I : Nat → List Value → Mem → Prop, (∃ k2 : Nat, I k2 [.int .i64 0] M) ∧ ∀ k3 : Nat, ∀ JT : Nat → Value, ∀ n : Int, ∀ M8 : Mem, (I k3 [.int .i64 n] M8) → aO (decide ((n : Int) < ((rs.length : Nat) : Int)))
   (((0 : Int) ≤ n) ∧ ((n : Int) < ((rs.length : Nat) : Int)) ∧ aF A fun kb ko => aJ (Mem.ld M8 ⟨kb, (ko + (Int.toNat n)), none⟩) .i64 fun sk =>
    dZ (Mem.ld M8 ⟨b, 0, none⟩) fun Uf =>
    bA Tryz.prog (Go.Instr.mapUpdate 170 Uf (.int .i64 sk) (.int .i64 now)) M8 (fun Ay => ∃ oW : Nat, (oW < k3) ∧ I oW [.int .i64 (IntKind.wrap .i64 (n + 1))] Ay) Kp)
   (aac M8) := by
 refine ⟨fun d ws M => ∃ i : Nat, ws = [.int .i64 (i : Int)] ∧ d = rs.length - i ∧ i ≤ rs.length ∧ Hp R (az lj b ((rs.take i).foldl (fun c g => c.since g now) c) :: L0) M, ⟨_, 0, rfl, rfl, by omega, by simpa using h⟩, ?_⟩
 clear h
 rintro dd JT nn M8 ⟨i, he, hd, hi, h⟩
 simp only [List.cons.injEq, Value.int.injEq, and_true, true_and] at he
 subst he
 refine aM.2 ⟨fun hlt => ?_, fun hge => k M8 (by rw [List.take_of_length_le (by omega)] at h; exact h)⟩
 have Mf : i < rs.length := by omega
 obtain ⟨w, hw⟩ := aP (l := rs) (i := i) Mf
 have hs : Src R (az lj b ((rs.take i).foldl (fun c g => c.since g now) c) :: L0) A (bB.cells rs) := hA.src
 obtain ⟨kb, ko, rfl⟩ := hs.lI h (by omega) (by decide)
 refine ⟨by omega, hlt, bp ?_⟩
 simp only [Int.toNat_natCast]
 refine aZ (Src.at hs h (i := i) (j := 0) hw rfl (by simp [bB])) ?_
 have h' := vk h (b := b)
 clear h
 obtain ⟨r, h⟩ := h'
 refine yM h ?_
 refine Hu (r := r) h O6 O7 ?_
 clear h; intro M h
 refine ⟨rs.length - (i + 1), by omega, i + 1, by rw [aV (by omega)], rfl, by omega, ?_⟩
 rw [dD hw, List.foldl_append]
 exact Ai (r := r) (h.sub bD)
theorem Li {e : Ev} {A : Option Addr} {n : Nat} (h : Hp R (az (e8 pa p wb db) b x :: az lj cb c :: L) M) (hA : RS bB R A n e.ready) (jT : e.ready.length ≤ 1000000) (hg : e.kind = 7 → 0 ≤ e.g ∧ e.g < x.w.gs.length)
  (k : ∀ M', Hp R (az (e8 pa p wb db) b x :: az lj cb (c.step e x) :: L) M' → K (.tuple #[]) M') : aa Tryz.prog 72 #[.pointer (some ⟨cb, 0, none⟩), K6 e A n, .pointer (some ⟨b, 0, none⟩)] M K Kp := by
 refine tv ?_
 refine aq h ?_
 clear h
 intro k1 M h
 refine qo h ?_
 refine cE ?_
 refine aH h ?_
 have fin : ∀ (c' : jG) M', (c.step e x = e.ready.foldl (fun c g => c.since g (IntKind.wrap .i64 (x.steps - 1))) c') → Hp R (az lj cb c' :: az (e8 pa p wb db) b x :: pt k1 [.int .i64 e.kind, .int .i64 e.m, .int .i64 e.g, .slice A e.ready.length n] 43 :: L) M' → ∃ I : Nat → List Value → Mem → Prop, (∃ k2 : Nat, I k2 [.int .i64 0] M') ∧ ∀ k3 : Nat, ∀ JT : Nat → Value, ∀ n : Int, ∀ M8 : Mem, (I k3 [.int .i64 n] M8) → aO (decide ((n : Int) < ((e.ready.length : Nat) : Int)))
   (((0 : Int) ≤ n) ∧ ((n : Int) < ((e.ready.length : Nat) : Int)) ∧ aF A fun kb ko => aJ (Mem.ld M8 ⟨kb, (ko + (Int.toNat n)), none⟩) .i64 fun sk =>
    dZ (Mem.ld M8 ⟨cb, 0, none⟩) fun Uf =>
    bA Tryz.prog (Go.Instr.mapUpdate 170 Uf (.int .i64 sk) (.int .i64 (IntKind.wrap .i64 (x.steps - 1)))) M8 (fun Ay => ∃ oW : Nat, (oW < k3) ∧ I oW [.int .i64 (IntKind.wrap .i64 (n + 1))] Ay) Kp)
   (K (.tuple #[]) M8) := fun c' M' hc h => HX h hA jT fun M2 h2 => k M2 (by rw [hc]; exact h2.sub bD)
 refine aR.2 ⟨fun he => ?_, fun he => ?_⟩
 ·refine aH h ?_
  refine Cy (b := cb) h ?_
  clear h; intro M h
  refine ⟨rfl, ?_⟩
  refine aH h ?_
  refine qn (b := b) h ?_
  refine ju ⟨bN h, ?_⟩
  refine Lh (b := b) h (hg he).1 (hg he).2 ?_
  clear h; intro M h
  refine cE ⟨bN h, ?_⟩
  refine aR.2 ⟨fun hs => ?_, fun hs => ?_⟩
  ·have h' := vk h (b := cb)
   clear h
   obtain ⟨r, h⟩ := h'
   refine yM h ?_
   refine aH h ?_
   refine Hu (r := r) h O6 O7 ?_
   clear h; intro M h
   refine aS h ?_
   refine fin ((c.wait e.g (IntKind.wrap .i64 (x.steps - 1))).since e.g (IntKind.wrap .i64 (x.steps - 1))) _ (by unfold jG.step; rw [if_pos he, if_pos hs]) (Ai (r := r) (h.sub bD))
  ·refine aS h ?_
   exact fin (c.wait e.g (IntKind.wrap .i64 (x.steps - 1))) _ (by unfold jG.step; rw [if_pos he, if_neg hs]) (h.sub bD)
 ·refine aS h ?_
  exact fin c _ (by unfold jG.step; rw [if_neg he]) (h.sub bD)
end
inductive WR (p : b6) (x0 : Sc) (c0 : jG) : Nat → Sc → jG → Prop
 | zero : WR p x0 c0 0 x0 c0
 | succ {j : Nat} {x y : Sc} {c : jG} {e : Ev} : WR p x0 c0 j x c → x.status = 0 → x.step p = some (y, .ev e) → WR p x0 c0 (j + 1) y (c.step e y)
inductive Aj (p : b6) (x0 : Sc) (c0 : jG) (most : Nat) : Sc → jG → Prop
 | O9 {j : Nat} {x : Sc} {c : jG} : WR p x0 c0 j x c → j ≤ most → Aj p x0 c0 most x c
 | cV {j : Nat} {x y : Sc} {c : jG} {l : List PanicEntry} : WR p x0 c0 j x c → j < most → x.status = 0 → x.step p = some (y, .cV l) → Aj p x0 c0 most y c
section
variable {R : Mem} {L L' L2 : List HP} {M : Mem} {K : Value → Mem → Prop} {Kp : List PanicEntry → Mem → Prop} {pa : PA} {p : b6} {b cb wb db : Nat} {x x0 y : Sc} {c c0 : jG} {g now : Int}
theorem WR.sv {j : Nat} (h : WR p x0 c0 j x c) (h0 : SV p 0 x0) (hp : dn p) (hj : j ≤ 1000000) : SV p j x := by
 induction h with
 | zero => exact h0
 | succ hw hs he ih =>
  obtain ⟨y', o, h1, h2⟩ := (ih (by omega)).step hp (by omega)
  rw [he] at h1
  cases h1
  exact h2
end
def WE (t : Int) : Nat := if Int.tmod t 7 = 6 then 1 else 0
def Br (t : Int) : Nat := 6 - (Int.tmod t 7).toNat
def uM (mc : va) : Nat := if mc.g = -1 then 2 * mc.left.toNat + 1 else 2 * mc.left.toNat
def Lr (GG : Nat) (q : Loc) (gl : List Int) (t g : Int) (n : Nat) : Prop :=
 (∃ k, q.l[k]? = some g ∧ 2 * k + WE t + (7 * GG + 7) ≤ n) ∨ ∃ j, gl[j]? = some g ∧ 7 * j + Br t ≤ n
def Lv (Rm GG : Nat) (q : Loc) (gl : List Int) (t g : Int) (n : Nat) : Prop :=
 (q.next = g ∧ 2 * Rm + 2 + (7 * GG + 7) ≤ n) ∨ Lr GG q gl t g n
theorem DE (t : Int) : WE t ≤ 1 := by unfold WE; split <;> omega
theorem vl (t : Int) : Br t ≤ 6 := by unfold Br; omega
theorem kI {l : List Int} {j : Nat} {g : Int} (h : l[j]? = some g) : j < l.length := (List.getElem?_eq_some_iff.1 h).1
theorem Ak (x : Loc) (v : Int) (gl : List Int) : (x.put v gl).1.next = x.next ∧ (x.put v gl).1.room = x.room ∧ gl <+: (x.put v gl).2.1 := by
 unfold Loc.put
 split
 ·exact ⟨rfl, rfl, List.prefix_refl _⟩
 ·exact ⟨rfl, rfl, List.prefix_append _ _⟩
theorem aad {x : Loc} {v : Int} {gl : List Int} : (∃ k : Nat, (x.put v gl).1.l[k]? = some v ∧ k + 1 ≤ x.room) ∨ ∃ j : Nat, (x.put v gl).2.1[j]? = some v := by
 unfold Loc.put
 split
 ·rename_i h
  exact .inl ⟨x.l.length, by simp, by omega⟩
 ·refine .inr ⟨gl.length + (x.l.take (x.l.length / 2)).length, ?_⟩
  dsimp only
  rw [List.getElem?_append_right (by omega)]
  simp
theorem aae {x : Loc} {v g : Int} {gl : List Int} {k : Nat} (h : x.l[k]? = some g) : (∃ k', k' ≤ k ∧ (x.put v gl).1.l[k']? = some g) ∨ ∃ j : Nat, (x.put v gl).2.1[j]? = some g := by
 have hk := kI h
 unfold Loc.put
 split
 ·exact .inl ⟨k, Nat.le_refl _, by dsimp only; rw [List.getElem?_append_left hk]; exact h⟩
 ·dsimp only
  by_cases hc : k < x.l.length / 2
  ·refine .inr ⟨gl.length + k, ?_⟩
   rw [List.getElem?_append_right (by omega), Nat.add_sub_cancel_left, List.getElem?_append_left (by simp; omega), List.getElem?_take_of_lt hc]
   exact h
  ·refine .inl ⟨k - x.l.length / 2, by omega, ?_⟩
   rw [List.getElem?_drop, show x.l.length / 2 + (k - x.l.length / 2) = k by omega]
   exact h
theorem yo {l l' : List Int} {j : Nat} {g : Int} (hp : l <+: l') (h : l[j]? = some g) : l'[j]? = some g := by
 obtain ⟨t, rfl⟩ := hp
 rw [List.getElem?_append_left (kI h)]; exact h
theorem Pa {GG n : Nat} {x : Loc} {v g t : Int} {gl : List Int} (h : Lr GG x gl t g n) (hG : (x.put v gl).2.1.length ≤ GG) : Lr GG (x.put v gl).1 (x.put v gl).2.1 t g n := by
 have h7 := vl t
 rcases h with ⟨k, h1, h2⟩ | ⟨j, h1, h2⟩
 ·rcases aae (v := v) (gl := gl) h1 with ⟨k', h3, h4⟩ | ⟨j, h3⟩
  ·exact .inl ⟨k', h4, by omega⟩
  ·have := kI h3
   exact .inr ⟨j, h3, by omega⟩
 ·exact .inr ⟨j, yo (Ak x v gl).2.2 h1, h2⟩
theorem Jq {GG Rm n : Nat} {x : Loc} {v t : Int} {gl : List Int} (hR : x.room = Rm) (hn : 2 * Rm + 2 + (7 * GG + 7) ≤ n) (hG : (x.put v gl).2.1.length ≤ GG) : Lr GG (x.put v gl).1 (x.put v gl).2.1 t v n := by
 have h7 := vl t
 have h1 := DE t
 rcases aad (x := x) (v := v) (gl := gl) with ⟨k, h3, h4⟩ | ⟨j, h3⟩
 ·exact .inl ⟨k, h3, by omega⟩
 ·have := kI h3
  exact .inr ⟨j, h3, by omega⟩
theorem HY (q : Loc) (r : Int) (gl : List Int) : (q.ready r gl).1.next = r ∧ (q.ready r gl).1.room = q.room ∧ gl <+: (q.ready r gl).2.1 := by
 unfold Loc.ready
 split
 ·exact ⟨rfl, rfl, List.prefix_refl _⟩
 ·exact Ak { q with next := r } q.next gl
theorem Pb {GG Rm n : Nat} {q : Loc} {g r t : Int} {gl : List Int} (h : Lv Rm GG q gl t g n) (h0 : 0 ≤ g) (hR : q.room = Rm) (hG : (q.ready r gl).2.1.length ≤ GG) : Lv Rm GG (q.ready r gl).1 (q.ready r gl).2.1 t g n := by
 unfold Loc.ready at hG ⊢
 split
 ·rename_i e
  rcases h with ⟨h1, _⟩ | h
  ·omega
  ·exact .inr h
 ·rename_i e
  rw [if_neg e] at hG
  rcases h with ⟨h1, h2⟩ | h
  ·subst h1
   exact .inr (Jq (x := { q with next := r }) hR h2 hG)
  ·exact .inr (Pa (x := { q with next := r }) h hG)
theorem qQ (q : Loc) (gl : List Int) : (q.dO gl).1.next = -1 ∧ (q.dO gl).1.room = q.room ∧ gl <+: (q.dO gl).2.1 := by
 unfold Loc.dO
 split
 ·rename_i e; exact ⟨e, rfl, List.prefix_refl _⟩
 ·exact Ak { q with next := -1 } q.next gl
theorem RT {GG Rm n : Nat} {q : Loc} {g t : Int} {gl : List Int} (h : Lv Rm GG q gl t g n) (h0 : 0 ≤ g) (hR : q.room = Rm) (hG : (q.dO gl).2.1.length ≤ GG) : Lr GG (q.dO gl).1 (q.dO gl).2.1 t g n := by
 unfold Loc.dO at hG ⊢
 split
 ·rename_i e
  rcases h with ⟨h1, _⟩ | h
  ·omega
  ·exact h
 ·rename_i e
  rw [if_neg e] at hG
  rcases h with ⟨h1, h2⟩ | h
  ·subst h1
   exact Jq (x := { q with next := -1 }) hR h2 hG
  ·exact Pa (x := { q with next := -1 }) h hG
theorem t7 {t : Int} (h : 0 ≤ t) : (Int.tmod t 7 = 6 → WE t = 1 ∧ Br t = 0 ∧ WE (t + 1) = 0 ∧ Br (t + 1) = 6) ∧ (Int.tmod t 7 ≠ 6 → WE t = 0 ∧ Br (t + 1) + 1 = Br t) := by
 have e1 : Int.tmod t 7 = t % 7 := Int.tmod_eq_emod_of_nonneg h
 have e2 : Int.tmod (t + 1) 7 = (t + 1) % 7 := Int.tmod_eq_emod_of_nonneg (by omega)
 unfold WE Br
 rw [e1, e2]
 constructor
 ·intro e
  rw [if_pos e, if_neg (by omega)]
  omega
 ·intro e
  rw [if_neg e]
  omega
theorem Jr {q : Loc} (hn : q.next = -1) (hl : q.l = []) : q.get = (q, -1) := by
 unfold Loc.get
 rw [if_neg (by rw [hn]; decide), hl]
theorem Pc {q : Loc} {v : Int} {l : List Int} (hn : q.next = -1) (hl : q.l = v :: l) : q.get = ({ q with l := l }, v) := by
 unfold Loc.get
 rw [if_neg (by rw [hn]; decide), hl]
theorem DF (q : Loc) (gl : List Int) : q.ee gl 0 = match gl with | [] => (q, [], -1) | v :: l => (q, l, v) := by
 have e : q.cZ gl 0 = 1 := by unfold Loc.cZ; rw [if_pos (by decide)]
 unfold Loc.ee
 rw [e]
 cases gl with
 | nil => rfl
 | cons v l => simp
theorem WG {GG Rm n : Nat} {q : Loc} {g t : Int} {gl : List Int} (h : Lv Rm GG q gl t g n) (h0 : 0 ≤ g) (ht : 0 ≤ t) (hR : q.room = Rm) (hG : (q.dO gl).2.1.length ≤ GG) :
  (gf q t gl).2.2.2 = true ∧ ((gf q t gl).2.2.1 = g ∨ ∃ n', n' + 1 ≤ n ∧ Lv Rm GG (gf q t gl).1 (gf q t gl).2.1 (t + 1) g n') := by
 have hr := RT h h0 hR hG
 obtain ⟨hn, _, _⟩ := qQ q gl
 obtain ⟨ta, tb⟩ := t7 ht
 unfold gf
 generalize q.dO gl = r at hr hn hG
 obtain ⟨q1, g1, n1⟩ := r
 dsimp only at hr hn hG ⊢
 have xm := DE (t + 1)
 split
 ·rename_i hh
  obtain ⟨p1, p2, p3, p4⟩ := ta hh.1
  refine ⟨rfl, ?_⟩
  rcases hr with ⟨k, h1, h2⟩ | ⟨j, h1, h2⟩
  ·exact .inr ⟨2 * k + (7 * GG + 7), by omega, .inr (.inl ⟨k, h1, by omega⟩)⟩
  ·cases g1 with
   | nil => simp at h1
   | cons v l =>
    cases j with
    | zero => exact .inl (by simpa using h1)
    | succ j => exact .inr ⟨7 * j + 6, by omega, .inr (.inr ⟨j, by simpa using h1, by omega⟩)⟩
 ·rename_i hh
  split
  ·rename_i ho
   refine ⟨rfl, ?_⟩
   have hl : q1.l ≠ [] := by
    intro e
    unfold nZ at ho
    rw [hn, e] at ho
    cases ho
   obtain ⟨v, l, hl⟩ := List.exists_cons_of_ne_nil hl
   rw [Pc hn hl]
   dsimp only
   rcases hr with ⟨k, h1, h2⟩ | ⟨j, h1, h2⟩
   ·rw [hl] at h1
    cases k with
    | zero => exact .inl (by simpa using h1)
    | succ k => exact .inr ⟨2 * k + 1 + (7 * GG + 7), by omega, .inr (.inl ⟨k, by simpa using h1, by omega⟩)⟩
   ·have hne : Int.tmod t 7 ≠ 6 := fun e => hh ⟨e, by have := kI h1; omega⟩
    have := tb hne
    exact .inr ⟨7 * j + Br (t + 1), by omega, .inr (.inr ⟨j, h1, Nat.le_refl _⟩)⟩
  ·rename_i ho
   have hl : q1.l = [] := by
    unfold nZ at ho
    simp only [Bool.or_eq_true, bne_iff_ne, ne_eq, Bool.not_eq_true', List.isEmpty_eq_false_iff, not_or, Decidable.not_not] at ho
    exact ho.2
   rw [Jr hn hl]
   dsimp only
   rcases hr with ⟨k, h1, h2⟩ | ⟨j, h1, h2⟩
   ·rw [hl] at h1; simp at h1
   ·have hne : Int.tmod t 7 ≠ 6 := fun e => hh ⟨e, by have := kI h1; omega⟩
    have := tb hne
    rw [DF]
    cases g1 with
    | nil => simp at h1
    | cons v l =>
     refine ⟨rfl, ?_⟩
     dsimp only
     cases j with
     | zero => exact .inl (by simpa using h1)
     | succ j => exact .inr ⟨7 * j + 6, by omega, .inr (.inr ⟨j, by simpa using h1, by have := vl (t + 1); omega⟩)⟩
theorem Pd {q : Loc} {t : Int} {gl : List Int} (h : (gf q t gl).2.2.2 = false) : (gf q t gl).1.next = -1 ∧ (gf q t gl).1.l = [] ∧ (gf q t gl).1.room = q.room ∧ (gf q t gl).2.1 = [] := by
 obtain ⟨hn, hr, _⟩ := qQ q gl
 unfold gf at h ⊢
 generalize q.dO gl = r at hn hr h
 obtain ⟨q1, g1, n1⟩ := r
 dsimp only at hn hr h ⊢
 split
 ·rename_i hh; rw [if_pos hh] at h; cases h
 ·rename_i hh
  rw [if_neg hh] at h
  split
  ·rename_i ho; rw [if_pos ho] at h; cases h
  ·rename_i ho
   rw [if_neg ho] at h
   have hl : q1.l = [] := by
    unfold nZ at ho
    simp only [Bool.or_eq_true, bne_iff_ne, ne_eq, Bool.not_eq_true', List.isEmpty_eq_false_iff, not_or, Decidable.not_not] at ho
    exact ho.2
   rw [Jr hn hl]
   dsimp only at h ⊢
   cases g1 with
   | nil => rw [DF]; exact ⟨hn, hl, hr, rfl⟩
   | cons v l => cases h
theorem Pe {q : Loc} {t : Int} {gl : List Int} : (gf q t gl).1.room = q.room := by
 obtain ⟨hn, hr, _⟩ := qQ q gl
 unfold gf
 generalize q.dO gl = r at hn hr
 obtain ⟨q1, g1, n1⟩ := r
 dsimp only at hn hr ⊢
 have hg : q1.get.1.room = q1.room := by
  unfold Loc.get
  split
  ·rfl
  ·split <;> rfl
 split
 ·exact hr
 ·split
  ·rw [hg]; exact hr
  ·rw [DF]
   split <;> · dsimp only; rw [hg]; exact hr
theorem Lj {q f : Loc} {Rm : Nat} (hq : q.l = []) (hR : q.room = Rm) (hf : f.l.length ≤ Rm) (hn : q.next = -1) :
  (f.l = [] ∧ q.c9 f = (q, { f with next := -1 }, f.next)) ∨
   ∃ v out rest, f.l = v :: (out ++ rest) ∧ q.c9 f = ({ q with l := out }, { f with l := rest }, v) := by
 have e : q.fY f = f.l.length - f.l.length / 2 := by unfold Loc.fY; rw [hq, hR]; simp only [List.length_nil]; omega
 unfold Loc.c9
 rw [e]
 cases hl : f.l with
 | nil => left; simp
 | cons v l =>
  right
  have h1 : (v :: l).length - (v :: l).length / 2 = ((v :: l).length - (v :: l).length / 2 - 1) + 1 := by simp only [List.length_cons]; omega
  rw [h1, List.take_succ_cons, List.drop_succ_cons]
  refine ⟨v, l.take ((v :: l).length - (v :: l).length / 2 - 1), l.drop ((v :: l).length - (v :: l).length / 2 - 1), ?_, ?_⟩
  ·rw [List.take_append_drop]
  ·dsimp only; rw [hq]; rfl
def Ll (Rm GG : Nat) (x : Sc) (g : Int) (m n u : Nat) : Prop :=
 ∃ mc, x.ms[m]? = some mc ∧ (mc.g = g ∨ (mc.p ≠ -1 ∧ uM mc ≤ u ∧ Lv Rm GG (ay x mc.p).q x.gl (ay x mc.p).turns g n) ∨ ((∀ c ∈ x.ms, c.p = -1) ∧ ∃ j, x.gl[j]? = some g ∧ 7 * j + 7 ≤ n))
structure HV (Rm : Nat) (x : Sc) : Prop where
 hold : ∀ i : Nat, i < x.ps.length → ((ay x (i : Int)).eV = -1 ∧ (ay x (i : Int)).q.next = -1 ∧ (ay x (i : Int)).q.l = []) ∨ ∃ m : Nat, ∃ mc, x.ms[m]? = some mc ∧ mc.p = (i : Int)
 room : ∀ pr ∈ x.ps, pr.q.room = Rm
 left : ∀ mc ∈ x.ms, mc.left ≤ x.c.S
def Bet (S n' u' n u : Nat) : Prop := n' + 1 ≤ n ∧ u' ≤ 2 * S + 1 ∨ n' ≤ n ∧ u' + 1 ≤ u
def oe (Rm GG S : Nat) (y : Sc) (g : Int) (pk m n u : Nat) : Prop := (pk ≠ m ∧ Ll Rm GG y g m n u) ∨ ∃ n' u', Bet S n' u' n u ∧ Ll Rm GG y g pk n' u'
section
variable {p : b6} {N Rm GG m n u k : Nat} {x y z : Sc} {i g a kind : Int}
theorem HZ {q : Loc} {gl Dx : List Int} {t : Int} (h : Lv Rm GG q gl t g n) (hp : gl <+: Dx) : Lv Rm GG q Dx t g n := by
 rcases h with h | ⟨k, h1, h2⟩ | ⟨j, h1, h2⟩
 ·exact .inl h
 ·exact .inr (.inl ⟨k, h1, h2⟩)
 ·exact .inr (.inr ⟨j, yo hp h1, h2⟩)
theorem Pf {P : Nat} {mc : va} (h : MV P mc) : 1 ≤ uM mc := by
 unfold uM
 split
 ·omega
 ·rename_i hg
  rcases h with h | h
  ·exact absurd h.2.1 hg
  ·have := h.2.2.2.2.2 (by omega); omega
theorem kf {l : List va} {a b : Nat} {w : va} (h : b ≠ a) : (l.set a w)[b]? = l[b]? := List.getElem?_set_ne (Ne.symm h)
theorem SV.apart (h : SV p N x) {mc lY : va} {k : Nat} (h1 : x.ms[m]? = some mc) (h2 : x.ms[k]? = some lY) (hp : mc.p ≠ -1) (he : mc.p = lY.p) : m = k := by
 have a1 := h.eV m mc h1 hp
 have a2 := h.eV k lY h2 (by rw [← he]; exact hp)
 rw [he] at a1
 rw [a1] at a2
 omega
theorem SV.mv (h : SV p N x) {mc : va} (h1 : x.ms[m]? = some mc) : MV x.ps.length mc := h.ms _ (List.mem_of_getElem? h1)
theorem SV.DG (h : SV p N x) {l : List Int} (hc : ∀ a, l.count a ≤ jR x a) : l.length ≤ x.w.gs.length := by
 refine Nat.le_trans (oa (b := 1) x.w.gs.length l (fun v hv => ?_) (fun v => by have := h.Z7 (a := v); have := hc v; omega)) (by omega)
 have := h.at_ (a := v) (by have : 0 < l.count v := List.count_pos_iff.2 hv; have := hc v; omega)
 exact ⟨this.1, this.2.1⟩
theorem Js {j : Int} {b : dm} (h : j.toNat ≠ i.toNat) : ay (x.bT i b) j = ay x j := by unfold ay Sc.bT; exact getD_set_ne h
theorem Pg {b : dm} (h : i.toNat < x.ps.length) : ay (x.bT i b) i = b := by unfold ay Sc.bT; exact bH h
theorem HV.WH (h : HV Rm x) (h0 : 0 ≤ i) (h1 : i < x.ps.length) : (ay x i).q.room = Rm := h.room _ (List.mem_of_getElem? (mz h0 h1))
theorem Ph (h : Ll Rm GG x g m n u) (l : List Int) (w : Wd) (d : jB) : Ll Rm GG { x with w := w, gl := x.gl ++ l, d := d } g m n u := by
 obtain ⟨mc, h1, h2 | ⟨h2, h3, h4⟩ | ⟨h2, j, h3, h4⟩⟩ := h
 ·exact ⟨mc, h1, .inl h2⟩
 ·exact ⟨mc, h1, .inr (.inl ⟨h2, h3, HZ h4 (List.prefix_append _ _)⟩)⟩
 ·exact ⟨mc, h1, .inr (.inr ⟨h2, j, yo (List.prefix_append _ _) h3, h4⟩)⟩
theorem RU (h : HV Rm x) (l : List Int) (w : Wd) (d : jB) : HV Rm { x with w := w, gl := x.gl ++ l, d := d } := ⟨h.hold, h.room, h.left⟩
theorem Pj {S : Nat} (hs : SV p N x) (hv : HV Rm x) (k1 : k < x.ms.length) (hk : (ax x (k : Int)).p = -1) : (0 ≤ g → Ll Rm GG x g m n u → oe Rm GG S (x.hold (k : Int)).1 g k m n u) ∧ HV Rm (x.hold (k : Int)).1 := by
 have hmk := gD (x := x) (m := (k : Int)) (by omega) (by omega)
 rw [Int.toNat_natCast] at hmk
 have Ah : (ax x (k : Int)).g = -1 ∧ (ax x (k : Int)).left = 0 := by
  rcases hs.mv hmk with e | e
  ·exact e.2
  ·omega
 have hne : 0 ≤ g → (∃ mc, x.ms[m]? = some mc ∧ (mc.g = g ∨ mc.p ≠ -1)) → k ≠ m := by
  rintro h0 ⟨mc, h1, h2⟩ rfl
  rw [hmk] at h1
  obtain rfl := Option.some.inj h1
  rcases h2 with h2 | h2
  ·omega
  ·exact h2 hk
 unfold Sc.hold
 split
 ·rename_i i hi
  obtain ⟨hlt, hb, _⟩ := List.findIdx?_eq_some_iff_getElem.1 hi
  have Mf : (i : Int).toNat < x.ps.length := by omega
  dsimp only
  refine ⟨fun h0 h => ?_, ?_⟩
  ·obtain ⟨mc, h1, h2 | ⟨h2, h3, h4⟩ | ⟨h2, j, h3, h4⟩⟩ := h
   ·have := hne h0 ⟨mc, h1, .inl h2⟩
    refine .inl ⟨this, mc, ?_, .inl h2⟩
    show (x.ms.set (k : Int).toNat _)[m]? = _
    rw [Int.toNat_natCast, kf (Ne.symm this)]; exact h1
   ·have := hne h0 ⟨mc, h1, .inr h2⟩
    refine .inl ⟨this, mc, ?_, .inr (.inl ⟨h2, h3, ?_⟩)⟩
    ·show (x.ms.set (k : Int).toNat _)[m]? = _
     rw [Int.toNat_natCast, kf (Ne.symm this)]; exact h1
    ·have e : (ay (x.bT (i : Int) { ay x (i : Int) with eV := (k : Int) }) mc.p).q = (ay x mc.p).q ∧ (ay (x.bT (i : Int) { ay x (i : Int) with eV := (k : Int) }) mc.p).turns = (ay x mc.p).turns := by
      by_cases e : mc.p.toNat = (i : Int).toNat
      ·have e2 : ay x mc.p = ay x (i : Int) := by unfold ay; rw [e]
       have e3 : ay (x.bT (i : Int) { ay x (i : Int) with eV := (k : Int) }) mc.p = ay (x.bT (i : Int) { ay x (i : Int) with eV := (k : Int) }) (i : Int) := by unfold ay; rw [e]
       rw [e3, Pg Mf, e2]
       exact ⟨rfl, rfl⟩
      ·rw [Js e]; exact ⟨rfl, rfl⟩
     show Lv Rm GG (ay (x.bT (i : Int) { ay x (i : Int) with eV := (k : Int) }) mc.p).q x.gl (ay (x.bT (i : Int) { ay x (i : Int) with eV := (k : Int) }) mc.p).turns g n
     rw [e.1, e.2]; exact h4
   ·refine .inr ⟨7 * j + 6, 1, .inl ⟨by omega, by omega⟩, { ax x (k : Int) with p := (i : Int) }, ?_, .inr (.inl ⟨by dsimp only; omega, ?_, ?_⟩)⟩
    ·show (x.ms.set (k : Int).toNat _)[k]? = _
     rw [Int.toNat_natCast, List.getElem?_set_self k1]
    ·unfold uM
     dsimp only
     rw [Ah.2]; split <;> simp
    ·have hsv : ∀ t, 7 * j + Br t ≤ 7 * j + 6 := fun t => by have := vl t; omega
     exact .inr (.inr ⟨j, h3, hsv _⟩)
  ·refine ⟨fun a ha => ?_, fun pr hp => ?_, fun mc hm => ?_⟩
   ·have Z4 : a < x.ps.length := by simpa [Sc.bT, Sc.gZ] using ha
    by_cases e : a = i
    ·subst e
     exact .inr ⟨k, _, by show (x.ms.set (k : Int).toNat _)[k]? = _; rw [Int.toNat_natCast, List.getElem?_set_self k1], rfl⟩
    ·rcases hv.hold a Z4 with hh | ⟨c, mc, h1, h2⟩
     ·refine .inl ?_
      show (ay (x.bT (i : Int) _) (a : Int)).eV = -1 ∧ (ay (x.bT (i : Int) _) (a : Int)).q.next = -1 ∧ (ay (x.bT (i : Int) _) (a : Int)).q.l = []
      rw [Js (by omega)]; exact hh
     ·refine .inr ⟨c, mc, ?_, h2⟩
      have : c ≠ k := by
       rintro rfl
       rw [hmk] at h1
       obtain rfl := Option.some.inj h1
       omega
      show (x.ms.set (k : Int).toNat _)[c]? = _
      rw [Int.toNat_natCast, kf this]; exact h1
   ·have xm : pr ∈ x.ps.set (i : Int).toNat { ay x (i : Int) with eV := (k : Int) } := hp
    rcases List.mem_or_eq_of_mem_set xm with xm | rfl
    ·exact hv.room pr xm
    ·exact hv.WH (i := (i : Int)) (by omega) (by omega)
   ·have hm' : mc ∈ x.ms.set (k : Int).toNat { ax x (k : Int) with p := (i : Int) } := hm
    rcases List.mem_or_eq_of_mem_set hm' with hm' | rfl
    ·exact hv.left mc hm'
    ·exact hv.left (ax x (k : Int)) (List.mem_of_getElem? hmk)
 ·rename_i hi
  refine ⟨fun h0 h => ?_, hv⟩
  have hno := List.findIdx?_eq_none_iff.1 hi
  obtain ⟨mc, h1, h2 | ⟨h2, h3, h4⟩ | ⟨h2, j, h3, h4⟩⟩ := h
  ·exact .inl ⟨hne h0 ⟨mc, h1, .inl h2⟩, mc, h1, .inl h2⟩
  ·exact .inl ⟨hne h0 ⟨mc, h1, .inr h2⟩, mc, h1, .inr (.inl ⟨h2, h3, h4⟩)⟩
  ·exfalso
   have hP := hs.P1.1
   rcases hv.hold 0 (by omega) with hh | ⟨c, lY, h5, h6⟩
   ·have := hno (ay x ((0 : Nat) : Int)) (List.mem_of_getElem? (mz (by omega) (by omega)))
    rw [hh.1] at this
    simp at this
   ·have := h2 lY (List.mem_of_getElem? h5)
    omega
end
end Go.Proofs
