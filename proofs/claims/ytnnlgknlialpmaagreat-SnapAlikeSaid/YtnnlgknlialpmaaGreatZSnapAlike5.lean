/- A part of proofs about one program. -/
import Derived.Test.YtnnlgknlialpmaaGreatZSnapAlike4
set_option linter.unusedVariables false
namespace Go.Proofs
open Go.AF
set_option maxRecDepth 100000
set_option maxHeartbeats 1000000
attribute [local irreducible] aK dH fa cw az fk aE aP aX be bK aS
def Q3 (R : Mem) (pa : PA) (p : cv) (b wb db : Nat) (L' : List HP) (K : Value → Mem → Prop) (Kp : List PanicEntry → Mem → Prop) (y : Sc) : nR → Prop
 | .ev e => ∀ R' A c M', R.le R' → RS aZ R' A c e.ready → Hp R' (ay (c9 pa p wb db) b y :: L') M' → K (Kf e A c) M'
 | .dY l => ∀ M', Hp R (ay (c9 pa p wb db) b y :: L') M' → Kp l M'
section
variable {R : Mem} {L L' L2 : List HP} {M : Mem} {K : Value → Mem → Prop} {Kp : List PanicEntry → Mem → Prop} {pa : PA} {p : cv} {b wb db : Nat} {x : Sc} {m i : Int} {a : SA}
theorem Kk {A : Option Addr} {q o : Nat} {G : Nat → Nat → Prop} (e : A = some ⟨q, o, none⟩) (g : G q o) : aE A G := by subst e; exact bg g
theorem HB {q2 k1 c : Nat} {g : Int} {kp : Bool} {A : Option Addr} {w : Wd} {d' : mj} {rest : Bool} {y : Sc} {o : nR}
  (h : Hp R (gI (eE b wb db a x) x.gl :: ay (bn pa p) wb w :: ay (cX .nilFunc) db d' :: cy a.ap a.cp (bV a.lb x.ps) :: bp bO a.lb (x.ps.map dM.q) :: cH (some ⟨q2, 0, none⟩) a.cm x.ms :: pt k1 [.int .i64 0, .int .i64 0, .int .i64 0, .slice none 0 0] 43 :: L') M)
  (oR : RS aZ R A c w.ready) (Ls : a.am = some ⟨q2, 0, none⟩) (hl : a.lb.length = x.ps.length) (hpre : Bz p x m) (hg : g = (aC x m).g) (hkp : kp = jo w g rest) (he : jr x m g d' w rest = some (y, o)) (k : Q3 R pa p b wb db L' K Kp y o) :
  ∃ t13 : Bool, ∃ pn : Option Addr, ∃ hU : Nat, ∃ eN : Nat, ((Value.agg #[.bool kp, .slice A w.ready.length c]) = (.agg #[(.bool t13), (.slice pn hU eN)])) ∧
aX M (.cells #[(.bool false), (.slice none 0 0)] 250 (0, 0)) fun ei m6 =>
aP m6 ⟨ei, 0, none⟩ (.bool t13) fun jx =>
aP jx ⟨ei, (0 + 1), none⟩ (.slice pn hU eN) fun mb =>
az (Mem.ld mb ⟨ei, (0 + 1), none⟩) fun zk gF iT =>
∃ Xq : Nat → List Value → Mem → Prop, (∃ nZ : Nat, Xq nZ [(.int .i64 0)] mb) ∧
∀ jW : Nat, ∀ Xr : Nat → Value, ∀ ux : Int, ∀ mE : Mem, (Xq jW [(.int .i64 ux)] mE) → aS (decide ((ux : Int) < ((gF : Nat) : Int)))
 (((0 : Int) ≤ ux) ∧
 ((ux : Int) < ((gF : Nat) : Int)) ∧
 aE zk fun mq mu =>
 aK (Mem.ld mE ⟨mq, (mu + (Int.toNat ux)), none⟩) .i64 fun n32 =>
 az (Mem.ld mE ⟨b, (0 + 5), none⟩) fun Ge vS zg =>
 aK (Mem.ld mE ⟨q2, (m.toNat * 3), none⟩) .i64 fun w9 =>
 ((0 : Int) ≤ w9) ∧
 ((w9 : Int) < ((vS : Nat) : Int)) ∧
 aE Ge fun uA ia =>
 cw (Mem.ld mE ⟨uA, (ia + ((Int.toNat w9) * 3)), none⟩) fun Pf =>
 aa Tryz.prog 152 #[(.pointer Pf), (.int .i64 n32), (.pointer (some ⟨b, (0 + 7), none⟩))] mE (fun Es uB =>
 aK (some Es) .i64 fun SG =>
 ∃ qq : Nat, (qq < jW) ∧
 Xq qq [(.int .i64 (IntKind.wrap .i64 (ux + 1)))] uB) Kp)
 (aK (Mem.ld mE ⟨q2, ((m.toNat * 3) + 2), none⟩) .i64 fun Gq =>
 aP mE ⟨q2, ((m.toNat * 3) + 2), none⟩ (.int .i64 (IntKind.wrap .i64 (Gq - 1))) fun vt =>
 dH (Mem.ld vt ⟨ei, 0, none⟩) fun t46 =>
 aS (!t46)
  (aP vt ⟨q2, ((m.toNat * 3) + 1), none⟩ (.int .i64 (-1)) fun uF =>
  cw (Mem.ld uF ⟨b, 0, none⟩) fun N7 =>
  aa Tryz.prog 119 #[(.pointer N7), (.int .i64 g)] uF (fun Mv B5 =>
  aK (some Mv) .i64 fun Cr =>
  aS (Cr == 1)
   (aX B5 (.cells #[(.int .i64 g)] 3 (0, 0)) fun lU Je =>
   aa Tryz.prog 58 #[(.pointer (some ⟨b, (0 + 7), none⟩)), (.slice (some ⟨lU, 0, none⟩) 1 1)] Je (fun MM r7 =>
   (MM = (.tuple #[])) ∧
   az (Mem.ld r7 ⟨ei, (0 + 1), none⟩) fun Ps xF Gg =>
   aP r7 ⟨k1, 0, none⟩ (.int .i64 7) fun B7 =>
   aP B7 ⟨k1, (0 + 1), none⟩ (.int .i64 m) fun zj =>
   aP zj ⟨k1, (0 + 2), none⟩ (.int .i64 g) fun Dh =>
   aP Dh ⟨k1, (0 + 3), none⟩ (.slice Ps xF Gg) fun vp =>
   aK (Mem.ld vp ⟨k1, 0, none⟩) .i64 fun Ck =>
   aK (Mem.ld vp ⟨k1, (0 + 1), none⟩) .i64 fun n64 =>
   aK (Mem.ld vp ⟨k1, (0 + 2), none⟩) .i64 fun zf =>
   az (Mem.ld vp ⟨k1, (0 + 3), none⟩) fun PN xd K3 =>
   K (.agg #[(.int .i64 Ck), (.int .i64 n64), (.int .i64 zf), (.slice PN xd K3)]) vp) Kp)
   (az (Mem.ld B5 ⟨ei, (0 + 1), none⟩) fun A69 zn Gr =>
   aP B5 ⟨k1, 0, none⟩ (.int .i64 7) fun UO =>
   aP UO ⟨k1, (0 + 1), none⟩ (.int .i64 m) fun B8 =>
   aP B8 ⟨k1, (0 + 2), none⟩ (.int .i64 g) fun Gp =>
   aP Gp ⟨k1, (0 + 3), none⟩ (.slice A69 zn Gr) fun xJ =>
   aK (Mem.ld xJ ⟨k1, 0, none⟩) .i64 fun KV =>
   aK (Mem.ld xJ ⟨k1, (0 + 1), none⟩) .i64 fun Di =>
   aK (Mem.ld xJ ⟨k1, (0 + 2), none⟩) .i64 fun Fu =>
   az (Mem.ld xJ ⟨k1, (0 + 3), none⟩) fun RN Ic RO =>
   K (.agg #[(.int .i64 KV), (.int .i64 Di), (.int .i64 Fu), (.slice RN Ic RO)]) xJ)) Kp)
  (aK (Mem.ld vt ⟨q2, ((m.toNat * 3) + 2), none⟩) .i64 fun IQ =>
  aS (IQ == 0)
   (aP vt ⟨q2, ((m.toNat * 3) + 1), none⟩ (.int .i64 (-1)) fun Ib =>
   cw (Mem.ld Ib ⟨b, 0, none⟩) fun A84 =>
   aa Tryz.prog 119 #[(.pointer A84), (.int .i64 g)] Ib (fun v85 SR =>
   aK (some v85) .i64 fun n87 =>
   aS (n87 == 1)
    (aX SR (.cells #[(.int .i64 g)] 3 (0, 0)) fun MG Gs =>
    aa Tryz.prog 58 #[(.pointer (some ⟨b, (0 + 7), none⟩)), (.slice (some ⟨MG, 0, none⟩) 1 1)] Gs (fun PD mh =>
    (PD = (.tuple #[])) ∧
    az (Mem.ld mh ⟨ei, (0 + 1), none⟩) fun SN SY SO =>
    aP mh ⟨k1, 0, none⟩ (.int .i64 7) fun Js =>
    aP Js ⟨k1, (0 + 1), none⟩ (.int .i64 m) fun M96 =>
    aP M96 ⟨k1, (0 + 2), none⟩ (.int .i64 g) fun K2 =>
    aP K2 ⟨k1, (0 + 3), none⟩ (.slice SN SY SO) fun Dp =>
    aK (Mem.ld Dp ⟨k1, 0, none⟩) .i64 fun RR =>
    aK (Mem.ld Dp ⟨k1, (0 + 1), none⟩) .i64 fun vT =>
    aK (Mem.ld Dp ⟨k1, (0 + 2), none⟩) .i64 fun Ph =>
    az (Mem.ld Dp ⟨k1, (0 + 3), none⟩) fun AQ nG Cu =>
    K (.agg #[(.int .i64 RR), (.int .i64 vT), (.int .i64 Ph), (.slice AQ nG Cu)]) Dp) Kp)
    (az (Mem.ld SR ⟨ei, (0 + 1), none⟩) fun EE wj MO =>
    aP SR ⟨k1, 0, none⟩ (.int .i64 7) fun uS =>
    aP uS ⟨k1, (0 + 1), none⟩ (.int .i64 m) fun vU =>
    aP vU ⟨k1, (0 + 2), none⟩ (.int .i64 g) fun Xs =>
    aP Xs ⟨k1, (0 + 3), none⟩ (.slice EE wj MO) fun oL =>
    aK (Mem.ld oL ⟨k1, 0, none⟩) .i64 fun AB =>
    aK (Mem.ld oL ⟨k1, (0 + 1), none⟩) .i64 fun IV =>
    aK (Mem.ld oL ⟨k1, (0 + 2), none⟩) .i64 fun Pm =>
    az (Mem.ld oL ⟨k1, (0 + 3), none⟩) fun Xt MR Qd =>
    K (.agg #[(.int .i64 AB), (.int .i64 IV), (.int .i64 Pm), (.slice Xt MR Qd)]) oL)) Kp)
   (az (Mem.ld vt ⟨ei, (0 + 1), none⟩) fun Xu EL Xv =>
   aP vt ⟨k1, 0, none⟩ (.int .i64 7) fun Xw =>
   aP Xw ⟨k1, (0 + 1), none⟩ (.int .i64 m) fun Xx =>
   aP Xx ⟨k1, (0 + 2), none⟩ (.int .i64 g) fun MS =>
   aP MS ⟨k1, (0 + 3), none⟩ (.slice Xu EL Xv) fun xL =>
   aK (Mem.ld xL ⟨k1, 0, none⟩) .i64 fun Jt =>
   aK (Mem.ld xL ⟨k1, (0 + 1), none⟩) .i64 fun Qe =>
   aK (Mem.ld xL ⟨k1, (0 + 2), none⟩) .i64 fun EI =>
   az (Mem.ld xL ⟨k1, (0 + 3), none⟩) fun Xy Qf Xz =>
   K (.agg #[(.int .i64 Jt), (.int .i64 Qe), (.int .i64 EI), (.slice Xy Qf Xz)]) xL))) := by
 obtain ⟨m0, m1, i0, i1, YX, yf, l1, l2, g0⟩ := hpre
 rw [← hg] at g0
 unfold jr at he
 split at he
 ·rename_i hc
  obtain ⟨hr, ZR⟩ := hc
  simp only [Option.some.injEq, Prod.mk.injEq] at he
  obtain ⟨HC, yQ⟩ := he
  have nS := rq m0 m1
  have m2 : m.toNat < x.ms.length := by omega
  refine ⟨_, _, _, _, rfl, ?_⟩
  refine ae h ?_
  clear h; intro ei M h
  refine au h ?_
  clear h; intro M h
  refine au h ?_
  clear h; intro M h
  refine aL h ?_
  generalize E2 : ({ x with w := w, d := d' } : Sc) = x1 at HC yQ
  have q1 : x1.ps = x.ps := by rw [← E2]
  have ZS : x1.ms = x.ms := by rw [← E2]
  have q3 : x1.gl = x.gl := by rw [← E2]
  have q4 : x1.w = w := by rw [← E2]
  have q5 : x1.d = d' := by rw [← E2]
  have q6 : eE b wb db a x1 = eE b wb db a x := by rw [← E2]
  have q7 : aC x1 m = aC x m := by rw [← E2]; rfl
  have hf := iF (m := m) (l := w.ready) (z := x1) (by rw [q7]; exact i0) (by rw [q7, q1]; exact i1)
  rw [← q1, ← ZS, ← q3, ← q4, ← q5, ← q6] at h
  rw [← q4] at oR ZR hr
  rw [show w.ready = x1.w.ready from by rw [q4]] at HC yQ hf ⊢
  clear E2
  have key : ∀ j, j ≤ x1.w.ready.length → ((x1.w.ready.take j).foldl (aU m) x1).ms = x1.ms ∧ ((x1.w.ready.take j).foldl (aU m) x1).ps.length = x1.ps.length ∧ ((x1.w.ready.take j).foldl (aU m) x1).w = x1.w ∧ ((x1.w.ready.take j).foldl (aU m) x1).d = x1.d ∧ ((x1.w.ready.take j).foldl (aU m) x1).c = x1.c ∧ ((x1.w.ready.take j).foldl (aU m) x1).steps = x1.steps ∧ ∀ bs, bV bs ((x1.w.ready.take j).foldl (aU m) x1).ps = bV bs x1.ps :=
   fun j _ => iF (m := m) (l := x1.w.ready.take j) (z := x1) (by rw [q7]; exact i0) (by rw [q7, q1]; exact i1)
  refine ⟨fun d vs M => ∃ j : Nat, vs = [.int .i64 (j : Int)] ∧ d = x1.w.ready.length - j ∧ j ≤ x1.w.ready.length ∧ ((x1.w.ready.take j).foldl (aU m) x1).gl.length ≤ 1000000 + 1030 * j ∧
    Hp R (gI (eE b wb db a x1) ((x1.w.ready.take j).foldl (aU m) x1).gl :: ay (bn pa p) wb x1.w :: ay (cX .nilFunc) db x1.d :: cy a.ap a.cp (bV a.lb x1.ps) :: bp bO a.lb (((x1.w.ready.take j).foldl (aU m) x1).ps.map dM.q) :: cH (some ⟨q2, 0, none⟩) a.cm x1.ms :: BB ei kp A x1.w.ready.length c :: pt k1 [.int .i64 0, .int .i64 0, .int .i64 0, .slice none 0 0] 43 :: L') M,
   ⟨_, 0, rfl, rfl, by omega, by rw [List.take_zero, List.foldl_nil, q3]; omega, h.sub bu⟩, ?_⟩
  clear h
  rintro d _ nn M ⟨j, he3, hd, hj, Y0, h⟩
  simp only [List.cons.injEq, Value.int.injEq, and_true, true_and] at he3
  subst he3
  obtain ⟨z1, z2, z3, z4, z5, z6, z7⟩ := key j hj
  refine aJ.2 ⟨fun hlt => ?_, fun hge => ?_⟩
  ·obtain ⟨rv, hrv⟩ := aM (l := x1.w.ready) (i := j) (by omega)
   refine ⟨by omega, hlt, ?_⟩
   obtain ⟨rb, ro, hrb⟩ := oR.some (by omega) (by decide)
   have hrs2 := oR
   rw [hrb] at hrs2
   refine Kk hrb ?_
   simp only [Int.toNat_natCast]
   refine aR (Src.at (hrs2.src (L := _)) h (i := j) (j := 0) hrv rfl (by simp [aZ])) ?_
   have hstep : (x1.w.ready.take (j + 1)).foldl (aU m) x1 = aU m ((x1.w.ready.take j).foldl (aU m) x1) rv := by rw [bx hrv, List.foldl_append]; rfl
   generalize hz : (x1.w.ready.take j).foldl (aU m) x1 = z at h hstep z1 z2 z3 z4 z5 z6 z7 Y0
   have hmz : aC z m = aC x m := by unfold aC; rw [z1, ZS]
   have hps : z.ps.length = x.ps.length := by rw [z2, q1]
   rw [Lt h]
   refine aO ?_
   refine aR (Src.at (h.src (A := some ⟨q2, 0, none⟩)) h (i := m.toNat) (j := 0) (a := aC x m) (by rw [ZS]; exact nS) rfl (by show _ = 0 + (m.toNat * 3 + 0); simp)) ?_
   refine ⟨i0, by rw [q1]; exact i1, ?_⟩
   have hlz : a.lb.length = z.ps.length := by rw [hps]; exact hl
   obtain ⟨lb, hlb, kG, hrow⟩ := rm (i := (aC x m).p) (x := z) hlz i0 (by rw [hps]; exact i1)
   rw [z7] at hrow
   obtain ⟨q, hq⟩ := h.bF (A := a.ap) (l := bV a.lb x1.ps) (by rw [kA (by rw [q1]; exact hl), q1]; omega) (by decide)
   have hs0 := (h.src (A := a.ap)) M h
   rw [hq] at hs0
   refine Kk hq ?_
   refine gQ (Sl.at hs0 (i := (aC x m).p.toNat * 3 + 0) (by simp) (fO.iY (E := nO) hrow rfl)) ?_
   clear hs0
   have hqz : (z.ps.map dM.q)[(aC x m).p.toNat]? = some (aN z (aC x m).p).q := by rw [List.getElem?_map, kG]; rfl
   replace h := h.cK bO hlb hqz
   replace h : Hp R (ay bO lb (aN z (aC x m).p).q :: gI (eE b wb db a x1) z.gl :: mF bO a.lb (z.ps.map dM.q) (aC x m).p.toNat :: ay (bn pa p) wb x1.w :: ay (cX .nilFunc) db x1.d :: cy a.ap a.cp (bV a.lb x1.ps) :: cH (some ⟨q2, 0, none⟩) a.cm x1.ms :: BB ei kp A x1.w.ready.length c :: pt k1 [.int .i64 0, .int .i64 0, .int .i64 0, .slice none 0 0] 43 :: L') M := h.sub bu
   have hbd := xX h (b := lb)
   have jv := NM (q := (aN z (aC x m).p).q) (r := rv) (gl := z.gl)
   refine G4 (P := eE b wb db a x1) yZ h (by omega) ?_
   clear h; intro M h
   refine cz ?_
   replace h := h.eF bO lb hlb (by rw [List.length_map]; omega)
   refine ⟨x1.w.ready.length - (j + 1), by omega, j + 1, by rw [aQ (by omega)], rfl, by omega, ?_, ?_⟩
   ·rw [hstep]
    unfold aU
    rw [hmz]
    dsimp only
    obtain ⟨b1, b2, b3⟩ := hbd
    omega
   ·rw [hstep]
    have e2 : (aU m z rv).ps.map dM.q = (z.ps.map dM.q).set (aC x m).p.toNat ((aN z (aC x m).p).q.ready rv z.gl).1 := by
     unfold aU; rw [hmz]; simp [Sc.dB, List.map_set]
    have e3 : (aU m z rv).gl = ((aN z (aC x m).p).q.ready rv z.gl).2.1 := by unfold aU; rw [hmz]
    rw [e2, e3]
    exact h.sub bu
  ·have De : j = x1.w.ready.length := by omega
   subst De
   rw [List.take_length] at z1 z2 z3 z4 z5 z6 z7 Y0 h
   clear key hf
   generalize hrd : x1.w.ready = rd at *
   generalize hz : rd.foldl (aU m) x1 = z at h z1 z2 z3 z4 z5 z6 z7 Y0 HC yQ
   have hmz : aC z m = aC x m := by unfold aC; rw [z1, ZS]
   have ez : eE b wb db a z = eE b wb db a x1 := by unfold eE eY; rw [z1, z2, z5, z6]
   have hlz : a.lb.length = z.ps.length := by rw [z2, q1]; exact hl
   rw [← ez, ← z3, ← z4, ← z7, ← z1] at h
   have hmcz : z.ms[m.toNat]? = some (aC z m) := rq m0 (by rw [z1, ZS]; exact m1)
   have m1z : m < z.ms.length := by rw [z1, ZS]; exact m1
   have m2z : m.toNat < z.ms.length := by omega
   rw [← hmz] at l1 l2
   refine aR (Src.at (h.src (A := some ⟨q2, 0, none⟩)) h (i := m.toNat) (j := 2) hmcz rfl (by show _ = 0 + (m.toNat * 3 + 2); omega)) ?_
   rw [dm (by omega) (by omega)]
   refine iL (E := fz) (a' := { aC z m with left := (aC z m).left - 1 }) m.toNat 2 h hmcz (by decide) rfl rfl ?_
   clear h; intro M h
   replace h : Hp R (gI (eE b wb db a z) z.gl :: ay (bn pa p) wb z.w :: ay (cX .nilFunc) db z.d :: cy a.ap a.cp (bV a.lb z.ps) :: bp bO a.lb (z.ps.map dM.q) :: cH (some ⟨q2, 0, none⟩) a.cm (z.ms.set m.toNat { aC z m with left := (aC z m).left - 1 }) :: BB ei kp A rd.length c :: pt k1 [.int .i64 0, .int .i64 0, .int .i64 0, .slice none 0 0] 43 :: L') M := h.sub bu
   refine F6 h ?_
   have hgz : g < z.w.gs.length := by rw [z3]; exact ZR
   have park : (¬ (jo w g rest = true ∧ (aC z m).left - 1 ≠ 0)) → ∀ M', Hp R (ay (c9 pa p wb db) b { z.jM m { aC z m with left := (aC z m).left - 1, g := -1 } with gl := if (aq z.w g).st = 1 then z.gl ++ [g] else z.gl } :: L') M' → K (Kf ⟨7, m, g, rd⟩ A c) M' := by
    intro hno M' h'
    unfold Sc.rz at HC yQ
    rw [if_neg hno] at HC yQ
    dsimp only at HC yQ
    subst yQ
    exact k R A c M' (Mem.le_refl _) oR (by rw [← HC]; exact h')
   cases hk : kp with
   | false =>
    subst hk
    refine ai ?_
    exact HA h Ls hlz m0 m1z g0 hgz (by omega) (park (fun hc => by rw [← hkp] at hc; cases hc.1))
   | true =>
    subst hk
    refine aj ?_
    refine aR (Src.at (h.src (A := some ⟨q2, 0, none⟩)) h (i := m.toNat) (j := 2) (a := { aC z m with left := (aC z m).left - 1 }) (by simp [m2z]) rfl (by show _ = 0 + (m.toNat * 3 + 2); omega)) ?_
    refine bh.2 ⟨fun e0 => ?_, fun e0 => ?_⟩
    ·exact HA h Ls hlz m0 m1z g0 hgz (by omega) (park (fun hc => hc.2 e0))
    ·refine aL h ?_
     refine nQ h ?_
     clear h; intro M h
     refine rj h ?_
     unfold Sc.rz at HC yQ
     rw [if_pos ⟨hkp.symm, e0⟩] at HC yQ
     dsimp only at HC yQ
     subst yQ
     refine k R A c M (Mem.le_refl _) oR ?_
     rw [← HC]
     refine ij (a := a) (x := z.jM m { aC z m with left := (aC z m).left - 1 }) hlz ?_
     rw [Bx]
     show Hp R (_ :: _ :: _ :: _ :: _ :: cH a.am a.cm (z.ms.set m.toNat { aC z m with left := (aC z m).left - 1 }) :: _) M
     rw [Ls]
     exact h.sub bu
 ·cases he
end
section
variable {R : Mem} {L L' L2 : List HP} {M : Mem} {K : Value → Mem → Prop} {Kp : List PanicEntry → Mem → Prop} {pa : PA} {p : cv} {b wb db : Nat} {x : Sc} {m i : Int}
theorem NO {y : Sc} {o : nR} (h : Hp R L M) [q : lX b L pa p wb db x L'] (hp : lB R pa p) (hd : x.d.k.Ok) (he : x.run p m = some (y, o)) (k : Q3 R pa p b wb db L' K Kp y o) :
  aa Tryz.prog 111 #[.pointer (some ⟨b, 0, none⟩), .int .i64 m] M K Kp := by
 unfold Sc.run at he
 split at he
 ·rename_i hpre
  have hpre' := hpre
  obtain ⟨m0, m1, i0, i1, YX, yf, l1, l2, g0⟩ := hpre'
  split at he
  ·rename_i zz
   have BA : x.d.Ok := ⟨hd, by omega⟩
   refine uR ?_
   refine ae h ?_
   clear h
   intro k1 M h
   have h' := fA h (b := b)
   clear h
   obtain ⟨a, hl, h⟩ := h'
   have nS := rq m0 m1
   obtain ⟨q2, oa⟩ := h.bF (A := a.am) (l := x.ms) (by omega) (by decide)
   replace h : Hp R (gI (eE b wb db a x) x.gl :: ay (bn pa p) wb x.w :: ay (cX .nilFunc) db x.d :: cy a.ap a.cp (bV a.lb x.ps) :: bp bO a.lb (x.ps.map dM.q) :: cH (some ⟨q2, 0, none⟩) a.cm x.ms :: pt k1 [.int .i64 0, .int .i64 0, .int .i64 0, .slice none 0 0] 43 :: L') M := by
    unfold gn at h
    rw [show cH a.am a.cm x.ms = cH (some ⟨q2, 0, none⟩) a.cm x.ms from by rw [oa]] at h
    exact h.sub bu
   rw [y3 h]
   refine aO ⟨m0, m1, ?_⟩
   refine Kk oa ?_
   refine aR (Src.at (h.src (A := some ⟨q2, 0, none⟩)) h (i := m.toNat) (j := 1) nS rfl (by show _ = 0 + (m.toNat * 3 + 1); omega)) ?_
   simp only [Nat.zero_add]
   rw [sc_w h]
   refine jB ?_
   rw [show M.ld ⟨b, 8, none⟩ = some (.pointer (some ⟨db, 0, none⟩)) from YW h]
   refine jB ⟨trivial, ?_⟩
   replace h : Hp R (ay (bn pa p) wb x.w :: ay (cX .nilFunc) db x.d :: gI (eE b wb db a x) x.gl :: cy a.ap a.cp (bV a.lb x.ps) :: bp bO a.lb (x.ps.map dM.q) :: cH (some ⟨q2, 0, none⟩) a.cm x.ms :: pt k1 [.int .i64 0, .int .i64 0, .int .i64 0, .slice none 0 0] 43 :: L') M := h.sub bu
   generalize HD : (gI (eE b wb db a x) x.gl :: cy a.ap a.cp (bV a.lb x.ps) :: bp bO a.lb (x.ps.map dM.q) :: cH (some ⟨q2, 0, none⟩) a.cm x.ms :: pt k1 [.int .i64 0, .int .i64 0, .int .i64 0, .slice none 0 0] 43 :: L') = LL at h
   have hds : match asks p { x.w with ready := [] } (aC x m).g with
     | none => (ay (cX .nilFunc) db (gp x.d (asks p { x.w with ready := [] } (aC x m).g)).1 :: LL) = (ay (cX .nilFunc) db x.d :: LL)
     | some (kd, n) => jq R (.func (.func 107) #[.pointer (some ⟨db, 0, none⟩)] #[]) kd n (gp x.d (asks p { x.w with ready := [] } (aC x m).g)).2 (ay (cX .nilFunc) db x.d :: LL) (ay (cX .nilFunc) db (gp x.d (asks p { x.w with ready := [] } (aC x m).g)).1 :: LL) := by
    cases hak : asks p { x.w with ready := [] } (aC x m).g with
    | none => rfl
    | some kn =>
     obtain ⟨kd, n⟩ := kn
     rw [hak] at zz
     exact NI BA (of_decide_eq_true zz) yf
   have JZ : ∀ l, (gp x.d (asks p { x.w with ready := [] } (aC x m).g)).2 = .dY l → DF l (zB l) := by
    intro l hl
    cases hak : asks p { x.w with ready := [] } (aC x m).g with
    | none => rw [hak] at hl; cases hl
    | some kn =>
     obtain ⟨kd, n⟩ := kn
     rw [hak] at hl
     exact (Hz (x' := (x.d.draw kd n).1) (by rw [← hl]; rfl)).2
   generalize xZ : gp x.d (asks p { x.w with ready := [] } (aC x m).g) = dd at he hds JZ
   obtain ⟨d', dr⟩ := dd
   dsimp only at he hds JZ
   cases hex : yX p x.w (aC x m).g dr with
   | none => rw [hex] at he; cases he
   | some rr =>
    obtain ⟨r, rest⟩ := rr
    rw [hex] at he
    refine NF h hp ⟨_, _, _, rfl⟩ hex hds ?_
    cases r with
    | dY l w =>
     dsimp only at he
     simp only [Option.some.injEq, Prod.mk.injEq] at he
     obtain ⟨HC, yQ⟩ := he
     obtain ⟨CJ, hw⟩ := DO hex
     refine ⟨zB l, JZ l CJ, ?_⟩
     intro M h
     subst yQ
     refine k M ?_
     rw [← HC]
     rw [← HD] at h
     have h9 : Hp R (gI (eE b wb db a { x with w := w, d := d' }) x.gl :: ay (bn pa p) wb w :: ay (cX .nilFunc) db d' :: cy a.ap a.cp (bV a.lb x.ps) :: bp bO a.lb (x.ps.map dM.q) :: cH a.am a.cm x.ms :: L') M := by
      rw [show cH a.am a.cm x.ms = cH (some ⟨q2, 0, none⟩) a.cm x.ms from by rw [oa], show eE b wb db a { x with w := w, d := d' } = eE b wb db a x from rfl]
      exact h.sub bu
     exact ij (a := a) (x := { x with w := w, d := d' }) hl h9
    | on w =>
     intro R' A c M hle oR h
     rw [← HD] at h
     have h2 : Hp R' (gI (eE b wb db a x) x.gl :: ay (bn pa p) wb w :: ay (cX .nilFunc) db d' :: cy a.ap a.cp (bV a.lb x.ps) :: bp bO a.lb (x.ps.map dM.q) :: cH (some ⟨q2, 0, none⟩) a.cm x.ms :: pt k1 [.int .i64 0, .int .i64 0, .int .i64 0, .slice none 0 0] 43 :: L') M := h.sub bu
     refine HB (K := K) (Kp := Kp) (w := w) (g := (aC x m).g) (kp := jo w (aC x m).g rest) (rest := rest) h2 oR oa hl hpre rfl rfl he ?_
     cases o with
     | ev e => exact fun R2 A2 c2 M2 NP => k R2 A2 c2 M2 (Mem.le_trans hle NP)
     | dY l =>
      dsimp only at he
      unfold jr at he
      split at he
      ·simp only [Option.some.injEq, Prod.mk.injEq] at he; cases he.2
      ·cases he
    | fM n w =>
     intro R' A c M hle oR h
     rw [← HD] at h
     have h2 : Hp R' (gI (eE b wb db a x) x.gl :: ay (bn pa p) wb { w with end_ := 2, code := n } :: ay (cX .nilFunc) db d' :: cy a.ap a.cp (bV a.lb x.ps) :: bp bO a.lb (x.ps.map dM.q) :: cH (some ⟨q2, 0, none⟩) a.cm x.ms :: pt k1 [.int .i64 0, .int .i64 0, .int .i64 0, .slice none 0 0] 43 :: L') M := h.sub bu
     refine HB (K := K) (Kp := Kp) (w := { w with end_ := 2, code := n }) (g := (aC x m).g) (kp := jo { w with end_ := 2, code := n } (aC x m).g rest) (rest := rest) h2 oR oa hl hpre rfl rfl he ?_
     cases o with
     | ev e => exact fun R2 A2 c2 M2 NP => k R2 A2 c2 M2 (Mem.le_trans hle NP)
     | dY l =>
      dsimp only at he
      unfold jr at he
      split at he
      ·simp only [Option.some.injEq, Prod.mk.injEq] at he; cases he.2
      ·cases he
  ·cases he
 ·cases he
theorem Q4 {e : Ev} {o : nR} {y z : Sc} (h : E6 (z, .ev e) = (y, o)) : o = .ev e ∧ y = { z with steps := z.steps + 1 } := by
 unfold E6 at h; cases h; exact ⟨rfl, rfl⟩
theorem BC {y : Sc} {o : nR} (h : Hp R L M) [q : lX b L pa p wb db x L'] (hp : lB R pa p) (hd : x.d.k.Ok) (he : x.step p = some (y, o)) (k : Q3 R pa p b wb db L' K Kp y o) :
  aa Tryz.prog 54 #[.pointer (some ⟨b, 0, none⟩)] M K Kp := by
 unfold Sc.step at he
 split at he
 ·rename_i hpre
  obtain ⟨hgs, hcM, hps, hms, yf, hst0, hst1⟩ := hpre
  refine tw ?_
  refine ae h ?_
  clear h
  intro k1 M h
  refine oU h hgs ?_
  refine cz ?_
  split at he
  ·rename_i hst
   simp only [Option.some.injEq, Prod.mk.injEq] at he
   obtain ⟨HC, yQ⟩ := he
   subst HC; subst yQ
   refine fj.2 ⟨fun _ => ?_, fun hn => absurd hn hst⟩
   refine nQ h ?_
   clear h; intro M h
   refine rj h ?_
   exact k R none 0 M (Mem.le_refl _) (RS.nil _ _) (h.drop.pick q.pick)
  ·rename_i hst
   refine fj.2 ⟨fun hn => absurd hn hst, fun _ => ?_⟩
   have h' := fA h (b := b)
   clear h
   obtain ⟨a, hl, h⟩ := h'
   rw [YW h]
   refine jB ?_
   rw [sc_M h]
   refine cz ?_
   have BA : x.d.Ok := ⟨hd, by omega⟩
   have hnw : IntKind.wrap .i64 (x.c.M + 1) = x.c.M + 1 := dm (by omega) (by omega)
   rw [hnw]
   replace h : Hp R (ay (cX .nilFunc) db x.d :: gI (eE b wb db a x) x.gl :: ay (bn pa p) wb x.w :: cy a.ap a.cp (bV a.lb x.ps) :: bp bO a.lb (x.ps.map dM.q) :: cH a.am a.cm x.ms :: pt k1 [.int .i64 0, .int .i64 0, .int .i64 0, .slice none 0 0] 43 :: L') M := h.sub bu
   refine rh h BA (by omega) (by omega) ?_
   clear h
   have hok2 := oV (kind := 1) (n := x.c.M + 1) hd
   have Ke : ∀ x' v, x.d.draw 1 (x.c.M + 1) = (x', .num v) → 0 ≤ v ∧ v < x.c.M + 1 ∧ x'.taken = x.d.taken ++ [(1, v)] := by
    intro x' v hv
    have := ry hd hv
    rw [show nN (x.c.M + 1) = x.c.M + 1 from by unfold nN; rw [if_neg (by omega)]] at this
    exact this
   generalize xZ : x.d.draw 1 (x.c.M + 1) = dd at he hok2 Ke
   obtain ⟨d', dr⟩ := dd
   have mk : ∀ {M : Mem}, Hp R (ay (cX .nilFunc) db d' :: gI (eE b wb db a x) x.gl :: ay (bn pa p) wb x.w :: cy a.ap a.cp (bV a.lb x.ps) :: bp bO a.lb (x.ps.map dM.q) :: cH a.am a.cm x.ms :: pt k1 [.int .i64 0, .int .i64 0, .int .i64 0, .slice none 0 0] 43 :: L') M → Hp R (ay (c9 pa p wb db) b { x with d := d' } :: pt k1 [.int .i64 0, .int .i64 0, .int .i64 0, .slice none 0 0] 43 :: L') M :=
    fun h => ij (a := a) (x := { x with d := d' }) hl (h.sub bu)
   cases dr with
   | dY l =>
    dsimp only at he ⊢
    simp only [Option.some.injEq, Prod.mk.injEq] at he
    obtain ⟨HC, yQ⟩ := he
    intro M h
    subst yQ
    refine k M ?_
    rw [← HC]
    exact (mk h).ck
   | num mm =>
    dsimp only at he ⊢
    obtain ⟨v0, v1, htk2⟩ := Ke d' mm rfl
    intro M h
    replace h := mk h
    clear mk
    refine cz ?_
    generalize E2 : ({ x with d := d' } : Sc) = x1 at h he
    have e1 : x1.c = x.c := by rw [← E2]
    have e2 : x1.ms = x.ms := by rw [← E2]
    have e3 : x1.ps = x.ps := by rw [← E2]
    have e4 : x1.d.k.Ok := by rw [← E2]; exact hok2
    have e5 : x1.steps = x.steps := by rw [← E2]
    clear E2
    refine ae h ?_
    clear h; intro fK M h
    replace h : Hp R (ay (c9 pa p wb db) b x1 :: pt k1 [.int .i64 0, .int .i64 0, .int .i64 0, .slice none 0 0] 43 :: pt fK [.int .i64 0, .int .i64 0, .int .i64 0, .slice none 0 0] 43 :: L') M := h.sub bu
    have fin : ∀ (R' : Mem) (A : Option Addr) (c : Nat) (M : Mem) (z : Sc) (e : Ev), R.le R' → RS aZ R' A c e.ready → z.steps = x.steps → E6 (z, .ev e) = (y, o) → Hp R' (ay (c9 pa p wb db) b z :: pt k1 [.int .i64 0, .int .i64 0, .int .i64 0, .slice none 0 0] 43 :: pt fK [.int .i64 0, .int .i64 0, .int .i64 0, .slice none 0 0] 43 :: L') M →
      aP M ⟨fK, 0, none⟩ (.int .i64 e.kind) fun oF => aP oF ⟨fK, (0 + 1), none⟩ (.int .i64 e.m) fun vq => aP vq ⟨fK, (0 + 2), none⟩ (.int .i64 e.g) fun pE => aP pE ⟨fK, (0 + 3), none⟩ (.slice A e.ready.length c) fun pM =>
      aK (Mem.ld pM ⟨b, (0 + 9), none⟩) .i64 fun w9 => aP pM ⟨b, (0 + 9), none⟩ (.int .i64 (IntKind.wrap .i64 (w9 + 1))) fun Cf =>
      aK (Mem.ld Cf ⟨fK, 0, none⟩) .i64 fun Ga => aK (Mem.ld Cf ⟨fK, (0 + 1), none⟩) .i64 fun IP => aK (Mem.ld Cf ⟨fK, (0 + 2), none⟩) .i64 fun SI => az (Mem.ld Cf ⟨fK, (0 + 3), none⟩) fun SD Em qq =>
      aP Cf ⟨k1, 0, none⟩ (.int .i64 Ga) fun Cs => aP Cs ⟨k1, (0 + 1), none⟩ (.int .i64 IP) fun vt => aP vt ⟨k1, (0 + 2), none⟩ (.int .i64 SI) fun Ia => aP Ia ⟨k1, (0 + 3), none⟩ (.slice SD Em qq) fun uF =>
      aK (Mem.ld uF ⟨k1, 0, none⟩) .i64 fun Eu => aK (Mem.ld uF ⟨k1, (0 + 1), none⟩) .i64 fun MI => aK (Mem.ld uF ⟨k1, (0 + 2), none⟩) .i64 fun Gm => az (Mem.ld uF ⟨k1, (0 + 3), none⟩) fun V5 lU rX =>
      K (.agg #[(.int .i64 Eu), (.int .i64 MI), (.int .i64 Gm), (.slice V5 lU rX)]) uF := by
     intro R' A c M z e hle oR hzs hinc h
     obtain ⟨ho, hy⟩ := Q4 hinc
     subst ho; subst hy
     refine nQ h ?_
     clear h; intro M h
     have h' := fA h (b := b)
     clear h
     obtain ⟨a3, TJ, h⟩ := h'
     have h' := oT h
     clear h
     obtain ⟨A4, c4, h⟩ := h'
     refine aF h ?_
     rw [dm (by omega) (by omega)]
     refine au h ?_
     clear h; intro M h
     refine rj h ?_
     refine nQ h ?_
     clear h; intro M h
     refine rj h ?_
     refine k R' A c M hle oR (ij (a := a3) (x := { z with steps := z.steps + 1 }) TJ ?_)
     exact zX (x := { z with steps := z.steps + 1 }) (h.sub bu)
    have h' := fA h (b := b)
    clear h
    obtain ⟨a5, hl5, h⟩ := h'
    rw [sc_M h]
    refine cz ?_
    have DL : ∀ {M : Mem}, Hp R (gI (eE b wb db a5 x1) x1.gl :: ay (bn pa p) wb x1.w :: ay (cX .nilFunc) db x1.d :: gn a5 x1 (pt k1 [.int .i64 0, .int .i64 0, .int .i64 0, .slice none 0 0] 43 :: pt fK [.int .i64 0, .int .i64 0, .int .i64 0, .slice none 0 0] 43 :: L')) M → Hp R (ay (c9 pa p wb db) b x1 :: pt k1 [.int .i64 0, .int .i64 0, .int .i64 0, .slice none 0 0] 43 :: pt fK [.int .i64 0, .int .i64 0, .int .i64 0, .slice none 0 0] 43 :: L') M := fun h => ij (a := a5) hl5 h
    unfold Sc.act at he
    refine bh.2 ⟨fun em => ?_, fun em => ?_⟩
    ·rw [if_pos em] at he
     split at he
     ·rename_i htick
      simp only [Option.map_some, Option.some.injEq] at he
      refine Kg (DL h) htick ?_
      clear h; intro R' A c M hle oR h
      refine ⟨_, _, _, _, _, _, rfl, ?_⟩
      exact fin R' A c M _ _ hle oR (by rw [← e5]; rfl) he h
     ·cases he
    rw [if_neg em] at he
    have mlt : mm < x1.ms.length := by
     have a1 : x1.c.M = x.c.M := by rw [e1]
     have a2 : x1.ms.length = x.ms.length := by rw [e2]
     omega
    have nS := rq v0 mlt
    obtain ⟨q2, oa⟩ := h.bF (A := a5.am) (l := x1.ms) (by omega) (by decide)
    have hs0 := (h.src (A := a5.am)) M h
    rw [oa] at hs0
    rw [y3 h]
    refine aO ⟨v0, mlt, ?_⟩
    refine Kk oa ?_
    refine aR (Sl.at hs0 (i := mm.toNat * 3 + 0) (by simp) (fO.iY (E := fz) nS rfl)) ?_
    refine bh.2 ⟨fun ep => ?_, fun ep => ?_⟩
    ·rw [if_pos ep] at he
     simp only [Option.map_some, Option.some.injEq] at he
     refine Kh (DL h) v0 mlt (by rw [e3]; omega) ?_
     clear h hs0; intro M h
     have IF : (x1.hold mm).2.ready = [] := by unfold Sc.hold; split <;> rfl
     have rD : (x1.hold mm).1.steps = x.steps := by rw [← e5]; unfold Sc.hold; split <;> rfl
     refine ⟨_, _, _, _, _, _, rfl, ?_⟩
     exact fin R none 0 M _ _ (Mem.le_refl _) (by rw [IF]; exact RS.nil _ _) rD he h
    rw [if_neg ep] at he
    refine aO ⟨v0, mlt, ?_⟩
    refine Kk oa ?_
    refine aR (Sl.at hs0 (i := mm.toNat * 3 + 1) (by simp) (fO.iY (E := fz) nS rfl)) ?_
    clear hs0
    refine bh.2 ⟨fun eg => ?_, fun eg => ?_⟩
    ·rw [if_pos eg] at he
     split at he
     ·rename_i hfo
      simp only [Option.map_some, Option.some.injEq] at he
      have rD : (x1.find mm).1.steps = x.steps := by
       rw [← e5]
       have DJ : ∀ (z : Sc) a b c d e, (z.bU a b c d e).1.steps = z.steps := by intro z a b c d e; unfold Sc.bU; split <;> rfl
       unfold Sc.find
       dsimp only
       split
       ·rfl
       ·split
        ·split
         ·rfl
         ·split <;> exact DJ ..
        ·exact DJ ..
      have hrd : ∀ e, (x1.find mm).2 = .ev e → e.ready = [] := by
       have DJ : ∀ (z : Sc) a b c d e, (z.bU a b c d e).2.ready = [] := by intro z a b c d e; unfold Sc.bU; split <;> rfl
       intro e IF
       unfold Sc.find at IF
       dsimp only at IF
       split at IF
       ·cases IF; rfl
       ·split at IF
        ·split at IF
         ·cases IF
         ·split at IF <;> · cases IF; exact DJ ..
        ·cases IF; exact DJ ..
      refine Ki (DL h) hfo e4 ?_
      clear h
      generalize O6 : x1.find mm = ff at he rD hrd ⊢
      obtain ⟨z, oo⟩ := ff
      cases oo with
      | ev e =>
       dsimp only at rD hrd ⊢
       intro M h
       refine ⟨_, _, _, _, _, _, rfl, ?_⟩
       have hr0 : e.ready = [] := hrd e rfl
       exact fin R none 0 M _ e (Mem.le_refl _) (by rw [hr0]; exact RS.nil _ _) rD he h
      | dY l =>
       dsimp only
       intro M h
       unfold E6 at he
       cases he
       exact k M h.ck
     ·cases he
    rw [if_neg eg] at he
    cases hrun : x1.run p mm with
    | none => rw [hrun] at he; cases he
    | some rr =>
     obtain ⟨z, oo⟩ := rr
     rw [hrun] at he
     simp only [Option.map_some, Option.some.injEq] at he
     refine NO (DL h) hp e4 hrun ?_
     clear h
     have rD : z.steps = x.steps := by
      rw [← e5]
      unfold Sc.run at hrun
      split at hrun
      ·rename_i hpre2
       obtain ⟨_, _, i0, i1, _⟩ := hpre2
       have OC : ∀ d w rest, jr x1 mm (aC x1 mm).g d w rest = some (z, oo) → z.steps = x1.steps := by
        intro d w rest OC
        unfold jr at OC
        split at OC
        ·simp only [Option.some.injEq, Prod.mk.injEq] at OC
         rw [← OC.1]
         have := iF (m := mm) w.ready { x1 with w := w, d := d } i0 i1
         unfold Sc.rz
         split <;> exact this.2.2.2.2.2.1
        ·cases OC
       split at hrun
       ·split at hrun
        ·cases hrun
        ·simp only [Option.some.injEq, Prod.mk.injEq] at hrun; rw [← hrun.1]
        ·exact OC _ _ _ hrun
        ·exact OC _ _ _ hrun
       ·cases hrun
      ·cases hrun
     cases oo with
     | ev e =>
      intro R' A c M hle oR h
      refine ⟨_, _, _, _, _, _, rfl, ?_⟩
      exact fin R' A c M _ e hle oR rD he h
     | dY l =>
      intro M h
      unfold E6 at he
      cases he
      exact k M h.ck
 ·cases he
end
def Sc.new (p : cv) (c : Lq) (d : mj) : Sc := ⟨Wd.new p, c, List.replicate c.P.toNat ⟨⟨-1, fx c.R, []⟩, 0, -1⟩, List.replicate c.M.toNat ⟨-1, -1, 0⟩, [0], d, 0⟩
theorem Lu : aY Tryz.prog 132 141 3 24 [.pointer none, .int .i64 0, .int .i64 0] := aY.mk' (zv := .agg #[.pointer none, .int .i64 0, .int .i64 0]) (by kernel_rfl) (by kernel_rfl) rfl (by omega)
theorem TU : aY Tryz.prog 133 143 3 24 [.int .i64 0, .int .i64 0, .int .i64 0] := aY.mk' (zv := .agg #[.int .i64 0, .int .i64 0, .int .i64 0]) (by kernel_rfl) (by kernel_rfl) rfl (by omega)
theorem DP {bs : List Nat} {ps : List dM} {b : Nat} {y : dM} (h : bs.length = ps.length) : bV (bs ++ [b]) (ps ++ [y]) = bV bs ps ++ [(b, y.turns, y.gW)] := by
 unfold bV; rw [List.zipWith_append h]; rfl
section
variable {R : Mem} {L L' L2 : List HP} {M : Mem} {K : Value → Mem → Prop} {Kp : List PanicEntry → Mem → Prop} {pa : PA} {p : cv} {b wb db : Nat} {x : Sc} {m i : Int}
theorem NQ {c : Lq} {d : mj} (h : Hp R L M) [o : b6 (cX .nilFunc) db L d L'] (zR : RS aZ R pa.c pa.cc p.dS) (hc : p.dS.length ≤ 1000000) (hk : 0 ≤ p.aI ∧ p.aI ≤ 1000000) (hP : 0 ≤ c.P ∧ c.P ≤ 1000000) (hM : 0 ≤ c.M ∧ c.M ≤ 1000000)
  (k : ∀ b wb M', Hp R (ay (c9 pa p wb db) b (Sc.new p c d) :: L') M' → K (.pointer (some ⟨b, 0, none⟩)) M') :
  aa Tryz.prog 15 #[.agg #[.slice pa.f p.funcs.length pa.fc, .slice pa.c p.dS.length pa.cc, .int .i64 p.aI, .slice pa.k p.cases.length pa.kc], .agg #[.int .i64 c.P, .int .i64 c.M, .int .i64 c.R, .int .i64 c.S], .pointer (some ⟨db, 0, none⟩)] M K Kp := by
 refine EB ?_
 replace h := h.front (cX .nilFunc) db
 refine ae h ?_
 clear h; intro k1 M h
 refine ae h ?_
 clear h; intro k3 M h
 refine aL h (aL h (aF h (aL h ?_)))
 refine aF h (aF h (aF h (aF h ?_)))
 refine Nr (p := p) (pa := pa) h zR hc hk ?_
 clear h; intro wb M h
 refine jB ⟨jU (bN h) (jU (bN h) (jU (bN h) (jU (bN h) vI))), ?_⟩
 refine ae h ?_
 clear h; intro b M h
 refine aF h ?_
 replace h := ((((h.bP nO 141).vV bO).bP fz 143).bP aZ 3)
 obtain ⟨nP, hnP⟩ := Int.eq_ofNat_of_zero_le hP.1
 obtain ⟨nM, hnM⟩ := Int.eq_ofNat_of_zero_le hM.1
 refine ⟨fun dd vs M => ∃ (j : Nat) (A : Option Addr) (ca : Nat) (xe : List Nat), vs = [.int .i64 (j : Int)] ∧ dd = nP - j ∧ j ≤ nP ∧ xe.length = j ∧
   Hp R (pt b [.pointer (some ⟨wb, 0, none⟩), .int .i64 c.P, .int .i64 c.M, .int .i64 c.R, .int .i64 c.S, .slice A j ca, .slice none 0 0, .slice none 0 0, .pointer (some ⟨db, 0, none⟩), .int .i64 0] 137 ::
    cy A ca (bV xe (List.replicate j ⟨⟨-1, fx c.R, []⟩, 0, -1⟩)) :: bp bO xe (List.replicate j ⟨-1, fx c.R, []⟩) :: cH none 0 [] :: jg none 0 [] :: ay (bn pa p) wb (Wd.new p) :: ay (cX .nilFunc) db d :: pt k3 [.int .i64 c.P, .int .i64 c.M, .int .i64 c.R, .int .i64 c.S] 29 :: L') M,
  ⟨_, 0, none, 0, [], rfl, rfl, by omega, rfl, h.sub bu⟩, ?_⟩
 clear h
 rintro dd _ nn M ⟨j, A, ca, xe, he, hd, hj, hlb, h⟩
 simp only [List.cons.injEq, Value.int.injEq, and_true, true_and] at he
 subst he
 refine aJ.2 ⟨fun hlt => ?_, fun hge => ?_⟩
 ·have jv : (List.replicate j (⟨⟨-1, fx c.R, []⟩, 0, -1⟩ : dM)).length = j := List.length_replicate
  refine ⟨fun vs M => ∃ (A : Option Addr) (ca : Nat) (lb : Nat),
   Hp R (pt b [.pointer (some ⟨wb, 0, none⟩), .int .i64 c.P, .int .i64 c.M, .int .i64 c.R, .int .i64 c.S, .slice A (j + 1) ca, .slice none 0 0, .slice none 0 0, .pointer (some ⟨db, 0, none⟩), .int .i64 0] 137 ::
    cy A ca (bV (xe ++ [lb]) (List.replicate (j + 1) ⟨⟨-1, fx c.R, []⟩, 0, -1⟩)) :: bp bO (xe ++ [lb]) (List.replicate (j + 1) ⟨-1, fx c.R, []⟩) :: cH none 0 [] :: jg none 0 [] :: ay (bn pa p) wb (Wd.new p) :: ay (cX .nilFunc) db d :: pt k3 [.int .i64 c.P, .int .i64 c.M, .int .i64 c.R, .int .i64 c.S] 29 :: L') M, aF h ⟨?_, ?_, trivial⟩, ?_⟩
  ·refine aL h ?_
   refine Dy h ?_
   clear h; intro lb M h
   refine jB ?_
   refine ae h ?_
   clear h; intro uu M h
   refine h.dW (A := A) Lu [(lb, 0, -1)] rfl (by rw [kA (by rw [hlb, jv]), jv]) rfl (by rw [kA (by rw [hlb, jv]), jv]; simp only [List.length_singleton]; omega) ?_
   clear h; intro A' c' M h
   refine aO ?_
   refine au h ?_
   clear h; intro M h
   replace h := h.lI bO lb (by rw [hlb, List.length_replicate])
   refine ⟨A', c', lb, ?_⟩
   have e1 : bV (xe ++ [lb]) (List.replicate (j + 1) (⟨⟨-1, fx c.R, []⟩, 0, -1⟩ : dM)) = bV xe (List.replicate j ⟨⟨-1, fx c.R, []⟩, 0, -1⟩) ++ [(lb, 0, -1)] := by
    rw [List.replicate_succ', DP (by rw [hlb, jv])]
   have e2 : List.replicate (j + 1) (⟨-1, fx c.R, []⟩ : Loc) = List.replicate j ⟨-1, fx c.R, []⟩ ++ [⟨-1, fx c.R, []⟩] := List.replicate_succ'
   rw [e1, e2]
   exact h.sub bu
  ·refine Dy h ?_
   clear h; intro lb M h
   refine jB ?_
   refine aL h ?_
   refine ae h ?_
   clear h; intro uu M h
   refine h.dW (A := A) Lu [(lb, 0, -1)] rfl (by rw [kA (by rw [hlb, jv]), jv]) rfl (by rw [kA (by rw [hlb, jv]), jv]; simp only [List.length_singleton]; omega) ?_
   clear h; intro A' c' M h
   refine aO ?_
   refine au h ?_
   clear h; intro M h
   replace h := h.lI bO lb (by rw [hlb, List.length_replicate])
   refine ⟨A', c', lb, ?_⟩
   have e1 : bV (xe ++ [lb]) (List.replicate (j + 1) (⟨⟨-1, fx c.R, []⟩, 0, -1⟩ : dM)) = bV xe (List.replicate j ⟨⟨-1, fx c.R, []⟩, 0, -1⟩) ++ [(lb, 0, -1)] := by
    rw [List.replicate_succ', DP (by rw [hlb, jv])]
   have e2 : List.replicate (j + 1) (⟨-1, fx c.R, []⟩ : Loc) = List.replicate j ⟨-1, fx c.R, []⟩ ++ [⟨-1, fx c.R, []⟩] := List.replicate_succ'
   rw [e1, e2]
   exact h.sub bu
  ·clear h
   rintro _ M ⟨A', c', lb, h⟩
   rw [aQ (by omega)]
   exact ⟨nP - (j + 1), by omega, j + 1, A', c', xe ++ [lb], rfl, rfl, by omega, by simp [hlb], h⟩
 have Zx : j = nP := by omega
 subst Zx
 refine aF h ?_
 refine ⟨fun dd vs M => ∃ (q : Nat) (B : Option Addr) (cb : Nat), vs = [.int .i64 (q : Int)] ∧ dd = nM - q ∧ q ≤ nM ∧
   Hp R (pt b [.pointer (some ⟨wb, 0, none⟩), .int .i64 c.P, .int .i64 c.M, .int .i64 c.R, .int .i64 c.S, .slice A j ca, .slice B q cb, .slice none 0 0, .pointer (some ⟨db, 0, none⟩), .int .i64 0] 137 ::
    cy A ca (bV xe (List.replicate j ⟨⟨-1, fx c.R, []⟩, 0, -1⟩)) :: bp bO xe (List.replicate j ⟨-1, fx c.R, []⟩) :: cH B cb (List.replicate q ⟨-1, -1, 0⟩) :: jg none 0 [] :: ay (bn pa p) wb (Wd.new p) :: ay (cX .nilFunc) db d :: pt k3 [.int .i64 c.P, .int .i64 c.M, .int .i64 c.R, .int .i64 c.S] 29 :: L') M,
  ⟨_, 0, none, 0, rfl, rfl, by omega, h.sub bu⟩, ?_⟩
 clear h
 rintro dd _ nn M ⟨q, B, cb, he, QJ, hq, h⟩
 simp only [List.cons.injEq, Value.int.injEq, and_true, true_and] at he
 subst he
 refine aJ.2 ⟨fun hlt => ?_, fun TV => ?_⟩
 ·refine aL h ?_
  refine ae h ?_
  clear h; intro xF M h
  refine h.dW (A := B) TU [(⟨-1, -1, 0⟩ : zW)] rfl (by simp) rfl (by simp; omega) ?_
  clear h; intro B' cb' M h
  refine aO ?_
  refine au h ?_
  clear h; intro M h
  rw [aQ (by omega)]
  have e : List.replicate q (⟨-1, -1, 0⟩ : zW) ++ [⟨-1, -1, 0⟩] = List.replicate (q + 1) ⟨-1, -1, 0⟩ := List.replicate_succ'.symm
  rw [e] at h
  exact ⟨nM - (q + 1), by omega, q + 1, B', cb', rfl, rfl, by omega, h.sub bu⟩
 have hqn : q = nM := by omega
 subst hqn
 refine ae h ?_
 clear h; intro Gt M h
 have e0 : Sc.new p c d = ⟨Wd.new p, c, List.replicate j ⟨⟨-1, fx c.R, []⟩, 0, -1⟩, List.replicate q ⟨-1, -1, 0⟩, [0], d, 0⟩ := by
  unfold Sc.new; rw [hnP, hnM]; rfl
 have e3 : (List.replicate j (⟨⟨-1, fx c.R, []⟩, 0, -1⟩ : dM)).map dM.q = List.replicate j ⟨-1, fx c.R, []⟩ := by simp
 replace h := (h.pt Gt).fQ (E := aZ) (l := [0]) rfl
 generalize hz : (⟨Wd.new p, c, List.replicate j ⟨⟨-1, fx c.R, []⟩, 0, -1⟩, List.replicate q ⟨-1, -1, 0⟩, [0], d, 0⟩ : Sc) = z at e0
 have z1 : eY wb db ⟨A, ca, xe, B, cb⟩ z none 0 0 = [.pointer (some ⟨wb, 0, none⟩), .int .i64 c.P, .int .i64 c.M, .int .i64 c.R, .int .i64 c.S, .slice A j ca, .slice B q cb, .slice none 0 0, .pointer (some ⟨db, 0, none⟩), .int .i64 0] := by
  rw [← hz]; simp [eY]
 rw [← z1] at h
 have h2 : Hp R (pt b (eY wb db ⟨A, ca, xe, B, cb⟩ z none 0 0) 137 :: jg none 0 [] :: jg (some ⟨Gt, 0, none⟩) 1 [0] :: ay (bn pa p) wb (Wd.new p) :: ay (cX .nilFunc) db d :: cy A ca (bV xe (List.replicate j ⟨⟨-1, fx c.R, []⟩, 0, -1⟩)) :: bp bO xe (List.replicate j ⟨-1, fx c.R, []⟩) :: cH B cb (List.replicate q ⟨-1, -1, 0⟩) :: L') M := h.sub bu
 have h3 : Hp R (gI (eE b wb db ⟨A, ca, xe, B, cb⟩ z) [] :: jg (some ⟨Gt, 0, none⟩) 1 [0] :: ay (bn pa p) wb (Wd.new p) :: ay (cX .nilFunc) db d :: cy A ca (bV xe (List.replicate j ⟨⟨-1, fx c.R, []⟩, 0, -1⟩)) :: bp bO xe (List.replicate j ⟨-1, fx c.R, []⟩) :: cH B cb (List.replicate q ⟨-1, -1, 0⟩) :: L') M := G2 (P := eE b wb db ⟨A, ca, xe, B, cb⟩ z) h2 rfl
 clear h h2
 refine oP (P := eE b wb db ⟨A, ca, xe, B, cb⟩ z) yZ h3 (Src.row (A := some ⟨Gt, 0, none⟩)) rfl (by simp) ?_
 clear h3; intro M h
 refine ⟨rfl, ?_⟩
 refine k b wb M ?_
 rw [e0]
 refine ij (a := ⟨A, ca, xe, B, cb⟩) (x := z) (by rw [← hz]; simp [hlb]) ?_
 rw [← hz] at h ⊢
 unfold gn
 dsimp only at h ⊢
 rw [e3]
 exact h.sub bu
theorem BD (h : Hp R L M) [o : lX b L pa p wb db x L'] (hs : x.ms.length ≤ 1000000) (k : ∀ A c M', Hp R (bE fz 268 A c x.ms :: ay (c9 pa p wb db) b x :: L') M' → K (.slice A x.ms.length c) M') : aa Tryz.prog 129 #[.pointer (some ⟨b, 0, none⟩)] M K Kp := by
 refine nF ?_
 have h' := fA h (b := b)
 clear h
 obtain ⟨a, hl, h⟩ := h'
 rw [y3 h]
 refine aO ?_
 have elm : aY Tryz.prog 269 268 3 24 [.int .i64 0, .int .i64 0, .int .i64 0] := aY.mk' (zv := .agg #[.int .i64 0, .int .i64 0, .int .i64 0]) (by kernel_rfl) (by kernel_rfl) rfl (by omega)
 replace h := h.bP fz 268
 refine ⟨fun dd vs M => ∃ (j : Nat) (A : Option Addr) (c : Nat), vs = [.slice A j c, .int .i64 (j : Int)] ∧ dd = x.ms.length - j ∧ j ≤ x.ms.length ∧ Hp R (bE fz 268 A c (x.ms.take j) :: gI (eE b wb db a x) x.gl :: ay (bn pa p) wb x.w :: ay (cX .nilFunc) db x.d :: gn a x L') M, ⟨_, 0, none, 0, rfl, rfl, by omega, h⟩, ?_⟩
 clear h
 rintro dd _ A n c nn M ⟨j, A', c', he, hd, hj, h⟩
 simp only [List.cons.injEq, Value.int.injEq, Value.slice.injEq, and_true, true_and] at he
 obtain ⟨⟨rfl, rfl, rfl⟩, rfl⟩ := he
 refine aJ.2 ⟨fun hlt => ?_, fun hge => ?_⟩
 ·obtain ⟨y, hy⟩ := aM (l := x.ms) (i := n) (by omega)
  refine ⟨by omega, hlt, ?_⟩
  obtain ⟨q2, oa⟩ := h.bF (A := a.am) (l := x.ms) (by omega) (by decide)
  have hs0 := (h.src (A := a.am)) M h
  rw [oa] at hs0
  refine Kk oa ?_
  refine aR (Sl.at hs0 (i := n * 3 + 0) (by simp) (fO.iY (E := fz) hy rfl)) ?_
  refine aR (Sl.at hs0 (i := n * 3 + 1) (by simp <;> omega) (fO.iY (E := fz) hy rfl)) ?_
  refine aR (Sl.at hs0 (i := n * 3 + 2) (by simp <;> omega) (fO.iY (E := fz) hy rfl)) ?_
  clear hs0
  refine ae h ?_
  clear h; intro dJ M h
  refine au h ?_
  clear h; intro M h
  refine au h ?_
  clear h; intro M h
  refine au h ?_
  clear h; intro M h
  refine aF h (aF h (aF h ?_))
  refine ae h ?_
  clear h; intro jW M h
  refine h.dW (A := A) elm [y] rfl (by rw [List.length_take]; omega) rfl (by rw [List.length_take]; simp only [List.length_singleton]; omega) ?_
  clear h; intro A2 c2 M h
  refine aO ?_
  rw [← bx hy] at h
  rw [aQ (by omega)]
  exact ⟨x.ms.length - (n + 1), by omega, n + 1, A2, c2, rfl, rfl, by omega, h.sub bu⟩
 ·have De : n = x.ms.length := by omega
  subst De
  rw [List.take_length] at h
  exact k _ _ _ ((ij hl (h.sub bu)).swap)
end
section
variable {p : cv} {x y : Sc} {o : nR} {m : Int}
theorem DQ {i k g : Int} {t : Bool} : (x.bU m i k g t).1.d = x.d := by unfold Sc.bU; split <;> rfl
theorem Q5 (h : x.d.k.Ok) : (x.find m).1.d.k.Ok := by
 unfold Sc.find
 dsimp only
 split
 ·exact h
 ·split
  ·have hd : (x.own (aC x m).p).1.d = x.d := rfl
   have := oV (kind := 2) (n := x.c.P) h
   rw [hd]
   split
   ·rename_i xZ; rw [xZ] at this; exact this
   ·rename_i xZ
    rw [xZ] at this
    split <;> · rw [DQ]; exact this
  ·rw [DQ]; exact h
theorem Lv {g : Int} {d : mj} {w : Wd} {rest : Bool} (h : jr x m g d w rest = some (y, o)) (i0 : 0 ≤ (aC x m).p) (i1 : (aC x m).p < x.ps.length) : y.d = d := by
 unfold jr at h
 split at h
 ·simp only [Option.some.injEq, Prod.mk.injEq] at h
  rw [← h.1]
  have := iF (m := m) w.ready { x with w := w, d := d } i0 i1
  unfold Sc.rz
  split <;> exact this.2.2.2.1
 ·cases h
theorem ve {a : Option (Int × Int)} {d : mj} (h : d.k.Ok) : (gp d a).1.k.Ok := by
 cases a with
 | none => exact h
 | some q => exact oV h
theorem TW (h : x.d.k.Ok) (he : x.run p m = some (y, o)) : y.d.k.Ok := by
 unfold Sc.run at he
 split at he
 ·rename_i hpre
  obtain ⟨m0, m1, i0, i1, _⟩ := hpre
  split at he
  ·split at he
   ·cases he
   ·simp only [Option.some.injEq, Prod.mk.injEq] at he
    rw [← he.1]
    exact ve h
   ·rw [Lv he i0 i1]; exact ve h
   ·rw [Lv he i0 i1]; exact ve h
  ·cases he
 ·cases he
theorem Kl {z : Sc × nR} : (E6 z).1.d = z.1.d := by
 obtain ⟨z, o⟩ := z
 cases o <;> rfl
theorem HE (h : x.d.k.Ok) (he : x.step p = some (y, o)) : y.d.k.Ok := by
 unfold Sc.step at he
 split at he
 ·split at he
  ·cases he; exact h
  ·have hk := oV (kind := 1) (n := x.c.M + 1) h
   split at he
   ·rename_i hd; rw [hd] at hk; cases he; exact hk
   ·rename_i d' mm hd
    rw [hd] at hk
    dsimp only at hk
    unfold Sc.act at he
    split at he
    ·split at he
     ·simp only [Option.map_some, Option.some.injEq] at he
      cases he; exact hk
     ·cases he
    ·split at he
     ·simp only [Option.map_some, Option.some.injEq] at he
      have e : y.d = (Sc.hold { x with d := d' } mm).1.d := by rw [← (Kl (z := ((Sc.hold { x with d := d' } mm).1, .ev (Sc.hold { x with d := d' } mm).2))), he]
      rw [e]
      unfold Sc.hold
      split <;> exact hk
     ·split at he
      ·split at he
       ·simp only [Option.map_some, Option.some.injEq] at he
        have e : y.d = (Sc.find { x with d := d' } mm).1.d := by rw [← (Kl (z := Sc.find { x with d := d' } mm)), he]
        rw [e]
        exact Q5 hk
       ·cases he
      ·cases hr : Sc.run p { x with d := d' } mm with
       | none => rw [hr] at he; cases he
       | some z =>
        rw [hr] at he
        simp only [Option.map_some, Option.some.injEq] at he
        have e : y.d = z.1.d := by rw [← (Kl (z := z)), he]
        rw [e]
        exact TW (y := z.1) (o := z.2) hk hr
 ·cases he
end
def p18 : cv := ⟨[[⟨20, 0, 0, 0⟩, ⟨10, 0, 0, 0⟩]], [], 0, []⟩
def x18 : Sc := Sc.new p18 ⟨1, 1, 2, 9⟩ ⟨.zA [0, 0, 0, 0] 0, []⟩
def dc (c : Lq) : Lq :=
 let q := fun (x m : Int) => Int.tmod (IntKind.wrap .i64 (((Nat.bitwise and (BitVec.ofInt IntKind.i64.bits x).toNat (BitVec.ofInt IntKind.i64.bits 255).toNat) : Nat) : Int)) m
 ⟨1 + q c.P 5, 1 + q c.M 5, 2 + q c.R 5, 1 + q c.S 12⟩
theorem zZ (x : Int) {m : Int} {n : Nat} (e : m = (n : Int)) (hm : 0 < n) : 0 ≤ Int.tmod (IntKind.wrap .i64 (((Nat.bitwise and (BitVec.ofInt IntKind.i64.bits x).toNat (BitVec.ofInt IntKind.i64.bits 255).toNat) : Nat) : Int)) m ∧ Int.tmod (IntKind.wrap .i64 (((Nat.bitwise and (BitVec.ofInt IntKind.i64.bits x).toNat (BitVec.ofInt IntKind.i64.bits 255).toNat) : Nat) : Int)) m < m := by
 obtain ⟨q, hq, _⟩ := mask (x := x) (y := 255) (m := 255) rfl (by omega)
 rw [hq, e, Go.AF.qm]
 have := Nat.mod_lt q hm
 omega
theorem BE (c : Lq) : 1 ≤ (dc c).P ∧ (dc c).P ≤ 5 ∧ 1 ≤ (dc c).M ∧ (dc c).M ≤ 5 ∧ 2 ≤ (dc c).R ∧ (dc c).R ≤ 6 ∧ 1 ≤ (dc c).S ∧ (dc c).S ≤ 12 := by
 have a := zZ c.P (m := 5) (n := 5) rfl (by omega)
 have b := zZ c.M (m := 5) (n := 5) rfl (by omega)
 have d := zZ c.R (m := 5) (n := 5) rfl (by omega)
 have e := zZ c.S (m := 12) (n := 12) rfl (by omega)
 unfold dc
 dsimp only
 refine ⟨by omega, ?_, by omega, ?_, by omega, ?_, by omega, ?_⟩ <;> omega
section
variable {R : Mem} {L L' : List HP} {M : Mem} {K : Value → Mem → Prop} {Kp : List PanicEntry → Mem → Prop}
theorem mP {x m : Int} {n : Nat} (hm : m = (n : Int)) (hn : 0 < n) (k : K (.int .i64 (Int.tmod (IntKind.wrap .i64 (((Nat.bitwise and (BitVec.ofInt IntKind.i64.bits x).toNat (BitVec.ofInt IntKind.i64.bits 255).toNat) : Nat) : Int)) m)) M) : aa Tryz.prog 55 #[.int .i64 x, .int .i64 m] M K Kp := by
 refine oM ⟨by omega, k⟩
theorem BF {c : Lq} (h : Hp R L M) (k : ∀ M', Hp R L M' → K (.agg #[.int .i64 (dc c).P, .int .i64 (dc c).M, .int .i64 (dc c).R, .int .i64 (dc c).S]) M') : aa Tryz.prog 14 #[.agg #[.int .i64 c.P, .int .i64 c.M, .int .i64 c.R, .int .i64 c.S]] M K Kp := by
 refine qN ?_
 refine ae h ?_
 clear h; intro k1 M h
 refine ae h ?_
 clear h; intro k3 M h
 refine aF h (aF h (aF h (aF h ?_)))
 refine mP (n := 5) rfl (by omega) (cz ⟨bN h, bN h, bN h, ?_⟩)
 refine mP (n := 5) rfl (by omega) (cz ⟨bN h, bN h, bN h, ?_⟩)
 refine mP (n := 5) rfl (by omega) (cz ⟨bN h, bN h, bN h, ?_⟩)
 refine mP (n := 12) rfl (by omega) (cz ⟨bN h, bN h, bN h, ?_⟩)
 have ok := BE c
 have e1 : IntKind.wrap .i64 (1 + Int.tmod (IntKind.wrap .i64 (((Nat.bitwise and (BitVec.ofInt IntKind.i64.bits c.P).toNat (BitVec.ofInt IntKind.i64.bits 255).toNat) : Nat) : Int)) 5) = (dc c).P := dm (z := (dc c).P) (by omega) (by omega)
 have e2 : IntKind.wrap .i64 (1 + Int.tmod (IntKind.wrap .i64 (((Nat.bitwise and (BitVec.ofInt IntKind.i64.bits c.M).toNat (BitVec.ofInt IntKind.i64.bits 255).toNat) : Nat) : Int)) 5) = (dc c).M := dm (z := (dc c).M) (by omega) (by omega)
 have e3 : IntKind.wrap .i64 (2 + Int.tmod (IntKind.wrap .i64 (((Nat.bitwise and (BitVec.ofInt IntKind.i64.bits c.R).toNat (BitVec.ofInt IntKind.i64.bits 255).toNat) : Nat) : Int)) 5) = (dc c).R := dm (z := (dc c).R) (by omega) (by omega)
 have e4 : IntKind.wrap .i64 (1 + Int.tmod (IntKind.wrap .i64 (((Nat.bitwise and (BitVec.ofInt IntKind.i64.bits c.S).toNat (BitVec.ofInt IntKind.i64.bits 255).toNat) : Nat) : Int)) 12) = (dc c).S := dm (z := (dc c).S) (by omega) (by omega)
 rw [e1, e2, e3, e4]
 refine au h ?_
 clear h; intro M h
 refine au h ?_
 clear h; intro M h
 refine au h ?_
 clear h; intro M h
 refine au h ?_
 clear h; intro M h
 refine ⟨bN h, bN h, bN h, aF h (aF h (aF h (aF h ?_)))⟩
 exact k _ (h.sub bu)
theorem TX {pa : PA} {p : cv} {b wb db : Nat} {x y : Sc} {e : Ev} (h : Hp R L M) [q : lX b L pa p wb db x L'] (hp : lB R pa p) (hd : x.d.k.Ok) (he : x.step p = some (y, .ev e))
  (k : ∀ R' A c M', R.le R' → RS aZ R' A c e.ready → y.d.k.Ok → Hp R' (ay (c9 pa p wb db) b y :: L') M' → K (Kf e A c) M') : aa Tryz.prog 54 #[.pointer (some ⟨b, 0, none⟩)] M K Kp :=
 BC h hp hd he (fun R' A c M' h1 h2 h3 => k R' A c M' h1 h2 (HE hd he) h3)
end
def Of : List Value := [.int .i64 0, .int .i64 0, .int .i64 0, .int .i64 0, .int .u64 0]
inductive pU : List PanicEntry → Int → List Value → Prop
 | d1 : pU NH 1 Of
 | d2 : pU (zB NH) 1 Of
 | u1 (a q n k x : Int) : pU (ZQ a q n k x) 2 [.int .i64 a, .int .i64 q, .int .i64 n, .int .i64 k, .int .u64 x]
 | u2 (a q n k x : Int) : pU (zB (ZQ a q n k x)) 2 [.int .i64 a, .int .i64 q, .int .i64 n, .int .i64 k, .int .u64 x]
section
variable {R : Mem} {L L' L2 : List HP} {M : Mem} {K : Value → Mem → Prop} {Kp : List PanicEntry → Mem → Prop} {u0 : Value} {S : Mem → List HP → Prop} {D : Mem → List PanicEntry → List HP → Prop}
def Lw (R : Mem) (L : List HP) (u0 : Value) (S : Mem → List HP → Prop) (D : Mem → List PanicEntry → List HP → Prop) : Prop := ∀ (Q : HP) (M : Mem) (K : Value → Mem → Prop) (Kp : List PanicEntry → Mem → Prop), Hp R (Q :: L) M →
 (∀ R' L' M', S R' L' → Hp R' (Q :: L') M' → K (.tuple #[]) M') → (∀ R' l L' M', D R' l L' → Hp R' (Q :: L') M' → Kp l M') → gr Cx u0 [] M K Kp
theorem CL {b1 b2 : Nat} (h : Hp R (pt b1 [.int .i64 0] 3 :: pt b2 Of 97 :: L) M) (hc : Lw R L u0 S D) (hd : ∀ R' l L', D R' l L' → ∃ e vs, pU l e vs)
  (k : ∀ R' L' M', S R' L' → Hp R' (pt b1 [.int .i64 0] 3 :: pt b2 Of 97 :: L') M' → K (.tuple #[]) M')
  (kd : ∀ R' l L' M' e vs, D R' l L' → pU l e vs → Hp R' (pt b1 [.int .i64 e] 3 :: pt b2 vs 97 :: L') M' → K (.tuple #[]) M') :
  aa Tryz.prog 116 #[u0, .pointer (some ⟨b1, 0, none⟩), .pointer (some ⟨b2, 0, none⟩)] M K Kp := by
 refine xQ ?_
 refine ae h ?_
 clear h
 intro k1 M h
 refine ae h ?_
 clear h
 intro k3 M h
 refine hc (sep [pt k3 [.pointer (some ⟨b2, 0, none⟩)] _, pt k1 [.pointer (some ⟨b1, 0, none⟩)] _, pt b1 [.int .i64 0] 3, pt b2 Of 97]) M _ _ (Hp.bl.2 h) ?_ ?_
 ·clear h
  intro R' L' M' hs h
  have h := Hp.bl.1 h
  exact ⟨rfl, Nc (k R' L' M' hs h.drop.drop)⟩
 ·clear h
  intro R' l L' M hs h
  replace h := Hp.bl.1 h
  obtain ⟨e, vs, hg⟩ := hd _ _ _ hs
  have kd' := kd R' l L'
  simp only [List.cons_append, List.nil_append, Of] at h kd'
  clear kd k hc hd
  cases hg with
  | d1 =>
   refine JC ?_
   repeat (first|(refine ae h ?_;clear h;intro kb M h)|(refine au h ?_;clear h;intro M h)|refine St.to h ?_|(apply Exists.intro;(repeat apply Exists.intro);refine And.intro rfl ?_)|refine av ?_|refine ai ?_|refine aj ?_)
   exact kd' _ _ _ hs .d1 (h.sub bu)
  | d2 =>
   refine GL ?_
   repeat (first|(refine ae h ?_;clear h;intro kb M h)|(refine au h ?_;clear h;intro M h)|refine St.to h ?_|(apply Exists.intro;(repeat apply Exists.intro);refine And.intro rfl ?_)|refine av ?_|refine ai ?_|refine aj ?_)
   exact kd' _ _ _ hs .d2 (h.sub bu)
  | u1 a q n k x =>
   refine CE ?_
   repeat (first|(refine ae h ?_;clear h;intro kb M h)|(refine au h ?_;clear h;intro M h)|refine St.to h ?_|(apply Exists.intro;(repeat apply Exists.intro);refine And.intro rfl ?_)|refine av ?_|refine ai ?_|refine aj ?_)
   exact kd' _ _ _ hs (.u1 a q n k x) (h.sub bu)
  | u2 a q n k x =>
   refine AZ ?_
   repeat (first|(refine ae h ?_;clear h;intro kb M h)|(refine au h ?_;clear h;intro M h)|refine St.to h ?_|(apply Exists.intro;(repeat apply Exists.intro);refine And.intro rfl ?_)|refine av ?_|refine ai ?_|refine aj ?_)
   exact kd' _ _ _ hs (.u2 a q n k x) (h.sub bu)
theorem pU.shape {l : List PanicEntry} {e : Int} {vs : List Value} (h : pU l e vs) : (e = 1 ∨ e = 2) ∧ ∃ a q n k x : Int, vs = [.int .i64 a, .int .i64 q, .int .i64 n, .int .i64 k, .int .u64 x] := by
 cases h with
 | d1 => exact ⟨.inl rfl, 0, 0, 0, 0, 0, rfl⟩
 | d2 => exact ⟨.inl rfl, 0, 0, 0, 0, 0, rfl⟩
 | u1 a q n k x => exact ⟨.inr rfl, a, q, n, k, x, rfl⟩
 | u2 a q n k x => exact ⟨.inr rfl, a, q, n, k, x, rfl⟩
theorem wT (h : Hp R L M) (hc : Lw R L u0 S D) (hd : ∀ R' l L', D R' l L' → ∃ e vs, pU l e vs)
  (k : ∀ R' L' M', S R' L' → Hp R' L' M' → K (.tuple #[.int .i64 0, .agg #[.int .i64 0, .int .i64 0, .int .i64 0, .int .i64 0, .int .u64 0]]) M')
  (kd : ∀ R' l L' M' e a q n k x, D R' l L' → pU l e [.int .i64 a, .int .i64 q, .int .i64 n, .int .i64 k, .int .u64 x] → Hp R' L' M' → K (.tuple #[.int .i64 e, .agg #[.int .i64 a, .int .i64 q, .int .i64 n, .int .i64 k, .int .u64 x]]) M') :
  aa Tryz.prog 61 #[u0] M K Kp := by
 refine zo ?_
 refine ae h ?_
 clear h
 intro k1 M h
 refine ae h ?_
 clear h
 intro k3 M h
 refine ae h ?_
 clear h
 intro k5 M h
 repeat (refine au h ?_; clear h; intro M h)
 refine CL (S := fun R' L2 => ∃ L', S R' L' ∧ L2 = pt k1 Of 97 :: L') (D := fun R' l L2 => ∃ L', D R' l L' ∧ L2 = pt k1 Of 97 :: L') (L := pt k1 Of 97 :: L) (h.sub bu) ?_ ?_ ?_ ?_
 ·intro Q M K Kp h k1' k2
  refine hc (sep [Q, pt k1 Of 97]) M K Kp (Hp.bl.2 h) ?_ ?_
  ·intro R' L' M' hs h
   exact k1' R' _ M' ⟨L', hs, rfl⟩ (Hp.bl.1 h)
  ·intro R' l L' M' hs h
   exact k2 R' l _ M' ⟨L', hs, rfl⟩ (Hp.bl.1 h)
 ·rintro R' l _ ⟨L', hs, _⟩
  exact hd _ _ _ hs
 ·rintro R' _ M ⟨L', hs, rfl⟩ h
  clear hc hd kd
  simp only [Of] at h
  refine ⟨rfl, ?_⟩
  repeat (first|(refine ae h ?_;clear h;intro kb M h)|(refine au h ?_;clear h;intro M h)|refine St.to h ?_|(apply Exists.intro;(repeat apply Exists.intro);refine And.intro rfl ?_)|refine av ?_|refine ai ?_|refine aj ?_)
  exact k _ _ _ hs (h.sub bu)
 ·rintro R' l _ M e vs ⟨L', hs, rfl⟩ hg h
  obtain ⟨_, a, q, n, kk, x, rfl⟩ := hg.shape
  clear hc hd k
  simp only [Of] at h
  refine ⟨rfl, ?_⟩
  repeat (first|(refine ae h ?_;clear h;intro kb M h)|(refine au h ?_;clear h;intro M h)|refine St.to h ?_|(apply Exists.intro;(repeat apply Exists.intro);refine And.intro rfl ?_)|refine av ?_|refine ai ?_|refine aj ?_)
  exact kd _ _ _ _ _ _ _ _ _ _ hs hg (h.sub bu)
theorem NR {k k' : gV} {kind m : Int} {l : List PanicEntry} (h : k.next kind m = (k', .dY l)) : ∃ e vs, pU l e vs ∧ pU (zB l) e vs := by
 cases k with
 | zA t i =>
  unfold gV.next at h
  dsimp only at h
  split at h
  ·cases h; exact ⟨_, _, .d1, .d2⟩
  ·cases h
 | tape t i =>
  unfold gV.next at h
  dsimp only at h
  split at h
  ·cases h; exact ⟨_, _, .d1, .d2⟩
  ·split at h
   ·cases h; exact ⟨_, _, .u1 _ _ _ _ _, .u2 _ _ _ _ _⟩
   ·split at h
    ·cases h; exact ⟨_, _, .u1 _ _ _ _ _, .u2 _ _ _ _ _⟩
    ·cases h
theorem yg {x x' : mj} {kind n : Int} {l : List PanicEntry} (h : x.draw kind n = (x', .dY l)) : ∃ e vs, pU l e vs ∧ pU (zB l) e vs := by
 unfold mj.draw at h
 split at h
 ·cases h
 ·rename_i k' l' hn
  cases h
  exact NR hn
theorem Q6 {d d' : mj} {a : Option (Int × Int)} {l : List PanicEntry} (h : gp d a = (d', .dY l)) : ∃ e vs, pU l e vs ∧ pU (zB l) e vs := by
 cases a with
 | none => cases h
 | some q => exact yg h
theorem TY {z y : Sc} {o : nR} {l : List PanicEntry} (h : E6 (z, o) = (y, .dY l)) : o = .dY l := by
 cases o with
 | ev e => cases h
 | dY l' => cases h; rfl
theorem Q7 {p : cv} {x y : Sc} {l : List PanicEntry} (he : x.step p = some (y, .dY l)) : ∃ e vs, pU l e vs := by
 unfold Sc.step at he
 split at he
 ·split at he
  ·cases he
  ·split at he
   ·rename_i hd
    cases he
    obtain ⟨e, vs, h, _⟩ := yg hd
    exact ⟨e, vs, h⟩
   ·rename_i d' m hd
    simp only [Option.map_eq_some_iff] at he
    obtain ⟨⟨z, o⟩, ha, hi⟩ := he
    have ho := TY hi
    subst ho
    clear hi hd
    unfold Sc.act at ha
    split at ha
    ·split at ha
     ·cases ha
     ·cases ha
    ·split at ha
     ·cases ha
     ·split at ha
      ·split at ha
       ·simp only [Option.some.injEq] at ha
        unfold Sc.find at ha
        dsimp only at ha
        split at ha
        ·cases ha
        ·split at ha
         ·split at ha
          ·rename_i hd
           cases ha
           obtain ⟨e, vs, h, _⟩ := yg hd
           exact ⟨e, vs, h⟩
          ·split at ha <;> cases ha
         ·cases ha
       ·cases ha
      ·unfold Sc.run at ha
       split at ha
       ·split at ha
        ·split at ha
         ·cases ha
         ·rename_i l' w rest hex
          cases ha
          obtain ⟨CJ, _⟩ := DO hex
          obtain ⟨e, vs, _, h⟩ := Q6 (d' := _) (by rw [← CJ])
          exact ⟨e, vs, h⟩
         ·unfold jr at ha
          split at ha <;> cases ha
         ·unfold jr at ha
          split at ha <;> cases ha
        ·cases ha
       ·cases ha
 ·cases he
def GsEnd (R : Mem) (pa : PA) (p : cv) (b wb db : Nat) (L' : List HP) (K : Value → Mem → Prop) (y : Sc) : nR → Prop
 | .ev e => ∀ R' A c M', R.le R' → RS aZ R' A c e.ready → y.d.k.Ok → Hp R' (ay (c9 pa p wb db) b y :: L') M' → K (.tuple #[Kf e A c, .int .i64 0]) M'
 | .dY l => ∀ e vs M', pU l e vs → y.d.k.Ok → Hp R (ay (c9 pa p wb db) b y :: L') M' → K (.tuple #[Kf ⟨0, 0, 0, []⟩ none 0, .int .i64 e]) M'
theorem BG {pa : PA} {p : cv} {b wb db : Nat} {x y : Sc} {o : nR} (h : Hp R L M) [q : lX b L pa p wb db x L'] (hp : lB R pa p) (hd : x.d.k.Ok) (he : x.step p = some (y, o)) (k : GsEnd R pa p b wb db L' K y o) :
  aa Tryz.prog 17 #[.pointer (some ⟨b, 0, none⟩)] M K Kp := by
 refine qO ?_
 replace h := h.pick q.pick
 refine ae h ?_
 clear h
 intro k1 M h
 refine ae h ?_
 clear h
 intro k3 M h
 refine ae h ?_
 clear h
 intro k5 M h
 have hsk := HE hd he
 cases o with
 | ev e =>
  refine wT (D := fun _ _ _ => False) (S := fun R' L2 => R.le R' ∧ ∃ A c, RS aZ R' A c e.ready ∧ L2 = ay (c9 pa p wb db) b y :: pt k5 [.int .i64 e.kind, .int .i64 e.m, .int .i64 e.g, .slice A e.ready.length c] 43 :: pt k3 [.int .i64 0, .int .i64 0, .int .i64 0, .slice none 0 0] 43 :: L') h ?_ ?_ ?_ ?_
  ·intro Q M K Kp h kk _
   refine lJ (args := []) ⟨by decide, by show _ < 255; decide⟩ ?_
   refine je ?_
   refine dG h ?_
   refine TX h hp hd he ?_
   clear h; intro R' A c M hle oR hk h
   refine ⟨_, _, _, _, _, _, rfl, ?_⟩
   repeat (refine au h ?_; clear h; intro M h)
   exact kk R' _ M ⟨hle, A, c, oR, rfl⟩ (h.sub bu)
  ·exact fun _ _ _ hs => hs.elim
  ·rintro R' _ M ⟨hle, A, c, oR, rfl⟩ h
   refine ⟨_, _, _, _, _, _, rfl, ?_⟩
   refine ae h ?_
   clear h
   intro hU M h
   repeat (first|(refine ae h ?_;clear h;intro kb M h)|(refine au h ?_;clear h;intro M h)|refine St.to h ?_|(apply Exists.intro;(repeat apply Exists.intro);refine And.intro rfl ?_)|refine av ?_|refine ai ?_|refine aj ?_)
   exact k R' A c _ hle oR hsk (h.sub bu)
  ·exact fun _ _ _ _ _ _ _ _ _ _ hs => hs.elim
 | dY l =>
  obtain ⟨e, vs, hg⟩ := Q7 he
  refine wT (S := fun _ _ => False) (D := fun R' l' L2 => R' = R ∧ l' = l ∧ L2 = ay (c9 pa p wb db) b y :: pt k5 [.int .i64 0, .int .i64 0, .int .i64 0, .slice none 0 0] 43 :: pt k3 [.int .i64 0, .int .i64 0, .int .i64 0, .slice none 0 0] 43 :: L') h ?_ ?_ ?_ ?_
  ·intro Q M K Kp h _ kk
   refine lJ (args := []) ⟨by decide, by show _ < 255; decide⟩ ?_
   refine je ?_
   refine dG h ?_
   refine BC h hp hd he ?_
   intro M h
   exact kk R _ _ M ⟨rfl, rfl, rfl⟩ (h.sub bu)
  ·rintro R' l' L2 ⟨_, rfl, _⟩
   exact ⟨e, vs, hg⟩
  ·exact fun _ _ _ hs => hs.elim
  ·rintro R' l' _ M e a q n kx xx ⟨rfl, rfl, rfl⟩ hg h
   refine ⟨_, _, _, _, _, _, rfl, ?_⟩
   refine ae h ?_
   clear h
   intro hU M h
   repeat (first|(refine ae h ?_;clear h;intro kb M h)|(refine au h ?_;clear h;intro M h)|refine St.to h ?_|(apply Exists.intro;(repeat apply Exists.intro);refine And.intro rfl ?_)|refine av ?_|refine ai ?_|refine aj ?_)
   exact k _ _ _ hg hsk (h.sub bu)
end
def RY : fO (Int × (Option Addr × Nat × Nat) × Int × Int) := ⟨4, fun t => [.int .i64 t.1, .slice t.2.1.1 t.2.1.2.1 t.2.1.2.2, .int .i64 t.2.2.1, .int .i64 t.2.2.2], fun _ => rfl, fun w v hv => by
 simp only [List.mem_cons, List.not_mem_nil, or_false] at hv; obtain rfl | rfl | rfl | rfl := hv <;> rfl⟩
def View (R : Mem) (v : Int × (Option Addr × Nat × Nat) × Int × Int) (pr : dM) : Prop := v.1 = pr.q.next ∧ v.2.1.2.1 = pr.q.l.length ∧ RS aZ R v.2.1.1 v.2.1.2.2 pr.q.l ∧ v.2.2.1 = pr.turns ∧ v.2.2.2 = pr.gW
def uc (R : Mem) (vs : List (Int × (Option Addr × Nat × Nat) × Int × Int)) (ps : List dM) : Prop := vs.length = ps.length ∧ ∀ (i : Nat) v pr, vs[i]? = some v → ps[i]? = some pr → View R v pr
theorem View.le {R R' : Mem} {v : Int × (Option Addr × Nat × Nat) × Int × Int} {pr : dM} (h : View R v pr) (hle : R.le R') : View R' v pr := ⟨h.1, h.2.1, h.2.2.1.le hle, h.2.2.2⟩
theorem uc.le {R R' : Mem} {vs : List (Int × (Option Addr × Nat × Nat) × Int × Int)} {ps : List dM} (h : uc R vs ps) (hle : R.le R') : uc R' vs ps := ⟨h.1, fun i v pr a b => (h.2 i v pr a b).le hle⟩
theorem uc.snoc {R : Mem} {vs : List (Int × (Option Addr × Nat × Nat) × Int × Int)} {ps : List dM} {n : Nat} {v : Int × (Option Addr × Nat × Nat) × Int × Int} {pr : dM} (h : uc R vs (ps.take n)) (hp : ps[n]? = some pr) (hv : View R v pr) : uc R (vs ++ [v]) (ps.take (n + 1)) := by
 obtain ⟨h1, h2⟩ := h
 rw [bx hp]
 refine ⟨by simp [h1], fun i w q a b => ?_⟩
 rcases Nat.lt_trichotomy i vs.length with hi | hi | hi
 ·rw [List.getElem?_append_left hi] at a
  rw [List.getElem?_append_left (by omega)] at b
  exact h2 i w q a b
 ·subst hi
  rw [List.getElem?_append_right (Nat.le_refl _)] at a
  rw [List.getElem?_append_right (by omega)] at b
  simp at a
  rw [show vs.length - (ps.take n).length = 0 from by omega] at b
  simp at b
  subst a; subst b; exact hv
 ·rw [List.getElem?_eq_none (by simp; omega)] at a; cases a
section
variable {R : Mem} {L L' L2 : List HP} {M : Mem} {K : Value → Mem → Prop} {Kp : List PanicEntry → Mem → Prop} {pa : PA} {p : cv} {b wb db : Nat} {x : Sc} {m i : Int}
theorem yh (h : Hp R L M) [o : lX b L pa p wb db x L'] (hs : x.ps.length ≤ 1000000) (k : ∀ R' A c vs M', R.le R' → uc R' vs x.ps → Hp R' (bE RY 263 A c vs :: ay (c9 pa p wb db) b x :: L') M' → K (.slice A x.ps.length c) M') : aa Tryz.prog 126 #[.pointer (some ⟨b, 0, none⟩)] M K Kp := by
 refine mw ?_
 have h' := fA h (b := b)
 clear h
 obtain ⟨a, hl, h⟩ := h'
 rw [Lt h]
 refine aO ?_
 have elp : aY Tryz.prog 264 263 4 48 [.int .i64 0, .slice none 0 0, .int .i64 0, .int .i64 0] := aY.mk' (zv := .agg #[.int .i64 0, .slice none 0 0, .int .i64 0, .int .i64 0]) (by kernel_rfl) (by kernel_rfl) rfl (by omega)
 replace h := h.bP RY 263
 refine ⟨fun dd vs M => ∃ (j : Nat) (A : Option Addr) (c : Nat) (R' : Mem) (us : List (Int × (Option Addr × Nat × Nat) × Int × Int)), vs = [.slice A j c, .int .i64 (j : Int)] ∧ dd = x.ps.length - j ∧ j ≤ x.ps.length ∧ R.le R' ∧ uc R' us (x.ps.take j) ∧ Hp R' (bE RY 263 A c us :: gI (eE b wb db a x) x.gl :: ay (bn pa p) wb x.w :: ay (cX .nilFunc) db x.d :: gn a x L') M, ⟨_, 0, none, 0, R, [], rfl, rfl, by omega, Mem.le_refl _, ⟨by simp, fun i v pr e => by simp at e⟩, h⟩, ?_⟩
 clear h
 rintro dd _ A n c nn M ⟨j, A', c', R', us, he, hd, hj, hle, hv, h⟩
 simp only [List.cons.injEq, Value.int.injEq, Value.slice.injEq, and_true, true_and] at he
 obtain ⟨⟨rfl, rfl, rfl⟩, rfl⟩ := he
 have hul : us.length = n := by rw [hv.1, List.length_take]; omega
 refine aJ.2 ⟨fun hlt => ?_, fun hge => ?_⟩
 ·obtain ⟨pr, kG⟩ := aM (l := x.ps) (i := n) (by omega)
  obtain ⟨lb, hlb⟩ := aM (l := a.lb) (i := n) (by omega)
  refine ⟨by omega, hlt, ?_⟩
  obtain ⟨q2, oa⟩ := h.bF (A := a.ap) (l := bV a.lb x.ps) (by rw [kA hl]; omega) (by decide)
  have hs0 : Src R' (bE RY 263 A c us :: gI (eE b wb db a x) x.gl :: ay (bn pa p) wb x.w :: ay (cX .nilFunc) db x.d :: gn a x L') (some ⟨q2, 0, none⟩) (nO.cells (bV a.lb x.ps)) := by
   rw [← oa]; exact Src.row (A := a.ap)
  refine Kk oa ?_
  refine TS (j := n) h hs0 hlb kG (by simp) (by simp) (by simp) ?_
  clear hs0
  refine ae h ?_
  clear h; intro dJ M h
  refine au h ?_
  clear h; intro M h
  refine au h ?_
  clear h; intro M h
  refine au h ?_
  clear h; intro M h
  refine dG h (dG h (aF h (aF h ?_)))
  have hq : (x.ps.map dM.q)[n]? = some pr.q := by rw [List.getElem?_map, kG]; rfl
  unfold gn at h
  replace h := h.cK bO hlb hq
  refine Bf h ?_
  refine cz ⟨bN h, bN h, bN h, ?_⟩
  refine JQ h ?_
  clear h; intro B cB M h
  refine aO ⟨bN h, bN h, bN h, ?_⟩
  replace h := h.lH bO lb hlb hq
  obtain ⟨R2, NP, oR, h2⟩ := h.dO B
  clear h
  refine ae h2 ?_
  clear h2; intro zg M h
  refine h.dW (A := A) elp [(pr.q.next, (B, pr.q.l.length, cB), pr.turns, pr.gW)] rfl hul.symm rfl (by simp only [List.length_singleton]; omega) ?_
  clear h; intro A2 c2 M h
  refine aO ⟨bN h, bN h, bN h, ?_⟩
  rw [aQ (by omega)]
  have Ix : uc R2 (us ++ [(pr.q.next, (B, pr.q.l.length, cB), pr.turns, pr.gW)]) (x.ps.take (n + 1)) := (hv.le NP).snoc kG ⟨rfl, rfl, oR, rfl, rfl⟩
  refine ⟨x.ps.length - (n + 1), by omega, n + 1, A2, c2, R2, _, rfl, rfl, by omega, Mem.le_trans hle NP, Ix, ?_⟩
  unfold gn
  exact h.sub (by repeat (first | exact .refl | refine .cons (by repeat (first | exact .here | apply cZ.there)) ?_ | apply Sub.drop))
 ·have De : n = x.ps.length := by omega
  subst De
  rw [List.take_length] at hv
  exact k _ _ _ _ _ hle hv ((ij hl (h.sub (by repeat (first | exact .refl | refine .cons (by repeat (first | exact .here | apply cZ.there)) ?_ | apply Sub.drop)))).swap)
end
def iC : um (List Int) := ⟨fun b l => exs fun A : Option Addr => exs fun c : Nat => sep [pt b [.slice A l.length c] 189, jz A c l]⟩
theorem Lx : aY Tryz.prog 53 2 1 8 [.int .i64 0] := aY.mk' (zv := .int .i64 0) (by kernel_rfl) (by kernel_rfl) rfl (by omega)
theorem lY {α : Type} (f : α → List Int) (xs : List α) (j : Nat) : ((xs.take j).flatMap f).length ≤ (xs.flatMap f).length := by
 have : xs.flatMap f = (xs.take j).flatMap f ++ (xs.drop j).flatMap f := by rw [← List.flatMap_append, List.take_append_drop]
 rw [this, List.length_append]; omega
section
variable {R : Mem} {L L' : List HP} {M : Mem} {K : Value → Mem → Prop} {Kp : List PanicEntry → Mem → Prop} {b : Nat} {l : List Int}
theorem E7 (h : Hp R L M) [o : b6 iC b L l L'] : ∃ A c, Hp R (pt b [.slice A l.length c] 189 :: jz A c l :: L') M := by
 have := h.obj iC b
 simpa only [iC, Hp.dU, Hp.bl, List.cons_append, List.nil_append] using this
theorem Q8 {A : Option Addr} {c : Nat} (h : Hp R (pt b [.slice A l.length c] 189 :: jz A c l :: L) M) : Hp R (ay iC b l :: L) M := by
 refine Hp.xw ?_
 simp only [iC, Hp.dU, Hp.bl, List.cons_append, List.nil_append]
 exact ⟨_, _, h⟩
theorem wU {B : Option Addr} {m cB : Nat} {r : List Int} (h : Hp R L M) [o : b6 iC b L l L'] (hr : Sl M B (aZ.cells r)) (hm : m = r.length) (hb : l.length + r.length ≤ 1000000000000) (k : ∀ M', Hp R (ay iC b (l ++ r) :: L') M' → K (.tuple #[]) M') :
  aa Tryz.prog 85 #[.pointer (some ⟨b, 0, none⟩), .slice B m cB] M K Kp := by
 refine uV ?_
 have h' := E7 h (b := b)
 clear h
 obtain ⟨A, c, h⟩ := h'
 refine aL h ?_
 have h2 : Hp R (jz A c l :: pt b [.slice A l.length c] 189 :: L') M := h.sub bu
 clear h
 refine h2.uY Lx hr hm (by omega) ?_
 clear h2 hr; intro A' c' M h
 refine aO ?_
 refine au h ?_
 clear h; intro M h
 exact k M (Q8 (h.sub bu))
theorem b9 {n : Int} (h : Hp R L M) [o : b6 iC b L l L'] (hb : l.length + 1 ≤ 1000000000000) (k : ∀ M', Hp R (ay iC b (l ++ [n]) :: L') M' → K (.tuple #[]) M') : aa Tryz.prog 84 #[.pointer (some ⟨b, 0, none⟩), .int .i64 n] M K Kp := by
 refine uU ?_
 replace h := h.pick o.pick
 refine ae h ?_
 clear h
 intro k1 M h
 replace h := (h.pt k1).fQ (E := aZ) (l := [n]) rfl
 refine wU (b := b) (r := [n]) h (h.src (A := some ⟨k1, 0, none⟩) M h) rfl (by simpa using hb) ?_
 clear h; intro M h
 exact ⟨rfl, k M (h.sub bu)⟩
theorem NS {n : Int} {k1 T : Nat} {L0 : List HP} (h : Hp R (pt k1 [.int .i64 n] T :: ay iC b l :: L0) M) (hb : l.length + 1 ≤ 1000000000000) (k : ∀ M', Hp R (ay iC b (l ++ [n]) :: L0) M' → K (.tuple #[]) M') :
  aa Tryz.prog 85 #[.pointer (some ⟨b, 0, none⟩), .slice (some ⟨k1, 0, none⟩) 1 1] M K Kp := by
 replace h := (h.pt k1).fQ (E := aZ) (l := [n]) rfl
 refine wU (b := b) (r := [n]) h (h.src (A := some ⟨k1, 0, none⟩) M h) rfl (by simpa using hb) ?_
 clear h; intro M h
 exact k M (h.sub bu)
theorem yj {xs : List Int} {B : Option Addr} {m cB : Nat} {L0 : List HP} (h : Hp R (ay iC b l :: L0) M) (hB : Src R L0 B (aZ.cells xs)) (hm : m = xs.length) (hb : l.length + (xs.length + 1) ≤ 1000000000000) (k : ∀ M', Hp R (ay iC b (l ++ ((xs.length : Int) :: xs)) :: L0) M' → K (.tuple #[]) M') :
  aa Tryz.prog 91 #[.pointer (some ⟨b, 0, none⟩), .slice B m cB] M K Kp := by
 subst hm
 refine tF ?_
 refine b9 (b := b) h (by omega) ?_
 clear h; intro M h
 refine ⟨rfl, ?_⟩
 refine ⟨fun d ws M => ∃ i : Nat, ws = [.int .i64 (i : Int)] ∧ d = xs.length - i ∧ i ≤ xs.length ∧ Hp R (ay iC b (l ++ ((xs.length : Int) :: xs.take i)) :: L0) M, ⟨_, 0, rfl, rfl, by omega, by simpa using h⟩, ?_⟩
 clear h
 rintro d _ ii M ⟨i, he, hd, hi, h⟩
 simp only [List.cons.injEq, Value.int.injEq, and_true, true_and] at he
 subst he
 refine aJ.2 ⟨fun hlt => ?_, fun hge => k M (by rw [List.take_of_length_le (by omega)] at h; exact h)⟩
 obtain ⟨w, hw⟩ := aM (l := xs) (i := i) (by omega)
 obtain ⟨bb, oo, rfl⟩ := hB.gD h.drop (by omega) (by decide)
 refine ⟨by omega, hlt, bg ?_⟩
 simp only [Int.toNat_natCast]
 refine aR (hB.at h.drop (j := 0) hw rfl (by simp [aZ])) ?_
 refine b9 (b := b) h (by simp only [List.length_append, List.length_cons, List.length_take]; omega) ?_
 clear h; intro M h
 refine ⟨rfl, xs.length - (i + 1), by omega, i + 1, by rw [aQ (by omega)], rfl, by omega, ?_⟩
 rw [bx hw]
 simpa using h
def rE (R : Mem) (L0 : List HP) (b : Nat) (u : Value) (v : Value) (r : List Int) : Prop := ∀ (l : List Int) (M : Mem) (K : Value → Mem → Prop) (Kp : List PanicEntry → Mem → Prop), Hp R (ay iC b l :: L0) M → l.length + r.length ≤ 1000000000000 → (∀ M', Hp R (ay iC b (l ++ r) :: L0) M' → K (.tuple #[]) M') → gr Cx u [v] M K Kp
theorem vf {u : Value} {xs : List Int} {B : Option Addr} {m cB : Nat} {L0 : List HP} (h : Hp R (ay iC b l :: L0) M) (hB : Src R L0 B (aZ.cells xs)) (hm : m = xs.length) (hu : ∀ v ∈ xs, rE R L0 b u (.int .i64 v) [v]) (hb : l.length + (xs.length + 1) ≤ 1000000000000) (k : ∀ M', Hp R (ay iC b (l ++ ((xs.length : Int) :: xs)) :: L0) M' → K (.tuple #[]) M') :
  aa Tryz.prog 92 #[.pointer (some ⟨b, 0, none⟩), .slice B m cB, u] M K Kp := by
 subst hm
 refine tH ?_
 refine b9 (b := b) h (by omega) ?_
 clear h; intro M h
 refine ⟨rfl, ?_⟩
 refine ⟨fun d ws M => ∃ i : Nat, ws = [.int .i64 (i : Int)] ∧ d = xs.length - i ∧ i ≤ xs.length ∧ Hp R (ay iC b (l ++ ((xs.length : Int) :: xs.take i)) :: L0) M, ⟨_, 0, rfl, rfl, by omega, by simpa using h⟩, ?_⟩
 clear h
 rintro d _ ii M ⟨i, he, hd, hi, h⟩
 simp only [List.cons.injEq, Value.int.injEq, and_true, true_and] at he
 subst he
 refine aJ.2 ⟨fun hlt => ?_, fun hge => k M (by rw [List.take_of_length_le (by omega)] at h; exact h)⟩
 obtain ⟨w, hw⟩ := aM (l := xs) (i := i) (by omega)
 obtain ⟨bb, oo, rfl⟩ := hB.gD h.drop (by omega) (by decide)
 refine ⟨by omega, hlt, bg ?_⟩
 simp only [Int.toNat_natCast]
 refine aR (hB.at h.drop (j := 0) hw rfl (by simp [aZ])) ?_
 refine hu w (List.mem_of_getElem? hw) _ M _ _ h (by simp only [List.length_append, List.length_cons, List.length_take, List.length_nil]; omega) ?_
 clear h; intro M h
 refine ⟨rfl, xs.length - (i + 1), by omega, i + 1, by rw [aQ (by omega)], rfl, by omega, ?_⟩
 rw [bx hw]
 simpa using h
def oW (w : Wt) : List Int := [w.g, w.cs, w.v]
def lZ (f : gH) : List Int := [f.fn, f.pc, f.r.getD 0 0, f.r.getD 1 0, f.r.getD 2 0, f.r.getD 3 0, f.r.getD 4 0, f.r.getD 5 0, f.r.getD 6 0, f.r.getD 7 0, f.pF]
def kX (m : zW) : List Int := [m.p, m.g, m.left]
def js (p : dM) : List Int := p.q.next :: ((p.q.l.length : Int) :: p.q.l) ++ [p.turns, p.gW]
theorem sq {u : Value} {xs : List Wt} {B : Option Addr} {m cB : Nat} {L0 : List HP} (h : Hp R (ay iC b l :: L0) M) (hB : Src R L0 B (eG.cells xs)) (hm : m = xs.length) (hu : ∀ w ∈ xs, rE R L0 b u (.agg #[.int .i64 w.g, .int .i64 w.cs, .int .i64 w.v]) (oW w)) (hb : l.length + ((xs.flatMap oW).length + 1) ≤ 1000000000000) (N6 : xs.length ≤ 1000000000)
  (k : ∀ M', Hp R (ay iC b (l ++ ((xs.length : Int) :: xs.flatMap oW)) :: L0) M' → K (.tuple #[]) M') : aa Tryz.prog 135 #[.pointer (some ⟨b, 0, none⟩), .slice B m cB, u] M K Kp := by
 subst hm
 refine mW ?_
 refine b9 (b := b) h (by omega) ?_
 clear h; intro M h
 refine ⟨rfl, ?_⟩
 refine ⟨fun d ws M => ∃ i : Nat, ws = [.int .i64 (i : Int)] ∧ d = xs.length - i ∧ i ≤ xs.length ∧ Hp R (ay iC b (l ++ ((xs.length : Int) :: (xs.take i).flatMap oW)) :: L0) M, ⟨_, 0, rfl, rfl, by omega, by simpa using h⟩, ?_⟩
 clear h
 rintro d _ ii M ⟨i, he, hd, hi, h⟩
 simp only [List.cons.injEq, Value.int.injEq, and_true, true_and] at he
 subst he
 refine aJ.2 ⟨fun hlt => ?_, fun hge => k M (by rw [List.take_of_length_le (by omega)] at h; exact h)⟩
 obtain ⟨w, hw⟩ := aM (l := xs) (i := i) (by omega)
 obtain ⟨bb, oo, rfl⟩ := hB.gD h.drop (by omega) (by decide)
 refine ⟨by omega, hlt, bg ?_⟩
 simp only [Int.toNat_natCast]
 refine aR (hB.at h.drop (i := i) (j := 0) hw rfl (by simp [eG])) ?_
 refine aR (hB.at h.drop (i := i) (j := 1) hw rfl (by simp [eG]; omega)) ?_
 refine aR (hB.at h.drop (i := i) (j := 2) hw rfl (by simp [eG]; omega)) ?_
 refine ae h ?_
 clear h
 intro eH M h
 repeat (refine au h ?_; clear h; intro M h)
 refine aF h (aF h (aF h ?_))
 have yf : ((xs.take (i + 1)).flatMap oW).length ≤ (xs.flatMap oW).length := lY oW xs (i + 1)
 rw [bx hw, List.flatMap_append, List.length_append] at yf
 have e1 : [w].flatMap oW = oW w := by simp
 rw [e1] at yf
 refine hu w (List.mem_of_getElem? hw) _ M _ _ (h.sub bu) (by simp only [List.length_append, List.length_cons]; omega) ?_
 clear h; intro M h
 refine ⟨rfl, xs.length - (i + 1), by omega, i + 1, by rw [aQ (by omega)], rfl, by omega, ?_⟩
 rw [bx hw, List.flatMap_append, e1]
 simpa using h
theorem E8 {u : Value} {xs : List zW} {B : Option Addr} {m cB : Nat} {L0 : List HP} (h : Hp R (ay iC b l :: L0) M) (hB : Src R L0 B (fz.cells xs)) (hm : m = xs.length) (hu : ∀ w ∈ xs, rE R L0 b u (.agg #[.int .i64 w.p, .int .i64 w.g, .int .i64 w.left]) (kX w)) (hb : l.length + ((xs.flatMap kX).length + 1) ≤ 1000000000000) (N6 : xs.length ≤ 1000000000)
  (k : ∀ M', Hp R (ay iC b (l ++ ((xs.length : Int) :: xs.flatMap kX)) :: L0) M' → K (.tuple #[]) M') : aa Tryz.prog 128 #[.pointer (some ⟨b, 0, none⟩), .slice B m cB, u] M K Kp := by
 subst hm
 refine lA ?_
 refine b9 (b := b) h (by omega) ?_
 clear h; intro M h
 refine ⟨rfl, ?_⟩
 refine ⟨fun d ws M => ∃ i : Nat, ws = [.int .i64 (i : Int)] ∧ d = xs.length - i ∧ i ≤ xs.length ∧ Hp R (ay iC b (l ++ ((xs.length : Int) :: (xs.take i).flatMap kX)) :: L0) M, ⟨_, 0, rfl, rfl, by omega, by simpa using h⟩, ?_⟩
 clear h
 rintro d _ ii M ⟨i, he, hd, hi, h⟩
 simp only [List.cons.injEq, Value.int.injEq, and_true, true_and] at he
 subst he
 refine aJ.2 ⟨fun hlt => ?_, fun hge => k M (by rw [List.take_of_length_le (by omega)] at h; exact h)⟩
 obtain ⟨w, hw⟩ := aM (l := xs) (i := i) (by omega)
 obtain ⟨bb, oo, rfl⟩ := hB.gD h.drop (by omega) (by decide)
 refine ⟨by omega, hlt, bg ?_⟩
 simp only [Int.toNat_natCast]
 refine aR (hB.at h.drop (i := i) (j := 0) hw rfl (by simp [fz])) ?_
 refine aR (hB.at h.drop (i := i) (j := 1) hw rfl (by simp [fz]; omega)) ?_
 refine aR (hB.at h.drop (i := i) (j := 2) hw rfl (by simp [fz]; omega)) ?_
 refine ae h ?_
 clear h
 intro eH M h
 repeat (refine au h ?_; clear h; intro M h)
 refine aF h (aF h (aF h ?_))
 have yf : ((xs.take (i + 1)).flatMap kX).length ≤ (xs.flatMap kX).length := lY kX xs (i + 1)
 rw [bx hw, List.flatMap_append, List.length_append] at yf
 have e1 : [w].flatMap kX = kX w := by simp
 rw [e1] at yf
 refine hu w (List.mem_of_getElem? hw) _ M _ _ (h.sub bu) (by simp only [List.length_append, List.length_cons]; omega) ?_
 clear h; intro M h
 refine ⟨rfl, xs.length - (i + 1), by omega, i + 1, by rw [aQ (by omega)], rfl, by omega, ?_⟩
 rw [bx hw, List.flatMap_append, e1]
 simpa using h
theorem Km {u : Value} {xs : List gH} {B : Option Addr} {m cB : Nat} {L0 : List HP} (h : Hp R (ay iC b l :: L0) M) (hB : Src R L0 B (fF.cells xs)) (hm : m = xs.length) (hu : ∀ w ∈ xs, rE R L0 b u (.agg (Pr w).toArray) (lZ w)) (hb : l.length + ((xs.flatMap lZ).length + 1) ≤ 1000000000000) (N6 : xs.length ≤ 1000000000)
  (k : ∀ M', Hp R (ay iC b (l ++ ((xs.length : Int) :: xs.flatMap lZ)) :: L0) M' → K (.tuple #[]) M') : aa Tryz.prog 131 #[.pointer (some ⟨b, 0, none⟩), .slice B m cB, u] M K Kp := by
 subst hm
 refine mz ?_
 refine b9 (b := b) h (by omega) ?_
 clear h; intro M h
 refine ⟨rfl, ?_⟩
 refine ⟨fun d ws M => ∃ i : Nat, ws = [.int .i64 (i : Int)] ∧ d = xs.length - i ∧ i ≤ xs.length ∧ Hp R (ay iC b (l ++ ((xs.length : Int) :: (xs.take i).flatMap lZ)) :: L0) M, ⟨_, 0, rfl, rfl, by omega, by simpa using h⟩, ?_⟩
 clear h
 rintro d _ ii M ⟨i, he, hd, hi, h⟩
 simp only [List.cons.injEq, Value.int.injEq, and_true, true_and] at he
 subst he
 refine aJ.2 ⟨fun hlt => ?_, fun hge => k M (by rw [List.take_of_length_le (by omega)] at h; exact h)⟩
 obtain ⟨w, hw⟩ := aM (l := xs) (i := i) (by omega)
 obtain ⟨bb, oo, rfl⟩ := hB.gD h.drop (by omega) (by decide)
 refine ⟨by omega, hlt, bg ?_⟩
 simp only [Int.toNat_natCast]
 refine aR (hB.at h.drop (i := i) (j := 0) hw rfl (by simp [fF])) ?_
 refine aR (hB.at h.drop (i := i) (j := 1) hw rfl (by simp [fF]; omega)) ?_
 refine aR (hB.at h.drop (i := i) (j := 2) hw rfl (by simp [fF]; omega)) ?_
 refine aR (hB.at h.drop (i := i) (j := 3) hw rfl (by simp [fF]; omega)) ?_
 refine aR (hB.at h.drop (i := i) (j := 4) hw rfl (by simp [fF]; omega)) ?_
 refine aR (hB.at h.drop (i := i) (j := 5) hw rfl (by simp [fF]; omega)) ?_
 refine aR (hB.at h.drop (i := i) (j := 6) hw rfl (by simp [fF]; omega)) ?_
 refine aR (hB.at h.drop (i := i) (j := 7) hw rfl (by simp [fF]; omega)) ?_
 refine aR (hB.at h.drop (i := i) (j := 8) hw rfl (by simp [fF]; omega)) ?_
 refine aR (hB.at h.drop (i := i) (j := 9) hw rfl (by simp [fF]; omega)) ?_
 refine aR (hB.at h.drop (i := i) (j := 10) hw rfl (by simp [fF]; omega)) ?_
 refine ae h ?_
 clear h
 intro eH M h
 repeat (refine au h ?_; clear h; intro M h)
 iterate 11 refine aF h ?_
 have yf : ((xs.take (i + 1)).flatMap lZ).length ≤ (xs.flatMap lZ).length := lY lZ xs (i + 1)
 rw [bx hw, List.flatMap_append, List.length_append] at yf
 have e1 : [w].flatMap lZ = lZ w := by simp
 rw [e1] at yf
 refine hu w (List.mem_of_getElem? hw) _ M _ _ (h.sub bu) (by simp only [List.length_append, List.length_cons]; omega) ?_
 clear h; intro M h
 refine ⟨rfl, xs.length - (i + 1), by omega, i + 1, by rw [aQ (by omega)], rfl, by omega, ?_⟩
 rw [bx hw, List.flatMap_append, e1]
 simpa using h
theorem BH {u : Value} {ps : List dM} {vs : List (Int × (Option Addr × Nat × Nat) × Int × Int)} {B : Option Addr} {m cB : Nat} {L0 : List HP} (h : Hp R (ay iC b l :: L0) M) (hB : Src R L0 B (RY.cells vs)) (hm : m = ps.length) (hv : uc R vs ps)
  (hu : ∀ v pr, View R v pr → pr ∈ ps → rE R L0 b u (.agg #[.int .i64 v.1, .slice v.2.1.1 v.2.1.2.1 v.2.1.2.2, .int .i64 v.2.2.1, .int .i64 v.2.2.2]) (js pr)) (hb : l.length + ((ps.flatMap js).length + 1) ≤ 1000000000000) (N6 : ps.length ≤ 1000000000)
  (k : ∀ M', Hp R (ay iC b (l ++ ((ps.length : Int) :: ps.flatMap js)) :: L0) M' → K (.tuple #[]) M') : aa Tryz.prog 125 #[.pointer (some ⟨b, 0, none⟩), .slice B m cB, u] M K Kp := by
 subst hm
 refine ke ?_
 refine b9 (b := b) h (by omega) ?_
 clear h; intro M h
 refine ⟨rfl, ?_⟩
 refine ⟨fun d ws M => ∃ i : Nat, ws = [.int .i64 (i : Int)] ∧ d = ps.length - i ∧ i ≤ ps.length ∧ Hp R (ay iC b (l ++ ((ps.length : Int) :: (ps.take i).flatMap js)) :: L0) M, ⟨_, 0, rfl, rfl, by omega, by simpa using h⟩, ?_⟩
 clear h
 rintro d _ ii M ⟨i, he, hd, hi, h⟩
 simp only [List.cons.injEq, Value.int.injEq, and_true, true_and] at he
 subst he
 refine aJ.2 ⟨fun hlt => ?_, fun hge => k M (by rw [List.take_of_length_le (by omega)] at h; exact h)⟩
 have hvl := hv.1
 obtain ⟨pr, kG⟩ := aM (l := ps) (i := i) (by omega)
 obtain ⟨v, hw⟩ := aM (l := vs) (i := i) (by omega)
 obtain ⟨bb, oo, rfl⟩ := hB.gD h.drop (by omega) (by decide)
 refine ⟨by omega, hlt, bg ?_⟩
 simp only [Int.toNat_natCast]
 refine aR (hB.at h.drop (i := i) (j := 0) hw rfl (by simp [RY])) ?_
 refine Ef (hB.at h.drop (i := i) (j := 1) hw rfl (by simp [RY]; omega)) ?_
 refine aR (hB.at h.drop (i := i) (j := 2) hw rfl (by simp [RY]; omega)) ?_
 refine aR (hB.at h.drop (i := i) (j := 3) hw rfl (by simp [RY]; omega)) ?_
 refine ae h ?_
 clear h
 intro eH M h
 repeat (refine au h ?_; clear h; intro M h)
 refine aF h (aL h (aF h (aF h ?_)))
 have yf : ((ps.take (i + 1)).flatMap js).length ≤ (ps.flatMap js).length := lY js ps (i + 1)
 rw [bx kG, List.flatMap_append, List.length_append] at yf
 have e1 : [pr].flatMap js = js pr := by simp
 rw [e1] at yf
 refine hu v pr (hv.2 i v pr hw kG) (List.mem_of_getElem? kG) _ M _ _ (h.sub bu) (by simp only [List.length_append, List.length_cons]; omega) ?_
 clear h; intro M h
 refine ⟨rfl, ps.length - (i + 1), by omega, i + 1, by rw [aQ (by omega)], rfl, by omega, ?_⟩
 rw [bx kG, List.flatMap_append, e1]
 simpa using h
end
section
variable {R : Mem} {L L' : List HP} {M : Mem} {K : Value → Mem → Prop} {Kp : List PanicEntry → Mem → Prop} {b : Nat} {l : List Int}
theorem HF {k3 : Nat} {L0 : List HP} (hk : ∀ M, Hp R L0 M → M.ld ⟨k3, 0, none⟩ = some (.pointer (some ⟨b, 0, none⟩))) (v : Int) : rE R L0 b (.func (.func 93) #[] #[.pointer (some ⟨k3, 0, none⟩)]) (.int .i64 v) [v] := by
 intro l M K Kp h hb k
 refine lJ (args := [.int .i64 v]) ⟨by decide, by show _ < 255; decide⟩ ?_
 refine zw ?_
 refine gQ (hk M h.drop) ?_
 refine ae h ?_
 clear h
 intro k2 M h
 refine NS h (by simpa using hb) ?_
 clear h; intro M h
 exact ⟨rfl, k M h⟩
theorem BI {k3 : Nat} {L0 : List HP} (hk : ∀ M, Hp R L0 M → M.ld ⟨k3, 0, none⟩ = some (.pointer (some ⟨b, 0, none⟩))) (v : Int) : rE R L0 b (.func (.func 134) #[] #[.pointer (some ⟨k3, 0, none⟩)]) (.int .i64 v) [v] := by
 intro l M K Kp h hb k
 refine lJ (args := [.int .i64 v]) ⟨by decide, by show _ < 255; decide⟩ ?_
 refine mV ?_
 refine gQ (hk M h.drop) ?_
 refine ae h ?_
 clear h
 intro k2 M h
 refine NS h (by simpa using hb) ?_
 clear h; intro M h
 exact ⟨rfl, k M h⟩
theorem oX {L0 : List HP} (w : Wt) : rE R L0 b (.func (.func 136) #[.pointer (some ⟨b, 0, none⟩)] #[]) (.agg #[.int .i64 w.g, .int .i64 w.cs, .int .i64 w.v]) (oW w) := by
 intro l M K Kp h hb k
 have hb : l.length + 3 ≤ 1000000000000 := hb
 refine ku (args := [.agg #[.int .i64 w.g, .int .i64 w.cs, .int .i64 w.v]]) ⟨by decide, by show _ < 255; decide⟩ ?_
 refine tG ?_
 refine ae h ?_
 clear h
 intro k1 M h
 refine aF h ?_
 refine b9 (b := b) h (by omega) ?_
 clear h; intro M h
 refine ⟨rfl, aF h ?_⟩
 refine b9 (b := b) h (by simp; omega) ?_
 clear h; intro M h
 refine ⟨rfl, aF h ?_⟩
 refine ae h ?_
 clear h
 intro c6 M h
 have h2 : Hp R (pt c6 [.int .i64 w.v] 2 :: ay iC b (l ++ [w.g] ++ [w.cs]) :: L0) M := h.sub bu
 clear h
 refine NS h2 (by simp; omega) ?_
 clear h2; intro M h
 refine ⟨rfl, k M ?_⟩
 simpa [oW] using h
theorem HG {L0 : List HP} (w : gH) : rE R L0 b (.func (.func 133) #[.pointer (some ⟨b, 0, none⟩)] #[]) (.agg (Pr w).toArray) (lZ w) := by
 intro l M K Kp h hb k
 have hb : l.length + 11 ≤ 1000000000000 := hb
 refine ku (args := [.agg (Pr w).toArray]) ⟨by decide, by show _ < 255; decide⟩ ?_
 refine qP ?_
 refine ae h ?_
 clear h
 intro k1 M h
 refine aF h ?_
 refine b9 (b := b) h (by omega) ?_
 clear h; intro M h
 refine ⟨rfl, aF h ?_⟩
 refine b9 (b := b) h (by simp; omega) ?_
 clear h; intro M h
 refine ⟨rfl, by decide, by decide, by decide, by decide, by decide, by decide, ?_⟩
 have hsl : Sl M (kP (some ⟨k1, 0 + 2, none⟩) 0 8 1) (aZ.cells [w.r.getD 0 0, w.r.getD 1 0, w.r.getD 2 0, w.r.getD 3 0, w.r.getD 4 0, w.r.getD 5 0, w.r.getD 6 0, w.r.getD 7 0]) := by
  have e : kP (some ⟨k1, 0 + 2, none⟩) 0 8 1 = some ⟨k1, 2, none⟩ := by
   unfold kP; rw [if_neg (by omega)]; rfl
  rw [e]
  intro q hq
  have hq8 : q < 8 := by simpa [aZ, fO.cells] using hq
  obtain rfl | rfl | rfl | rfl | rfl | rfl | rfl | rfl : q = 0 ∨ q = 1 ∨ q = 2 ∨ q = 3 ∨ q = 4 ∨ q = 5 ∨ q = 6 ∨ q = 7 := by omega
  ·exact (bN h : M.ld ⟨k1, 0 + 2, none⟩ = _)
  ·exact (bN h : M.ld ⟨k1, 0 + 3, none⟩ = _)
  ·exact (bN h : M.ld ⟨k1, 0 + 4, none⟩ = _)
  ·exact (bN h : M.ld ⟨k1, 0 + 5, none⟩ = _)
  ·exact (bN h : M.ld ⟨k1, 0 + 6, none⟩ = _)
  ·exact (bN h : M.ld ⟨k1, 0 + 7, none⟩ = _)
  ·exact (bN h : M.ld ⟨k1, 0 + 8, none⟩ = _)
  ·exact (bN h : M.ld ⟨k1, 0 + 9, none⟩ = _)
 refine wU (b := b) (r := [w.r.getD 0 0, w.r.getD 1 0, w.r.getD 2 0, w.r.getD 3 0, w.r.getD 4 0, w.r.getD 5 0, w.r.getD 6 0, w.r.getD 7 0]) h hsl rfl (by simp; omega) ?_
 clear hsl
 clear h; intro M h
 refine ⟨rfl, aF h ?_⟩
 refine b9 (b := b) h (by simp; omega) ?_
 clear h; intro M h
 refine ⟨rfl, k M ?_⟩
 have h2 := h.sub (T := ay iC b (l ++ [w.fn] ++ [w.pc] ++ [w.r.getD 0 0, w.r.getD 1 0, w.r.getD 2 0, w.r.getD 3 0, w.r.getD 4 0, w.r.getD 5 0, w.r.getD 6 0, w.r.getD 7 0] ++ [w.pF]) :: L0) bu
 simpa [lZ] using h2
theorem CM {k3 : Nat} {L0 : List HP} (hk : ∀ M, Hp R L0 M → M.ld ⟨k3, 0, none⟩ = some (.pointer (some ⟨b, 0, none⟩))) (w : zW) : rE R L0 b (.func (.func 130) #[] #[.pointer (some ⟨k3, 0, none⟩)]) (.agg #[.int .i64 w.p, .int .i64 w.g, .int .i64 w.left]) (kX w) := by
 intro l M K Kp h hb k
 have hb : l.length + 3 ≤ 1000000000000 := hb
 refine lJ (args := [.agg #[.int .i64 w.p, .int .i64 w.g, .int .i64 w.left]]) ⟨by decide, by show _ < 255; decide⟩ ?_
 refine xN ?_
 refine ae h ?_
 clear h
 intro k1 M h
 refine gQ (hk M h.drop.drop) (aF h ?_)
 refine b9 (b := b) h (by omega) ?_
 clear h; intro M h
 refine ⟨rfl, gQ (hk M h.drop.drop) (aF h ?_)⟩
 refine b9 (b := b) h (by simp; omega) ?_
 clear h; intro M h
 refine ⟨rfl, gQ (hk M h.drop.drop) (aF h ?_)⟩
 refine b9 (b := b) h (by simp; omega) ?_
 clear h; intro M h
 refine ⟨rfl, k M ?_⟩
 have h2 := h.sub (T := ay iC b (l ++ [w.p] ++ [w.g] ++ [w.left]) :: L0) bu
 simpa [kX] using h2
theorem zC {k3 : Nat} {L0 : List HP} (hk : ∀ M, Hp R L0 M → M.ld ⟨k3, 0, none⟩ = some (.pointer (some ⟨b, 0, none⟩))) {v : Int × (Option Addr × Nat × Nat) × Int × Int} {pr : dM} (hv : View R v pr) : rE R L0 b (.func (.func 127) #[] #[.pointer (some ⟨k3, 0, none⟩)]) (.agg #[.int .i64 v.1, .slice v.2.1.1 v.2.1.2.1 v.2.1.2.2, .int .i64 v.2.2.1, .int .i64 v.2.2.2]) (js pr) := by
 intro l M K Kp h hb k
 obtain ⟨v1, v2, v3, v4, v5⟩ := hv
 rw [v1, v2, v4, v5]
 have hb : l.length + (pr.q.l.length + 4) ≤ 1000000000000 := by simpa [js] using hb
 refine lJ (args := [.agg #[.int .i64 pr.q.next, .slice v.2.1.1 pr.q.l.length v.2.1.2.2, .int .i64 pr.turns, .int .i64 pr.gW]]) ⟨by decide, by show _ < 255; decide⟩ ?_
 refine xM ?_
 refine ae h ?_
 clear h
 intro k1 M h
 refine gQ (hk M h.drop.drop) (aF h ?_)
 refine b9 (b := b) h (by omega) ?_
 clear h; intro M h
 refine ⟨rfl, gQ (hk M h.drop.drop) (aL h ?_)⟩
 refine yj (xs := pr.q.l) h v3.src rfl (by simp; omega) ?_
 clear h; intro M h
 refine ⟨rfl, gQ (hk M h.drop.drop) (aF h ?_)⟩
 refine b9 (b := b) h (by simp; omega) ?_
 clear h; intro M h
 refine ⟨rfl, gQ (hk M h.drop.drop) (aF h ?_)⟩
 refine b9 (b := b) h (by simp; omega) ?_
 clear h; intro M h
 refine ⟨rfl, k M ?_⟩
 have h2 := h.sub (T := ay iC b (l ++ [pr.q.next] ++ ((pr.q.l.length : Int) :: pr.q.l) ++ [pr.turns] ++ [pr.gW]) :: L0) bu
 simpa [js] using h2
def rF (c : aV) : List Int := (if c.closed then 1 else 0) :: ((c.buf.length : Int) :: c.buf) ++ ((c.snd.length : Int) :: c.snd.flatMap oW) ++ ((c.dF.length : Int) :: c.dF.flatMap oW)
theorem nT (xs : List Wt) : (xs.flatMap oW).length = 3 * xs.length := by
 induction xs with
 | nil => rfl
 | cons a l ih => simp only [List.flatMap_cons, List.length_append, ih, List.length_cons]; simp [oW]; omega
theorem E9 {c : aV} {A B D : Option Addr} {ca cb cd : Nat} {L0 : List HP} (h : Hp R (ay iC b l :: L0) M) (hs : c.Small 1000000) (hA : Src R L0 A (aZ.cells c.buf)) (hB : Src R L0 B (eG.cells c.snd)) (hD : Src R L0 D (eG.cells c.dF)) (hb : l.length + (rF c).length ≤ 1000000000000)
  (k : ∀ M', Hp R (ay iC b (l ++ rF c) :: L0) M' → K (.tuple #[]) M') : aa Tryz.prog 88 #[.pointer (some ⟨b, 0, none⟩), .agg #[.slice A c.buf.length ca, .slice B c.snd.length cb, .slice D c.dF.length cd, .bool c.closed]] M K Kp := by
 refine oN ?_
 obtain ⟨s1, s2, s3⟩ := hs
 have hb' : l.length + (4 + c.buf.length + 3 * c.snd.length + 3 * c.dF.length) ≤ 1000000000000 := by
  simp only [rF, List.length_append, List.length_cons, nT] at hb; omega
 refine ae h ?_
 clear h
 intro k1 M h
 refine ae h ?_
 clear h
 intro k3 M h
 have d2 : ∀ M, Hp R (pt k3 [.slice A c.buf.length ca, .slice B c.snd.length cb, .slice D c.dF.length cd, .bool c.closed] 197 :: pt k1 [.pointer (some ⟨b, 0, none⟩)] 187 :: L0) M → M.ld ⟨k1, 0, none⟩ = some (.pointer (some ⟨b, 0, none⟩)) := fun M h => bN h
 have sA : Src R (pt k3 [.slice A c.buf.length ca, .slice B c.snd.length cb, .slice D c.dF.length cd, .bool c.closed] 197 :: pt k1 [.pointer (some ⟨b, 0, none⟩)] 187 :: L0) A (aZ.cells c.buf) := fun M h => hA M h.drop.drop
 have sB : Src R (pt k3 [.slice A c.buf.length ca, .slice B c.snd.length cb, .slice D c.dF.length cd, .bool c.closed] 197 :: pt k1 [.pointer (some ⟨b, 0, none⟩)] 187 :: L0) B (eG.cells c.snd) := fun M h => hB M h.drop.drop
 have sD : Src R (pt k3 [.slice A c.buf.length ca, .slice B c.snd.length cb, .slice D c.dF.length cd, .bool c.closed] 197 :: pt k1 [.pointer (some ⟨b, 0, none⟩)] 187 :: L0) D (eG.cells c.dF) := fun M h => hD M h.drop.drop
 refine F6 h ?_
 cases QN : c.closed
 ·refine aj (dG h ?_)
  refine ae h ?_
  clear h
  intro k7 M h
  have h2 : Hp R (pt k7 [.int .i64 0] 2 :: ay iC b l :: pt k3 [.slice A c.buf.length ca, .slice B c.snd.length cb, .slice D c.dF.length cd, .bool c.closed] 197 :: pt k1 [.pointer (some ⟨b, 0, none⟩)] 187 :: L0) M := h.sub bu
  clear h
  refine NS h2 (by omega) ?_
  clear h2; intro M h
  refine ⟨rfl, dG h (aL h ?_)⟩
  refine vf (xs := c.buf) h sA rfl (fun v _ => BI d2 v) (by simp only [List.length_append, List.length_cons, List.length_nil]; omega) ?_
  clear h; intro M h
  refine ⟨rfl, dG h (aL h (dG h ?_))⟩
  refine sq (xs := c.snd) h sB rfl (fun w _ => oX w) (by simp only [List.length_append, List.length_cons, List.length_nil, nT]; omega) (by omega) ?_
  clear h; intro M h
  refine ⟨rfl, dG h (aL h (dG h ?_))⟩
  refine sq (xs := c.dF) h sD rfl (fun w _ => oX w) (by simp only [List.length_append, List.length_cons, List.length_nil, nT]; omega) (by omega) ?_
  clear h; intro M h
  refine ⟨rfl, k M ?_⟩
  have h3 : Hp R (ay iC b (l ++ [0] ++ ((c.buf.length : Int) :: c.buf) ++ ((c.snd.length : Int) :: c.snd.flatMap oW) ++ ((c.dF.length : Int) :: c.dF.flatMap oW)) :: L0) M := h.sub bu
  simpa [rF, QN] using h3
 ·refine ai (dG h ?_)
  refine ae h ?_
  clear h
  intro k7 M h
  have h2 : Hp R (pt k7 [.int .i64 1] 2 :: ay iC b l :: pt k3 [.slice A c.buf.length ca, .slice B c.snd.length cb, .slice D c.dF.length cd, .bool c.closed] 197 :: pt k1 [.pointer (some ⟨b, 0, none⟩)] 187 :: L0) M := h.sub bu
  clear h
  refine NS h2 (by omega) ?_
  clear h2; intro M h
  refine ⟨rfl, dG h (aL h ?_)⟩
  refine vf (xs := c.buf) h sA rfl (fun v _ => BI d2 v) (by simp only [List.length_append, List.length_cons, List.length_nil]; omega) ?_
  clear h; intro M h
  refine ⟨rfl, dG h (aL h (dG h ?_))⟩
  refine sq (xs := c.snd) h sB rfl (fun w _ => oX w) (by simp only [List.length_append, List.length_cons, List.length_nil, nT]; omega) (by omega) ?_
  clear h; intro M h
  refine ⟨rfl, dG h (aL h (dG h ?_))⟩
  refine sq (xs := c.dF) h sD rfl (fun w _ => oX w) (by simp only [List.length_append, List.length_cons, List.length_nil, nT]; omega) (by omega) ?_
  clear h; intro M h
  refine ⟨rfl, k M ?_⟩
  have h3 : Hp R (ay iC b (l ++ [1] ++ ((c.buf.length : Int) :: c.buf) ++ ((c.snd.length : Int) :: c.snd.flatMap oW) ++ ((c.dF.length : Int) :: c.dF.flatMap oW)) :: L0) M := h.sub bu
  simpa [rF, QN] using h3
end
theorem sr {b : Nat} : ∀ (n : Nat) (l : List Int), (∀ g ∈ l, 0 ≤ g ∧ g < (n : Int)) → (∀ g, l.count g ≤ b) → l.length ≤ b * n
 | 0, l, h, _ => by
  cases l with
  | nil => simp
  | cons a l => have := h a (by simp); omega
 | n + 1, l, h, hc => by
  have h1 : (l.filter (fun g => g != (n : Int))).length ≤ b * n := by
   refine sr n _ (fun g hg => ?_) (fun g => ?_)
   ·obtain ⟨hm, hne⟩ := List.mem_filter.1 hg
    have := h g hm
    simp at hne
    omega
   ·exact Nat.le_trans (List.Sublist.count_le _ List.filter_sublist) (hc g)
  have h2 : l.length = l.count (n : Int) + (l.filter (fun g => g != (n : Int))).length := by
   have := List.length_eq_countP_add_countP (l := l) (fun g => g == (n : Int))
   rw [this, List.count, List.countP_eq_length_filter (p := fun a => decide ¬(a == (n : Int)) = true)]
   congr 2
   apply List.filter_congr
   intro a _
   cases h : (a == (n : Int)) <;> simp_all
  have := hc (n : Int)
  rw [h2, Nat.mul_succ]; omega
theorem mQ {α : Type} (f : α → Nat) : ∀ (l : List α) (k : Nat) (c d : α), l[k]? = some d → ((l.set k c).map f).sum + f d = (l.map f).sum + f c
 | [], k, c, d, h => by simp at h
 | a :: l, 0, c, d, h => by simp at h; subst h; simp; omega
 | a :: l, k + 1, c, d, h => by
  have := mQ f l k c d (by simpa using h)
  simp only [List.set_cons_succ, List.map_cons, List.sum_cons]; omega
theorem BJ {α : Type} (f : α → Nat) : ∀ (l : List α), (l.map f).sum = 0 → ∀ a ∈ l, f a = 0
 | [], _, a, h => by cases h
 | b :: l, hs, a, h => by
  simp only [List.map_cons, List.sum_cons] at hs
  rcases List.mem_cons.1 h with rfl | h
  ·omega
  ·exact BJ f l (by omega) a h
theorem BK {α : Type} (f : α → Nat) : ∀ (l : List α) (a : α), a ∈ l → f a ≤ (l.map f).sum
 | b :: l, a, h => by
  simp only [List.map_cons, List.sum_cons]
  rcases List.mem_cons.1 h with rfl | h
  ·omega
  ·have := BK f l a h; omega
theorem rG {α : Type} (f : α → Nat) : ∀ (l : List α), (∀ a ∈ l, f a = 0) → (l.map f).sum = 0
 | [], _ => rfl
 | b :: l, h => by
  simp only [List.map_cons, List.sum_cons]
  rw [h b (by simp), rG f l fun a ha => h a (by simp [ha])]
def dk (c : aV) : List Int := c.snd.map Wt.g ++ c.dF.map Wt.g
def cu (cs : List aV) (g : Int) : Nat := (cs.map fun c => (dk c).count g).sum
def hJ (ls : List Lk) (g : Int) : Nat := (ls.map fun l => l.waits.count g).sum
def Fa (hl : List bA) (g : Int) : Nat := (hl.map bA.id).count g
def nU (x : Wd) (g : Int) : Prop := (∀ c ∈ x.aB, g ∉ dk c) ∧ (∀ l ∈ x.aI, g ∉ l.waits) ∧ ∀ y ∈ x.hl, y.id ≠ g
theorem wV {cs : List aV} {g : Int} : cu cs g = 0 ↔ ∀ c ∈ cs, g ∉ dk c := by
 constructor
 ·intro h c hc
  exact List.count_eq_zero.1 (BJ _ cs h c hc)
 ·intro h
  exact rG _ cs fun c hc => List.count_eq_zero.2 (h c hc)
theorem z0 {ls : List Lk} {g : Int} : hJ ls g = 0 ↔ ∀ l ∈ ls, g ∉ l.waits := by
 constructor
 ·intro h c hc
  exact List.count_eq_zero.1 (BJ _ ls h c hc)
 ·intro h
  exact rG _ ls fun c hc => List.count_eq_zero.2 (h c hc)
def At (x : Wd) (g s : Int) : Prop := 0 ≤ g ∧ g < x.gs.length ∧ (aq x g).st = s
def kY (p : cv) (f : List cQ) (i : cQ) : Prop := 0 ≤ i.op ∧ i.op < 23 ∧ i.cN ∧ (i.op = 7 → 0 ≤ i.a ∧ i.a < f.length) ∧ (i.op = 8 → 0 ≤ i.b ∧ i.b < f.length) ∧
 (i.op = 9 ∨ i.op = 11 → 0 ≤ i.a ∧ i.a < p.funcs.length ∧ bj i.b ∧ bj i.c) ∧ (i.op = 10 ∨ i.op = 17 ∨ i.op = 20 ∨ i.op = 21 → bj i.a) ∧
 (i.op = 13 ∨ i.op = 14 ∨ i.op = 15 → 0 ≤ i.a ∧ i.a < p.dS.length) ∧ (i.op = 13 ∨ i.op = 14 → bj i.b) ∧ (i.op = 14 ∨ i.op = 16 → bj i.c) ∧
 (i.op = 16 → 0 ≤ i.a ∧ 1 ≤ i.b ∧ i.a + i.b ≤ p.cases.length) ∧ (i.op = 18 ∨ i.op = 19 → 0 ≤ i.a ∧ i.a < p.aI) ∧ (i.op = 21 → 1 ≤ i.b ∧ i.b < 1099511627776)
structure gf (p : cv) : Prop where
 f1 : 0 < p.funcs.length
 ch : p.dS.length ≤ 8
 lk : 0 ≤ p.aI ∧ p.aI ≤ 8
 cs : p.cases.length ≤ 32
 cas : ∀ c ∈ p.cases, c.Ok p.dS.length ∧ bj c.bS
 code : ∀ f ∈ p.funcs, 0 < f.length ∧ f.length ≤ 64 ∧ ∀ i ∈ f, kY p f i
def HH (p : cv) (f : gH) : Prop := 0 ≤ f.fn ∧ f.fn < p.funcs.length ∧ 0 ≤ f.pc ∧ f.pc ≤ 64 ∧ bj f.pF
structure pV (p : cv) (y : jt) : Prop where
 l1 : 0 < y.fs.length
 l2 : y.fs.length ≤ 16
 fr : ∀ f ∈ y.fs, HH p f
 wt : y.st = 2 → ∃ f ∈ p.funcs, kY p f y.wt
 st : 1 ≤ y.st ∧ y.st ≤ 4
structure WV (p : cv) (x : Wd) : Prop where
 n1 : 0 < x.gs.length
 n2 : x.gs.length ≤ 100
 DR : ∀ y ∈ x.gs, pV p y
 ch : x.aB.length = p.dS.length
 lk : (x.aI.length : Int) = p.aI
 buf : ∀ c ∈ x.aB, c.buf.length ≤ c.room ∧ c.room ≤ 16
 dF : ∀ c ∈ x.aB, ∀ v ∈ c.dF, At x v.g 2 ∧ ((aq x v.g).wt.op = 14 ∨ (aq x v.g).wt.op = 16 ∧ 0 ≤ v.cs ∧ v.cs < (aq x v.g).wt.b)
 snd : ∀ c ∈ x.aB, ∀ v ∈ c.snd, At x v.g 2 ∧ ((aq x v.g).wt.op = 13 ∨ (aq x v.g).wt.op = 16 ∧ 0 ≤ v.cs ∧ v.cs < (aq x v.g).wt.b)
 lw : ∀ l ∈ x.aI, ∀ g ∈ l.waits, At x g 2 ∧ (aq x g).wt.op = 18
 hl : ∀ y ∈ x.hl, At x y.id 3
 one : ∀ g, 0 ≤ g → (aq x g).wt.op ≠ 16 → cu x.aB g + hJ x.aI g ≤ 1
 EZ : ∀ g, cu x.aB g ≤ 32
 h1 : ∀ g, Fa x.hl g ≤ 1
 out : x.out.length ≤ 1000
section
variable {p : cv} {x : Wd} {g : Int}
theorem WV.TZ (h : WV p x) {c : aV} (hc : c ∈ x.aB) {q : Int} (hq : q ∈ dk c) : At x q 2 ∧ ((aq x q).wt.op = 13 ∨ (aq x q).wt.op = 14 ∨ (aq x q).wt.op = 16) := by
 unfold dk at hq
 rcases List.mem_append.1 hq with hq | hq
 ·obtain ⟨v, hv, rfl⟩ := List.mem_map.1 hq
  obtain ⟨a, b⟩ := h.snd c hc v hv
  exact ⟨a, by rcases b with b | b; exact .inl b; exact .inr (.inr b.1)⟩
 ·obtain ⟨v, hv, rfl⟩ := List.mem_map.1 hq
  obtain ⟨a, b⟩ := h.dF c hc v hv
  exact ⟨a, by rcases b with b | b; exact .inr (.inl b); exact .inr (.inr b.1)⟩
theorem WV.free (h : WV p x) (h2 : (aq x g).st ≠ 2) (h3 : (aq x g).st ≠ 3) : nU x g :=
 ⟨fun c hc hg => h2 (h.TZ hc hg).1.2.2, fun l hl hg => h2 (h.lw l hl g hg).1.2.2, fun y hy e => h3 (by have := (h.hl y hy).2.2; rwa [e] at this)⟩
theorem WV.Ly (h : WV p x) {c : aV} (hc : c ∈ x.aB) : (dk c).length ≤ 3200 := by
 have h1 := sr (b := 32) x.gs.length (dk c) (fun q hq => ⟨(h.TZ hc hq).1.1, (h.TZ hc hq).1.2.1⟩) (fun q => Nat.le_trans (BK (fun c => (dk c).count q) x.aB c hc) (h.EZ q))
 have := h.n2
 omega
theorem WV.Y1 (h : WV p x) {l : Lk} (hl : l ∈ x.aI) : l.waits.length ≤ 100 := by
 have h1 := sr (b := 1) x.gs.length l.waits (fun q hq => ⟨(h.lw l hl q hq).1.1, (h.lw l hl q hq).1.2.1⟩) (fun q => by
  by_cases hq : q ∈ l.waits
  ·have := h.one q (h.lw l hl q hq).1.1 (by rw [(h.lw l hl q hq).2]; decide)
   have := BK (fun l : Lk => l.waits.count q) x.aI l hl
   unfold hJ at *
   omega
  ·rw [List.count_eq_zero.2 hq]; omega)
 have := h.n2
 omega
theorem WV.Lz (h : WV p x) : x.hl.length ≤ 100 := by
 have h1 := sr (b := 1) x.gs.length (x.hl.map bA.id) (fun q hq => by
  obtain ⟨y, hy, rfl⟩ := List.mem_map.1 hq
  exact ⟨(h.hl y hy).1, (h.hl y hy).2.1⟩) h.h1
 rw [List.length_map] at h1
 have := h.n2
 omega
theorem WV.sm (h : WV p x) (hp : gf p) (hr : x.ready.length ≤ 1000000) : x.Sm := by
 refine ⟨fun c hc => ?_, by have := h.ch; have := hp.ch; omega, by have := h.n2; omega, hr, by have := h.out; omega, fun l hl => by have := h.Y1 hl; omega, by have := h.lk; have := hp.lk; omega, by have := h.Lz; omega⟩
 have h1 := h.Ly hc
 unfold dk at h1
 rw [List.length_append, List.length_map, List.length_map] at h1
 have := h.buf c hc
 exact ⟨by omega, by omega, by omega⟩
end
section
variable {p : cv} {x y : Wd} {g q k v : Int} {f : List cQ} {i : cQ}
theorem iG {z : jt} (hg : g < x.gs.length) (h0 : 0 ≤ g) : aq (x.bG g z) q = if q.toNat = g.toNat then z else aq x q := by
 unfold aq Wd.bG
 dsimp only
 by_cases e : q.toNat = g.toNat
 ·rw [if_pos e, e]
  simp [List.getD_eq_getElem?_getD, List.getElem?_set_self (show g.toNat < x.gs.length by omega)]
 ·rw [if_neg e, List.getD_eq_getElem?_getD, List.getD_eq_getElem?_getD, List.getElem?_set_ne (Ne.symm e)]
theorem yl (h0 : 0 ≤ g) (hg : g < x.gs.length) : aq x g ∈ x.gs := by
 unfold aq
 rw [List.getD_eq_getElem?_getD, List.getElem?_eq_getElem (by omega), Option.getD_some]
 exact List.getElem_mem _
theorem WV.congr (h : WV p x) (hl : y.gs.length = x.gs.length) (hst : ∀ q, (aq y q).st = (aq x q).st ∧ (aq y q).wt = (aq x q).wt) (hg : ∀ z ∈ y.gs, pV p z) (e1 : y.aB = x.aB) (e2 : y.aI = x.aI) (e3 : y.hl = x.hl) (e4 : y.out.length ≤ 1000) : WV p y := by
 have at_ : ∀ q s, At x q s → At y q s := fun q s ha => ⟨ha.1, by rw [hl]; exact ha.2.1, by rw [(hst q).1]; exact ha.2.2⟩
 refine ⟨by rw [hl]; exact h.n1, by rw [hl]; exact h.n2, hg, by rw [e1]; exact h.ch, by rw [e2]; exact h.lk, by rw [e1]; exact h.buf, ?_, ?_, ?_, ?_, ?_, by rw [e1]; exact h.EZ, by rw [e3]; exact h.h1, e4⟩
 ·intro c hc v hv
  rw [e1] at hc
  rw [(hst v.g).2]
  exact ⟨at_ _ _ (h.dF c hc v hv).1, (h.dF c hc v hv).2⟩
 ·intro c hc v hv
  rw [e1] at hc
  rw [(hst v.g).2]
  exact ⟨at_ _ _ (h.snd c hc v hv).1, (h.snd c hc v hv).2⟩
 ·intro l hl q hq
  rw [e2] at hl
  rw [(hst q).2]
  exact ⟨at_ _ _ (h.lw l hl q hq).1, (h.lw l hl q hq).2⟩
 ·intro z hz
  rw [e3] at hz
  exact at_ _ _ (h.hl z hz)
 ·intro q h0 hq
  rw [(hst q).2] at hq
  rw [e1, e2]
  exact h.one q h0 hq
theorem BL {l : List jt} {n : Nat} {z w : jt} (h : w ∈ l.set n z) : w ∈ l ∨ w = z := List.mem_or_eq_of_mem_set h
theorem WV.bG (h : WV p x) (h0 : 0 ≤ g) (hg : g < x.gs.length) {z : jt} (hz : pV p z) (e1 : z.st = (aq x g).st) (e2 : z.wt = (aq x g).wt) : WV p (x.bG g z) := by
 refine h.congr (by simp [Wd.bG]) (fun q => ?_) (fun w hw => ?_) rfl rfl rfl h.out
 ·rw [iG hg h0]
  split
  ·rename_i e
   have : aq x q = aq x g := by unfold aq; rw [e]
   rw [this]; exact ⟨e1, e2⟩
  ·exact ⟨rfl, rfl⟩
 ·rcases BL hw with hw | rfl
  ·exact h.DR w hw
  ·exact hz
theorem WV.ready (h : WV p x) {r : List Int} : WV p { x with ready := r } := h.congr rfl (fun _ => ⟨rfl, rfl⟩) h.DR rfl rfl rfl h.out
theorem WV.fin (h : WV p x) {e c : Int} : WV p { x with end_ := e, code := c } := h.congr rfl (fun _ => ⟨rfl, rfl⟩) h.DR rfl rfl rfl h.out
theorem WV.LA (h : WV p x) (h0 : 0 ≤ g) (hg : g < x.gs.length) (hf : nU x g) {z : jt} (hz : pV p z) : WV p (x.bG g z) := by
 have ne : ∀ q, 0 ≤ q → q ≠ g → aq (x.bG g z) q = aq x q := fun q q0 hq => by rw [iG hg h0, if_neg (by omega)]
 have at_ : ∀ q s, q ≠ g → At x q s → At (x.bG g z) q s := fun q s hq ha => ⟨ha.1, by simpa [Wd.bG] using ha.2.1, by rw [ne q ha.1 hq]; exact ha.2.2⟩
 refine ⟨by simpa [Wd.bG] using h.n1, by simpa [Wd.bG] using h.n2, fun w hw => ?_, h.ch, h.lk, h.buf, ?_, ?_, ?_, ?_, ?_, h.EZ, h.h1, h.out⟩
 ·rcases BL hw with hw | rfl
  ·exact h.DR w hw
  ·exact hz
 ·intro c hc v hv
  have hne : v.g ≠ g := fun e => hf.1 c hc (by rw [← e]; exact List.mem_append_right _ (List.mem_map.2 ⟨v, hv, rfl⟩))
  obtain ⟨a, b⟩ := h.dF c hc v hv
  rw [ne _ a.1 hne]
  exact ⟨at_ _ _ hne a, b⟩
 ·intro c hc v hv
  have hne : v.g ≠ g := fun e => hf.1 c hc (by rw [← e]; exact List.mem_append_left _ (List.mem_map.2 ⟨v, hv, rfl⟩))
  obtain ⟨a, b⟩ := h.snd c hc v hv
  rw [ne _ a.1 hne]
  exact ⟨at_ _ _ hne a, b⟩
 ·intro l hl q hq
  have hne : q ≠ g := fun e => hf.2.1 l hl (by rw [← e]; exact hq)
  obtain ⟨a, b⟩ := h.lw l hl q hq
  rw [ne _ a.1 hne]
  exact ⟨at_ _ _ hne a, b⟩
 ·intro w hw
  have hne : w.id ≠ g := hf.2.2 w hw
  exact at_ _ _ hne (h.hl w hw)
 ·intro q q0 hq
  by_cases e : q = g
  ·subst e
   have a := wV.2 hf.1
   have b := z0.2 hf.2.1
   show cu x.aB q + hJ x.aI q ≤ 1
   omega
  ·rw [ne q q0 e] at hq
   exact h.one q q0 hq
theorem pV.Q9 {z : jt} (h : pV p z) {s : Int} (h1 : s ≠ 2) (h2 : 1 ≤ s ∧ s ≤ 4) : pV p { z with st := s } := ⟨h.l1, h.l2, h.fr, fun e => absurd e h1, h2⟩
theorem WV.fL (h : WV p x) (h0 : 0 ≤ g) (hg : g < x.gs.length) (hf : nU x g) : WV p (x.fL g) :=
 WV.ready (h.LA h0 hg hf ((h.DR _ (yl h0 hg)).Q9 (by decide) (by decide)))
theorem WV.block (h : WV p x) (ha : At x g 1) (hf : f ∈ p.funcs) (hi : kY p f i) : WV p (x.block g i) := by
 have hz := h.DR _ (yl ha.1 ha.2.1)
 exact h.LA ha.1 ha.2.1 (h.free (by rw [ha.2.2]; decide) (by rw [ha.2.2]; decide)) ⟨hz.l1, hz.l2, hz.fr, fun _ => ⟨f, hf, hi⟩, by show (1 : Int) ≤ 2 ∧ (2 : Int) ≤ 4; decide⟩
theorem jR {α : Type} {l : List α} {n : Nat} {a b : α} (h : b ∈ l.set n a) : b ∈ l ∨ b = a := List.mem_or_eq_of_mem_set h
theorem WV.less (h : WV p x) {c c' : aV} (hc : x.aB[k.toNat]? = some c) (hb : c'.buf.length ≤ c'.room ∧ c'.room ≤ 16) (hr : ∀ v ∈ c'.dF, v ∈ c.dF) (hs : ∀ v ∈ c'.snd, v ∈ c.snd) (hn : ∀ q, (dk c').count q ≤ (dk c).count q) : WV p (x.cE k c') := by
 have hm : c ∈ x.aB := List.mem_of_getElem? hc
 have Ra : ∀ q, cu (x.aB.set k.toNat c') q ≤ cu x.aB q := by
  intro q
  have := mQ (fun c : aV => (dk c).count q) x.aB k.toNat c' c hc
  have := hn q
  unfold cu
  omega
 refine ⟨h.n1, h.n2, h.DR, by simpa [Wd.cE] using h.ch, h.lk, ?_, ?_, ?_, h.lw, h.hl, ?_, ?_, h.h1, h.out⟩
 ·intro d hd
  rcases jR hd with hd | rfl
  ·exact h.buf d hd
  ·exact hb
 ·intro d hd v hv
  rcases jR hd with hd | rfl
  ·exact h.dF d hd v hv
  ·exact h.dF c hm v (hr v hv)
 ·intro d hd v hv
  rcases jR hd with hd | rfl
  ·exact h.snd d hd v hv
  ·exact h.snd c hm v (hs v hv)
 ·intro q q0 hq
  have := h.one q q0 hq
  have := Ra q
  show cu (x.aB.set k.toNat c') q + hJ x.aI q ≤ 1
  omega
 ·intro q
  exact Nat.le_trans (Ra q) (h.EZ q)
theorem WV.more (h : WV p x) {c c' : aV} {w : Wt} (hc : x.aB[k.toNat]? = some c) (hb : c'.buf.length ≤ c'.room ∧ c'.room ≤ 16)
  (hr : ∀ v ∈ c'.dF, v ∈ c.dF ∨ v = w ∧ At x w.g 2 ∧ ((aq x w.g).wt.op = 14 ∨ (aq x w.g).wt.op = 16 ∧ 0 ≤ w.cs ∧ w.cs < (aq x w.g).wt.b))
  (hs : ∀ v ∈ c'.snd, v ∈ c.snd ∨ v = w ∧ At x w.g 2 ∧ ((aq x w.g).wt.op = 13 ∨ (aq x w.g).wt.op = 16 ∧ 0 ≤ w.cs ∧ w.cs < (aq x w.g).wt.b))
  (hn : ∀ q, (dk c').count q ≤ (dk c).count q + (if q = w.g then 1 else 0)) (hz : (aq x w.g).wt.op ≠ 16 → cu x.aB w.g + hJ x.aI w.g = 0) (h32 : cu x.aB w.g < 32) : WV p (x.cE k c') := by
 have hm : c ∈ x.aB := List.mem_of_getElem? hc
 have Ra : ∀ q, cu (x.aB.set k.toNat c') q ≤ cu x.aB q + (if q = w.g then 1 else 0) := by
  intro q
  have := mQ (fun c : aV => (dk c).count q) x.aB k.toNat c' c hc
  have := hn q
  unfold cu
  omega
 refine ⟨h.n1, h.n2, h.DR, by simpa [Wd.cE] using h.ch, h.lk, ?_, ?_, ?_, h.lw, h.hl, ?_, ?_, h.h1, h.out⟩
 ·intro d hd
  rcases jR hd with hd | rfl
  ·exact h.buf d hd
  ·exact hb
 ·intro d hd v hv
  rcases jR hd with hd | rfl
  ·exact h.dF d hd v hv
  ·rcases hr v hv with hv | ⟨rfl, hv⟩
   ·exact h.dF c hm v hv
   ·exact hv
 ·intro d hd v hv
  rcases jR hd with hd | rfl
  ·exact h.snd d hd v hv
  ·rcases hs v hv with hv | ⟨rfl, hv⟩
   ·exact h.snd c hm v hv
   ·exact hv
 ·intro q q0 hq
  have a := Ra q
  show cu (x.aB.set k.toNat c') q + hJ x.aI q ≤ 1
  by_cases e : q = w.g
  ·subst e
   have := hz hq
   rw [if_pos rfl] at a
   omega
  ·have := h.one q q0 hq
   rw [if_neg e] at a
   omega
 ·intro q
  have a := Ra q
  show cu (x.aB.set k.toNat c') q ≤ 32
  by_cases e : q = w.g
  ·subst e
   rw [if_pos rfl] at a
   omega
  ·have := h.EZ q
   rw [if_neg e] at a
   omega
end
section
variable {p : cv} {x y : Wd} {g q k n : Int} {f : List cQ} {i : cQ} {v : Wt}
theorem Rb {α : Type} (f g : α → Nat) : ∀ (l : List α), (∀ a ∈ l, f a ≤ g a) → (l.map f).sum ≤ (l.map g).sum
 | [], _ => Nat.le_refl _
 | b :: l, h => by
  simp only [List.map_cons, List.sum_cons]
  have := h b (by simp)
  have := Rb f g l fun a ha => h a (by simp [ha])
  omega
theorem BM (c : aV) : dk (c.drop g) = (dk c).filter (fun q => q != g) := by
 unfold dk aV.drop wo
 simp only [List.filter_append, List.filter_map]
 rfl
theorem HI (cs : List aV) (q : Int) : cu (cs.map fun c => c.drop g) q ≤ cu cs q := by
 unfold cu
 rw [List.map_map]
 refine Rb _ _ cs fun c _ => ?_
 show (dk (c.drop g)).count q ≤ _
 rw [BM]
 exact List.Sublist.count_le _ List.filter_sublist
theorem WV.leave (h : WV p x) : WV p (x.leave g) := by
 refine ⟨h.n1, h.n2, h.DR, by simpa [Wd.leave] using h.ch, h.lk, ?_, ?_, ?_, h.lw, h.hl, ?_, ?_, h.h1, h.out⟩
 ·intro d hd
  obtain ⟨c, hc, rfl⟩ := List.mem_map.1 hd
  exact h.buf c hc
 ·intro d hd v hv
  obtain ⟨c, hc, rfl⟩ := List.mem_map.1 hd
  exact h.dF c hc v (List.mem_filter.1 hv).1
 ·intro d hd v hv
  obtain ⟨c, hc, rfl⟩ := List.mem_map.1 hd
  exact h.snd c hc v (List.mem_filter.1 hv).1
 ·intro q q0 hq
  have := HI (g := g) x.aB q
  have := h.one q q0 hq
  show cu (x.aB.map fun c => c.drop g) q + hJ x.aI q ≤ 1
  omega
 ·intro q
  exact Nat.le_trans (HI x.aB q) (h.EZ q)
theorem Kn (h : WV p x) (h3 : (aq x g).wt.op ≠ 18) (h2 : (aq x g).st = 2) : nU (x.leave g) g := by
 refine ⟨fun d hd hg => ?_, fun l hl hg => h3 (h.lw l hl g hg).2, fun w hw e => ?_⟩
 ·obtain ⟨c, hc, rfl⟩ := List.mem_map.1 hd
  rw [BM] at hg
  have := (List.mem_filter.1 hg).2
  simp at this
 ·have := (h.hl w hw).2.2
  rw [e, h2] at this
  cases this
theorem HH.set {r : gH} (h : HH p r) (q v : Int) : HH p (r.set q v) := h
theorem pV.cW {z : jt} (h : pV p z) {r : gH} (hr : HH p r) : pV p (z.cW r) :=
 ⟨by simpa [jt.cW] using h.l1, by simpa [jt.cW] using h.l2, fun f hf => by
  rcases List.mem_or_eq_of_mem_set hf with hf | rfl
  ·exact h.fr f hf
  ·exact hr, h.wt, h.st⟩
theorem pV.top {z : jt} (h : pV p z) : HH p z.top := by
 unfold jt.top
 have := h.l1
 rw [List.getD_eq_getElem?_getD, List.getElem?_eq_getElem (by omega), Option.getD_some]
 exact h.fr _ (List.getElem_mem _)
theorem WV.kO (h : WV p x) (h0 : 0 ≤ g) (hg : g < x.gs.length) : pV p (aq x g) := h.DR _ (yl h0 hg)
theorem WV.bB (h : WV p x) (h0 : 0 ≤ g) (hg : g < x.gs.length) : WV p (x.bB g q n) :=
 h.bG h0 hg ((h.kO h0 hg).cW ((h.kO h0 hg).top.set q n)) rfl rfl
theorem DS (h0 : 0 ≤ g) (hg : g < x.gs.length) {m : Int} : (aq (x.bB g q n) m).st = (aq x m).st ∧ (aq (x.bB g q n) m).wt = (aq x m).wt ∧ (aq (x.bB g q n) m).fs.length = (aq x m).fs.length := by
 unfold Wd.bB
 rw [iG hg h0]
 split
 ·rename_i e
  have : aq x m = aq x g := by unfold aq; rw [e]
  rw [this]
  exact ⟨rfl, rfl, by simp [jt.cW]⟩
 ·exact ⟨rfl, rfl, rfl⟩
theorem nV (h0 : 0 ≤ g) (hg : g < x.gs.length) {m : Int} (h1 : 0 ≤ m) (hne : m ≠ g) : aq (x.bB g q n) m = aq x m := by
 unfold Wd.bB
 rw [iG hg h0, if_neg (by omega)]
theorem WV.br (h : WV p x) (h0 : 0 ≤ g) (hg : g < x.gs.length) : br x g := ⟨h0, hg, (h.kO h0 hg).l1, by have := (h.kO h0 hg).l2; omega⟩
theorem NT (hp : gf p) {a : Int} (h0 : 0 ≤ a) (h1 : a < p.cases.length) : qw p a ∈ p.cases := by
 unfold qw
 rw [List.getD_eq_getElem?_getD, List.getElem?_eq_getElem (by omega), Option.getD_some]
 exact List.getElem_mem _
theorem WV.qx (h : WV p x) (hp : gf p) (ha : At x v.g 2) (hw : (aq x v.g).wt.op = 14 ∨ (aq x v.g).wt.op = 16 ∧ 0 ≤ v.cs ∧ v.cs < (aq x v.g).wt.b) : qx p x v := by
 refine ⟨h.br ha.1 ha.2.1, ?_⟩
 obtain ⟨f, hf, hi⟩ := (h.kO ha.1 ha.2.1).wt ha.2.2
 obtain ⟨_, _, _, _, _, _, _, _, i13, i14, i16, _⟩ := hi
 split
 ·rename_i e
  rcases hw with hw | ⟨_, c0, c1⟩
  ·rw [e] at hw; cases hw
  ·obtain ⟨a0, a1, a2⟩ := i16 e
   refine ⟨by omega, by omega, by have := hp.cs; omega, (hp.cas _ (NT hp (by omega) (by omega))).2, i14 (.inr e)⟩
 ·rename_i e
  rcases hw with hw | ⟨hw, _⟩
  ·exact ⟨i13 (.inr hw), i14 (.inl hw)⟩
  ·exact absurd hw e
theorem WV.yK (h : WV p x) (ha : At x v.g 2) : yK x v := by
 refine ⟨h.br ha.1 ha.2.1, fun e => ?_⟩
 obtain ⟨f, hf, hi⟩ := (h.kO ha.1 ha.2.1).wt ha.2.2
 obtain ⟨_, _, _, _, _, _, _, _, _, i14, _⟩ := hi
 exact i14 (.inr e)
theorem bW {m : Int} : (x.bB g q m).gs.length = x.gs.length := by simp [Wd.bB, Wd.bG]
theorem nW : (x.fL g).gs.length = x.gs.length := by simp [Wd.fL, Wd.bG]
theorem su (h0 : 0 ≤ g) (hg : g < x.gs.length) {m : Int} (h1 : 0 ≤ m) (hne : m ≠ g) : aq (x.fL g) m = aq x m := by
 show aq (x.bG g _) m = _
 rw [iG hg h0, if_neg (by omega)]
theorem wW (h0 : 0 ≤ g) (hg : g < x.gs.length) : (aq (x.fL g) g).st = 1 := by
 show (aq (x.bG g _) g).st = _
 rw [iG hg h0, if_pos rfl]
theorem WV.gR (h : WV p x) (ha : At x g 2) (Vp : (aq x g).wt.op ≠ 18) : WV p (x.gR g k) ∧ nU (x.gR g k) g := by
 obtain ⟨h0, hg, h2⟩ := ha
 unfold Wd.gR
 have r2 := h.bB (q := (aq x g).wt.c) (n := k) h0 hg
 have e2 := DS (x := x) (q := (aq x g).wt.c) (n := k) h0 hg (m := g)
 exact ⟨r2.leave, Kn r2 (by rw [e2.2.1]; exact Vp) (by rw [e2.1]; exact h2)⟩
theorem gX : (x.gR g k).gs.length = x.gs.length := by simp [Wd.gR, Wd.leave, bW]
theorem DT (h0 : 0 ≤ g) (hg : g < x.gs.length) {m : Int} (h1 : 0 ≤ m) (hne : m ≠ g) : aq (x.gR g k) m = aq x m := by
 show aq (x.bB g _ _) m = _
 exact nV h0 hg h1 hne
theorem WV.received (h : WV p x) (ha : At x v.g 2) (Vp : (aq x v.g).wt.op ≠ 18) (hf : (aq x v.g).wt.op ≠ 16 → nU x v.g) {s : Int} : WV p (x.received p v s) := by
 have ha' := ha
 obtain ⟨h0, hg, h2⟩ := ha'
 unfold Wd.received
 dsimp only
 split
 ·have r1 := h.bB (q := (qw p ((aq x v.g).wt.a + v.cs)).bS) (n := v.v) h0 hg
  have e1 := DS (x := x) (q := (qw p ((aq x v.g).wt.a + v.cs)).bS) (n := v.v) h0 hg (m := v.g)
  have l1 := bW (x := x) (g := v.g) (q := (qw p ((aq x v.g).wt.a + v.cs)).bS) (m := v.v)
  obtain ⟨r2, f2⟩ := r1.gR (k := v.cs) ⟨h0, by rw [l1]; exact hg, by rw [e1.1]; exact h2⟩ (by rw [e1.2.1]; exact Vp)
  exact r2.fL h0 (by rw [gX, l1]; exact hg) f2
 ·rename_i e
  have r1 := h.bB (q := (aq x v.g).wt.b) (n := v.v) h0 hg
  have r2 := r1.bB (g := v.g) (q := (aq x v.g).wt.c) (n := s) h0 (by rw [bW]; exact hg)
  exact r2.fL h0 (by rw [bW, bW]; exact hg) (hf e)
theorem wX {s : Int} : (x.received p v s).gs.length = x.gs.length := by
 unfold Wd.received
 dsimp only
 split
 ·rw [nW, gX, bW]
 ·rw [nW, bW, bW]
theorem y4 (h0 : 0 ≤ v.g) (hg : v.g < x.gs.length) {s m : Int} (h1 : 0 ≤ m) (hne : m ≠ v.g) : aq (x.received p v s) m = aq x m := by
 unfold Wd.received
 dsimp only
 split
 ·rw [su h0 (by rw [gX, bW]; exact hg) h1 hne, DT h0 (by rw [bW]; exact hg) h1 hne, nV h0 hg h1 hne]
 ·rw [su h0 (by rw [bW, bW]; exact hg) h1 hne, nV h0 (by rw [bW]; exact hg) h1 hne, nV h0 hg h1 hne]
theorem mR (h0 : 0 ≤ v.g) (hg : v.g < x.gs.length) {s : Int} : (aq (x.received p v s) v.g).st = 1 ∧ (x.received p v s).ready = x.ready ++ [v.g] := by
 unfold Wd.received
 dsimp only
 split
 ·exact ⟨wW h0 (by rw [gX, bW]; exact hg), rfl⟩
 ·exact ⟨wW h0 (by rw [bW, bW]; exact hg), rfl⟩
theorem WV.sent (h : WV p x) (ha : At x v.g 2) (Vp : (aq x v.g).wt.op ≠ 18) (hf : (aq x v.g).wt.op ≠ 16 → nU x v.g) : WV p (x.sent v) := by
 have ha' := ha
 obtain ⟨h0, hg, h2⟩ := ha'
 unfold Wd.sent
 split
 ·obtain ⟨r2, f2⟩ := h.gR (k := v.cs) ha Vp
  exact r2.fL h0 (by rw [gX]; exact hg) f2
 ·rename_i e
  exact h.fL h0 hg (hf e)
theorem Rc : (x.sent v).gs.length = x.gs.length := by
 unfold Wd.sent
 split
 ·rw [nW, gX]
 ·rw [nW]
theorem T0 (h0 : 0 ≤ v.g) (hg : v.g < x.gs.length) {m : Int} (h1 : 0 ≤ m) (hne : m ≠ v.g) : aq (x.sent v) m = aq x m := by
 unfold Wd.sent
 split
 ·rw [su h0 (by rw [gX]; exact hg) h1 hne, DT h0 hg h1 hne]
 ·rw [su h0 hg h1 hne]
theorem LB (h0 : 0 ≤ v.g) (hg : v.g < x.gs.length) : (aq (x.sent v) v.g).st = 1 ∧ (x.sent v).ready = x.ready ++ [v.g] := by
 unfold Wd.sent
 split
 ·exact ⟨wW h0 (by rw [gX]; exact hg), rfl⟩
 ·exact ⟨wW h0 hg, rfl⟩
theorem HJ (hk : u5 x k) : ∃ c, x.aB[k.toNat]? = some c ∧ dg x.aB k = c := by
 obtain ⟨k0, k1⟩ := hk
 obtain ⟨c, hc⟩ := aM (l := x.aB) (i := k.toNat) (by omega)
 exact ⟨c, hc, by simp [dg, hc]⟩
theorem Fb (h : WV p x) {c c' : aV} (hc : x.aB[k.toNat]? = some c) (h0 : 0 ≤ g) (h2 : (aq x g).st = 2) (wG : (aq x g).wt.op ≠ 16) (hn : (dk c').count g + 1 ≤ (dk c).count g) : nU (x.cE k c') g := by
 have a := h.one g h0 wG
 have b := mQ (fun c : aV => (dk c).count g) x.aB k.toNat c' c hc
 have e1 : cu (x.aB.set k.toNat c') g = 0 := by unfold cu at *; omega
 have e2 : hJ x.aI g = 0 := by
  have := BK (fun c : aV => (dk c).count g) x.aB c (List.mem_of_getElem? hc)
  unfold cu at a
  omega
 refine ⟨wV.1 e1, z0.1 e2, fun w hw e => ?_⟩
 have := (h.hl w hw).2.2
 rw [e, h2] at this
 cases this
end
def Wk (x y : Wd) : Prop := y.gs.length = x.gs.length ∧ ∃ l : List Int, y.ready = x.ready ++ l ∧ l.Nodup ∧ (∀ q ∈ l, 0 ≤ q ∧ q < x.gs.length ∧ (aq x q).st ≠ 1 ∧ (aq y q).st = 1) ∧ ∀ q, 0 ≤ q → q ∉ l → aq y q = aq x q
section
variable {p : cv} {x y z : Wd} {g q k n : Int} {f : List cQ} {i : cQ} {v : Wt}
theorem Wk.refl (x : Wd) : Wk x x := ⟨rfl, [], by simp, List.nodup_nil, (fun q h => by cases h), fun q _ _ => rfl⟩
theorem Wk.same (h1 : y.gs = x.gs) (h2 : y.ready = x.ready) : Wk x y := ⟨by rw [h1], [], by simp [h2], List.nodup_nil, fun q h => by (cases h), fun q _ _ => by unfold aq; rw [h1]⟩
theorem Wk.trans (h : Wk x y) (h' : Wk y z) : Wk x z := by
 obtain ⟨a1, l, a2, a3, a4, a5⟩ := h
 obtain ⟨b1, m, b2, b3, b4, b5⟩ := h'
 refine ⟨by rw [b1, a1], l ++ m, by rw [b2, a2, List.append_assoc], ?_, ?_, ?_⟩
 ·refine List.nodup_append.2 ⟨a3, b3, fun q hq r hr e => ?_⟩
  subst e
  exact (b4 q hr).2.2.1 (a4 q hq).2.2.2
 ·intro q hq
  rcases List.mem_append.1 hq with hq | hq
  ·obtain ⟨c1, c2, c3, c4⟩ := a4 q hq
   refine ⟨c1, c2, c3, ?_⟩
   by_cases hm : q ∈ m
   ·exact (b4 q hm).2.2.2
   ·rw [b5 q c1 hm]; exact c4
  ·obtain ⟨c1, c2, c3, c4⟩ := b4 q hq
   by_cases hl : q ∈ l
   ·exact absurd (a4 q hl).2.2.2 c3
   ·exact ⟨c1, by rw [← a1]; exact c2, by rw [← a5 q c1 hl]; exact c3, c4⟩
 ·intro q q0 hq
  rw [List.mem_append] at hq
  rw [b5 q q0 (fun h => hq (.inr h)), a5 q q0 (fun h => hq (.inl h))]
theorem Wk.keep (h : Wk x y) (h0 : 0 ≤ q) (h1 : (aq x q).st = 1) : aq y q = aq x q := by
 obtain ⟨_, l, _, _, a4, a5⟩ := h
 exact a5 q h0 fun hq => (a4 q hq).2.2.1 h1
theorem Wk.received (h0 : 0 ≤ v.g) (hg : v.g < x.gs.length) (h1 : (aq x v.g).st ≠ 1) {s : Int} : Wk x (x.received p v s) :=
 ⟨wX, [v.g], (mR h0 hg).2, by simp, fun q hq => by
  simp only [List.mem_singleton] at hq; subst hq
  exact ⟨h0, hg, h1, (mR h0 hg).1⟩, fun q q0 hq => y4 h0 hg q0 (by simpa using hq)⟩
theorem Wk.sent (h0 : 0 ≤ v.g) (hg : v.g < x.gs.length) (h1 : (aq x v.g).st ≠ 1) : Wk x (x.sent v) :=
 ⟨Rc, [v.g], (LB h0 hg).2, by simp, fun q hq => by
  simp only [List.mem_singleton] at hq; subst hq
  exact ⟨h0, hg, h1, (LB h0 hg).1⟩, fun q q0 hq => T0 h0 hg q0 (by simpa using hq)⟩
theorem Wk.fL (h0 : 0 ≤ g) (hg : g < x.gs.length) (h1 : (aq x g).st ≠ 1) : Wk x (x.fL g) :=
 ⟨nW, [g], rfl, by simp, fun q hq => by
  simp only [List.mem_singleton] at hq; subst hq
  exact ⟨h0, hg, h1, wW h0 hg⟩, fun q q0 hq => su h0 hg q0 (by simpa using hq)⟩
theorem Wk.cE {c : aV} : Wk x (x.cE k c) := Wk.same rfl rfl
theorem rH (h : WV p x) {c : aV} (hc : c ∈ x.aB) : c.buf.length ≤ 16 ∧ c.snd.length ≤ 3200 ∧ c.dF.length ≤ 3200 := by
 have h1 := h.Ly hc
 unfold dk at h1
 rw [List.length_append, List.length_map, List.length_map] at h1
 have := h.buf c hc
 omega
def Y3 (p : cv) (x : Wd) : Out (Wd × Bool) → Prop
 | .fM _ y => WV p y ∧ y.gs = x.gs ∧ y.ready = x.ready
 | .on (y, true) => WV p y ∧ Wk x y
 | .on (y, false) => y = x
 | .dY _ _ => False
theorem dI {α : Type} : ∀ (l : List α) (n : Nat) (a : α), l[n]? = some a → l.set n a = l
 | [], _, _, _ => rfl
 | b :: l, 0, a, h => by simp at h; subst h; rfl
 | b :: l, n + 1, a, h => by rw [List.set_cons_succ, dI l n a (by simpa using h)]
theorem oY {c : aV} (hc : x.aB[k.toNat]? = some c) : x.cE k c = x := by
 unfold Wd.cE
 rw [dI _ _ _ hc]
theorem WV.put (h : WV p x) (hp : gf p) (hk : u5 x k) : pq p x k n ∧ Y3 p x (x.put p k n) := by
 obtain ⟨c, hc, e⟩ := HJ hk
 have hm := List.mem_of_getElem? hc
 obtain ⟨s1, s2, s3⟩ := rH h hm
 have hb := h.buf c hm
 have hr := h.dF c hm
 unfold pq Wd.put
 rw [e]
 refine ⟨⟨hk, ?_, ?_⟩, ?_⟩
 ·unfold aV.send
  split
  ·intro h; cases h
  ·split
   ·rename_i w r hw
    intro _
    obtain ⟨a, b⟩ := hr w (by rw [hw]; simp)
    exact h.qx (v := ⟨w.g, w.cs, n⟩) hp a b
   ·split <;> (intro h; cases h)
 ·have : c.Small 3200 := ⟨by omega, s2, s3⟩
  exact (this.send n).mono (by omega)
 ·unfold aV.send
  split
  ·dsimp only
   rw [if_pos rfl, oY hc]
   exact ⟨h, rfl, rfl⟩
  ·split
   ·rename_i w r hw
    dsimp only
    obtain ⟨a, b⟩ := hr w (by rw [hw]; simp)
    have hl : WV p (x.cE k { c with dF := r }) := h.less hc hb (fun v hv => by rw [hw]; exact List.mem_cons_of_mem _ hv) (fun v hv => hv) (fun q => by
     unfold dk; rw [hw]; simp only [List.map_cons, List.count_append, List.count_cons]; omega)
    have hne : (aq x w.g).wt.op ≠ 18 := by rcases b with b | b; rw [b]; decide; rw [b.1]; decide
    rw [if_neg (by decide), if_pos rfl]
    refine ⟨hl.received (v := ⟨w.g, w.cs, n⟩) a hne (fun wG => ?_), Wk.cE.trans (Wk.received (x := x.cE k { c with dF := r }) (v := ⟨w.g, w.cs, n⟩) a.1 a.2.1 (by show (aq x w.g).st ≠ 1; rw [a.2.2]; decide))⟩
    exact Fb h hc a.1 a.2.2 wG (by unfold dk; rw [hw]; simp only [List.map_cons, List.count_append, List.count_cons, beq_self_eq_true, if_true]; omega)
   ·rename_i hw
    split
    ·dsimp only
     rw [if_neg (by decide), if_neg (by decide)]
     exact ⟨h.less hc ⟨by simp; omega, hb.2⟩ (fun v hv => hv) (fun v hv => hv) (fun q => Nat.le_refl _), Wk.cE⟩
    ·dsimp only
     rw [if_neg (by decide), if_neg (by decide), oY hc]
     exact rfl
theorem WV.get (h : WV p x) (hp : gf p) (hk : u5 x k) : wJ x k ∧ WV p (x.get k).1 ∧ Wk x (x.get k).1 ∧ ((x.get k).2.2.2 = false → (x.get k).1 = x) := by
 obtain ⟨c, hc, e⟩ := HJ hk
 have hm := List.mem_of_getElem? hc
 obtain ⟨s1, s2, s3⟩ := rH h hm
 have hb := h.buf c hm
 have hs := h.snd c hm
 unfold wJ Wd.get
 rw [e]
 obtain ⟨room, buf, snd, dF, closed⟩ := c
 cases snd with
 | cons w r =>
  obtain ⟨a, b⟩ := hs w (by simp)
  obtain ⟨v, l, hv⟩ : ∃ v l, buf ++ [w.v] = v :: l := by
   cases buf with
   | nil => exact ⟨_, _, rfl⟩
   | cons q t => exact ⟨q, t ++ [w.v], rfl⟩
  have hlen : l.length = buf.length := by
   have := congrArg List.length hv
   simp at this; omega
  have er : aV.recv ⟨room, buf, w :: r, dF, closed⟩ = (⟨room, l, r, dF, closed⟩, v, true, w, true, 0) := by
   unfold aV.recv aV.all
   dsimp only
   rw [hv]
   rfl
  rw [er]
  dsimp only
  have hl : WV p (x.cE k ⟨room, l, r, dF, closed⟩) := h.less hc (by rw [hlen]; exact hb) (fun v hv => hv) (fun v hv => List.mem_cons_of_mem _ hv) (fun q => by
   unfold dk; simp only [List.map_cons, List.cons_append, List.count_cons]; omega)
  have hne : (aq x w.g).wt.op ≠ 18 := by rcases b with b | b; rw [b]; decide; rw [b.1]; decide
  rw [if_pos rfl, if_pos rfl]
  refine ⟨⟨hk, fun _ => h.yK a, ⟨by dsimp only at *; omega, by simp only [List.length_cons] at s2; dsimp only; omega, by dsimp only at *; omega⟩⟩, hl.sent a hne (fun wG => ?_), Wk.cE.trans (Wk.sent (x := x.cE k ⟨room, l, r, dF, closed⟩) a.1 a.2.1 (by show (aq x w.g).st ≠ 1; rw [a.2.2]; decide)), (fun h => by cases h)⟩
  exact Fb h hc a.1 a.2.2 wG (by unfold dk; simp only [List.map_cons, List.cons_append, List.count_cons, beq_self_eq_true, if_true]; omega)
 | nil =>
  cases buf with
  | cons q t =>
   have er : aV.recv ⟨room, q :: t, [], dF, closed⟩ = (⟨room, t, [], dF, closed⟩, q, true, .zero, false, 0) := rfl
   rw [er]
   dsimp only
   simp only [Bool.false_eq_true, if_false, if_true]
   simp only [List.length_cons] at s1 hb
   exact ⟨⟨hk, (fun h => by cases h), ⟨by dsimp only; omega, by dsimp only at *; omega, by dsimp only at *; omega⟩⟩, h.less hc ⟨by dsimp only; omega, hb.2⟩ (fun v hv => hv) (fun v hv => hv) (fun q => Nat.le_refl _), Wk.cE, (fun h => by cases h)⟩
  | nil =>
   have er : aV.recv ⟨room, [], [], dF, closed⟩ = (⟨room, [], [], dF, closed⟩, 0, false, .zero, false, if closed then 0 else 5) := rfl
   rw [er]
   dsimp only
   simp only [Bool.false_eq_true, if_false, oY hc]
   exact ⟨⟨hk, (fun h => by cases h), ⟨by dsimp only at *; omega, by dsimp only at *; omega, by dsimp only at *; omega⟩⟩, h, Wk.refl _, fun _ => trivial⟩
end
section
variable {p : cv} {x y z : Wd} {g q k n : Int} {f : List cQ} {i : cQ} {v : Wt}
def Y4 (x : Wd) (v : Wt) : Prop := 0 ≤ v.g ∧ v.g < x.gs.length ∧ ((aq x v.g).st = 2 → (aq x v.g).wt.op = 14 ∧ nU x v.g ∨ (aq x v.g).wt.op = 16 ∧ 0 ≤ v.cs ∧ v.cs < (aq x v.g).wt.b)
def BN (x y : Wd) : Prop := (∀ d ∈ y.aB, ∃ c ∈ x.aB, ∀ q ∈ dk d, q ∈ dk c) ∧ y.aI = x.aI ∧ y.hl = x.hl
theorem BN.refl (x : Wd) : BN x x := ⟨fun d hd => ⟨d, hd, fun _ h => h⟩, rfl, rfl⟩
theorem BN.free (h : BN x y) (hf : nU x g) : nU y g := by
 obtain ⟨a, b, c⟩ := h
 refine ⟨fun d hd hg => ?_, by rw [b]; exact hf.2.1, by rw [c]; exact hf.2.2⟩
 obtain ⟨e, he, hs⟩ := a d hd
 exact hf.1 e he (hs g hg)
theorem BN.leave : BN x (x.leave g) := ⟨fun d hd => by
 obtain ⟨c, hc, rfl⟩ := List.mem_map.1 hd
 exact ⟨c, hc, fun q hq => by rw [BM] at hq; exact (List.mem_filter.1 hq).1⟩, rfl, rfl⟩
theorem BN.received {s : Int} : BN x (x.received p v s) := by
 unfold Wd.received
 dsimp only
 split
 ·exact BN.leave (x := (x.bB v.g (qw p ((aq x v.g).wt.a + v.cs)).bS v.v).bB v.g _ _)
 ·exact BN.refl x
theorem ym (hp : gf p) : ∀ (l : List Wt) (x : Wd), WV p x → x.ready.length + l.length ≤ 1000000 → (∀ v ∈ l, Y4 x v) → xT p x l ∧ WV p (l.foldl (eA p) x) ∧ Wk x (l.foldl (eA p) x)
 | [], x, h, _, _ => ⟨trivial, h, Wk.refl x⟩
 | v :: l, x, h, hr, ha => by
  obtain ⟨h0, hg, h2⟩ := ha v (by simp)
  have jv : x.ready.length ≤ 1000000 := by simp only [List.length_cons] at hr; omega
  by_cases e : (aq x v.g).st = 2
  ·have Vq : At x v.g 2 := ⟨h0, hg, e⟩
   have hne : (aq x v.g).wt.op ≠ 18 := by rcases h2 e with b | b; rw [b.1]; decide; rw [b.1]; decide
   have hw := h.received (v := { v with v := 0 }) Vq hne (fun wG => by
    rcases h2 e with b | b
    ·exact b.2
    ·exact absurd b.1 wG) (s := 0)
   have hk : Wk x (x.received p { v with v := 0 } 0) := Wk.received (v := { v with v := 0 }) h0 hg (by rw [e]; decide)
   have es : eA p x v = x.received p { v with v := 0 } 0 := by unfold eA; rw [if_pos e]
   have hrd : (x.received p { v with v := 0 } 0).ready = x.ready ++ [v.g] := (mR (v := { v with v := 0 }) h0 hg).2
   obtain ⟨r1, r2, r3⟩ := ym hp l (x.received p { v with v := 0 } 0) hw (by rw [hrd]; simp only [List.length_append, List.length_cons, List.length_nil] at *; omega) (fun w ZY => by
    obtain ⟨b0, b1, b2⟩ := ha w (List.mem_cons_of_mem _ ZY)
    refine ⟨b0, by rw [wX]; exact b1, fun T3 => ?_⟩
    by_cases ew : w.g = v.g
    ·rw [ew, (mR (v := { v with v := 0 }) h0 hg).1] at T3; cases T3
    ·rw [y4 (v := { v with v := 0 }) h0 hg b0 ew] at T3 ⊢
     rcases b2 T3 with c | c
     ·exact .inl ⟨c.1, BN.received.free c.2⟩
     ·exact .inr c)
   refine ⟨⟨h.sm hp jv, h0, hg, fun _ => h.qx (v := { v with v := 0 }) hp Vq ?_, by rw [es]; exact r1⟩, by rw [List.foldl_cons, es]; exact r2, by rw [List.foldl_cons, es]; exact hk.trans r3⟩
   rcases h2 e with b | b
   ·exact .inl b.1
   ·exact .inr b
  ·have es : eA p x v = x := by unfold eA; rw [if_neg e]
   obtain ⟨r1, r2, r3⟩ := ym hp l x h (by simp only [List.length_cons] at hr; omega) (fun w ZY => ha w (List.mem_cons_of_mem _ ZY))
   exact ⟨⟨h.sm hp jv, h0, hg, fun T3 => absurd T3 e, by rw [es]; exact r1⟩, by rw [List.foldl_cons, es]; exact r2, by rw [List.foldl_cons, es]; exact r3⟩
end
theorem LC {l : List bA} {i : Nat} (h : i < l.length) : mN l i = l[i] := by
 unfold mN; rw [List.getD_eq_getElem?_getD, List.getElem?_eq_getElem h]; rfl
theorem vg {l : List bA} {i j : Nat} (hi : i < l.length) (hj : j < l.length) : (fy l i j).Perm l := by
 unfold fy
 rw [LC hi, LC hj]
 exact List.set_set_perm hi hj
theorem BO : ∀ (f i : Nat) (l : List bA), i < l.length → (Nv f i l).Perm l
 | 0, _, l, _ => List.Perm.refl l
 | f + 1, i, l, h => by
  unfold Nv
  split
  ·exact (BO f _ _ (by rw [fX]; omega)).trans (vg h (by omega))
  ·exact List.Perm.refl l
theorem BP : ∀ (f i : Nat) (l : List bA), i < l.length → (pz f i l).Perm l
 | 0, _, l, _ => List.Perm.refl l
 | f + 1, i, l, h => by
  unfold pz
  split
  ·exact List.Perm.refl l
  ·have := (DI h).1
   exact (BP f _ _ (by rw [fX]; exact this)).trans (vg h this)
theorem BQ {l : List bA} {x : bA} : (ua l x).Perm (l ++ [x]) := BO _ _ _ (by simp)
theorem Fc {l : List bA} {i : Nat} (h : i < l.length) : l.Perm (mN l i :: c7 l i) := by
 have hn : l.length - 1 < l.length := by omega
 have h1 : (fy l i (l.length - 1)).Perm l := vg h hn
 have Qt : (fy l i (l.length - 1))[l.length - 1]? = some (mN l i) := by
  unfold fy
  rw [List.getElem?_set_self (by rw [List.length_set]; exact hn)]
 have h2 : fy l i (l.length - 1) = (fy l i (l.length - 1)).take (l.length - 1) ++ [mN l i] := by
  have e : fy l i (l.length - 1) = (fy l i (l.length - 1)).take (l.length - 1 + 1) := by
   rw [List.take_of_length_le (by rw [fX]; omega)]
  conv => lhs; rw [e]
  rw [List.take_add_one, Qt]
  rfl
 have h3 : l.Perm (mN l i :: (fy l i (l.length - 1)).take (l.length - 1)) := by
  refine h1.symm.trans ?_
  rw [h2]
  have : (List.take (l.length - 1) (fy l i (l.length - 1)) ++ [mN l i]).take (l.length - 1) = (fy l i (l.length - 1)).take (l.length - 1) := by rw [← h2]
  rw [this]
  exact List.perm_append_comm
 unfold c7
 split
 ·rename_i hlt
  have hlen : ((fy l i (l.length - 1)).take (l.length - 1)).length = l.length - 1 := by rw [List.length_take, fX]; omega
  refine h3.trans (List.Perm.cons _ ?_)
  exact ((BO _ _ _ (by rw [jL, hlen]; exact hlt)).trans (BP _ _ _ (by rw [hlen]; exact hlt))).symm
 ·exact h3
theorem BR : ∀ (f : Nat) (l : List bA) (now : Int), l.Perm ((eC f l now).2 ++ (eC f l now).1)
 | 0, l, _ => by simp [eC]
 | f + 1, l, now => by
  unfold eC
  split
  ·rename_i h
   refine (Fc h.1).trans ?_
   dsimp only
   exact List.Perm.cons _ (BR f _ now)
  ·simp
def iQ (g : Int) (x y : Wd) : Prop := y.ready.Nodup ∧ g ∉ y.ready ∧ (∀ q ∈ y.ready, 0 ≤ q ∧ q < y.gs.length ∧ ¬ At x q 1 ∧ (aq y q).st = 1) ∧
 (∀ q, 0 ≤ q → q ≠ g → q ∉ y.ready → aq y q = aq x q) ∧ x.gs.length ≤ y.gs.length ∧ ∀ q : Int, x.gs.length ≤ q → q < y.gs.length → q ∈ y.ready
section
variable {p : cv} {x y z : Wd} {g q k n : Int} {f : List cQ} {i : cQ} {v : Wt}
theorem iQ.refl (hr : x.ready = []) : iQ g x x := by
 refine ⟨by rw [hr]; exact List.nodup_nil, by rw [hr]; simp, fun q hq => ?_, fun _ _ _ _ => rfl, Nat.le_refl _, fun q a b => by omega⟩
 rw [hr] at hq; cases hq
theorem iQ.of (h : Wk x y) (hr : x.ready = []) (hg : At x g 1) : iQ g x y := by
 obtain ⟨a1, l, a2, a3, a4, a5⟩ := h
 rw [hr, List.nil_append] at a2
 rw [iQ, a2]
 refine ⟨a3, fun hm => (a4 g hm).2.2.1 hg.2.2, fun q hq => ?_, fun q q0 _ hn => a5 q q0 hn, by omega, fun q b c => by omega⟩
 obtain ⟨b1, b2, b3, b4⟩ := a4 q hq
 exact ⟨b1, by omega, fun ha => b3 ha.2.2, b4⟩
theorem iQ.NU (h : iQ g x y) (h1 : z.ready = y.ready) (h2 : z.gs.length = y.gs.length) (h3 : ∀ q, 0 ≤ q → q ≠ g → aq z q = aq y q) : iQ g x z := by
 obtain ⟨a1, a2, a3, a4, a5, a6⟩ := h
 rw [iQ, h1, h2]
 refine ⟨a1, a2, fun q hq => ?_, fun q q0 hne hn => by rw [h3 q q0 hne]; exact a4 q q0 hne hn, a5, a6⟩
 have hne : q ≠ g := fun e => a2 (e ▸ hq)
 obtain ⟨b1, b2, b3, b4⟩ := a3 q hq
 exact ⟨b1, b2, b3, by rw [h3 q b1 hne]; exact b4⟩
theorem iQ.pre (h : iQ g y z) (h2 : y.gs.length = x.gs.length) (h3 : ∀ q, 0 ≤ q → q ≠ g → aq y q = aq x q) : iQ g x z := by
 obtain ⟨a1, a2, a3, a4, a5, a6⟩ := h
 refine ⟨a1, a2, fun q hq => ?_, fun q q0 hne hn => by rw [a4 q q0 hne hn, h3 q q0 hne], by omega, fun q a b => a6 q (by omega) b⟩
 have hne : q ≠ g := fun e => a2 (e ▸ hq)
 obtain ⟨b1, b2, b3, b4⟩ := a3 q hq
 exact ⟨b1, b2, fun ha => b3 ⟨ha.1, by rw [h2]; exact ha.2.1, by rw [h3 q b1 hne]; exact ha.2.2⟩, b4⟩
theorem iQ.bS (h : iQ g x y) (h0 : 0 ≤ g) (hg : g < y.gs.length) : iQ g x (y.bB g q n) := h.NU rfl bW fun m m0 hne => nV h0 hg m0 hne
theorem sv {w : jt} (h0 : 0 ≤ g) (hg : g < x.gs.length) {m : Int} (m0 : 0 ≤ m) (hne : m ≠ g) : aq (x.bG g w) m = aq x m := by
 rw [iG hg h0, if_neg (by omega)]
theorem iQ.bG {w : jt} (h : iQ g x y) (h0 : 0 ≤ g) (hg : g < y.gs.length) : iQ g x (y.bG g w) := h.NU rfl (by simp [Wd.bG]) fun m m0 hne => sv h0 hg m0 hne
def iz (p : cv) (g : Int) (x : Wd) : Out Wd → Prop
 | .fM _ y => WV p y ∧ iQ g x y
 | .on y => WV p y ∧ iQ g x y
 | .dY _ _ => False
theorem iz.lt {r : Out Wd} (h : iz p g x r) (hg : At x g 1) : g < r.fin.gs.length := by
 cases r with
 | on y => have := h.2.2.2.2.2.1; have := hg.2.1; show g < y.gs.length; omega
 | fM n y => have := h.2.2.2.2.2.1; have := hg.2.1; show g < y.gs.length; omega
 | dY l y => exact h.elim
theorem nU.zH (h : nU x g) : cu x.aB g = 0 ∧ hJ x.aI g = 0 ∧ Fa x.hl g = 0 :=
 ⟨wV.2 h.1, z0.2 h.2.1, List.count_eq_zero.2 fun hm => by
  obtain ⟨y, hy, e⟩ := List.mem_map.1 hm
  exact h.2.2 y hy e⟩
theorem At.free (hg : At x g 1) (h : WV p x) : nU x g := h.free (by rw [hg.2.2]; decide) (by rw [hg.2.2]; decide)
theorem T4 (h : WV p x) (hg : At x g 1) (hi : kY p f i) (h9 : i.op = 9) (hr : x.ready = []) : (br x g ∧ bj i.b) ∧ iz p g x (x.call g i) := by
 obtain ⟨_, _, _, _, _, i9, _⟩ := hi
 obtain ⟨a0, a1, b1, c1⟩ := i9 (.inl h9)
 have hz := h.kO hg.1 hg.2.1
 refine ⟨⟨h.br hg.1 hg.2.1, b1⟩, ?_⟩
 unfold Wd.call
 split
 ·exact ⟨h, iQ.refl hr⟩
 ·rename_i hn
  refine ⟨h.bG hg.1 hg.2.1 ⟨by simp, by simp; omega, fun r hr => ?_, hz.wt, hz.st⟩ rfl rfl, (iQ.refl hr).bG hg.1 hg.2.1⟩
  rcases List.mem_append.1 hr with hr | hr
  ·exact hz.fr r hr
  ·simp only [List.mem_singleton] at hr; subst hr
   exact ⟨a0, a1, Int.le_refl 0, (by show (0 : Int) ≤ 64; decide), c1⟩
theorem T5 (h : WV p x) (hp : gf p) (hg : At x g 1) (hi : kY p f i) (h20 : i.op = 20) (hr : x.ready = []) : (br x g ∧ bj i.a ∧ x.Sm) ∧ iz p g x (x.emit g i) := by
 obtain ⟨_, _, _, _, _, _, i10, _⟩ := hi
 refine ⟨⟨h.br hg.1 hg.2.1, i10 (.inr (.inr (.inl h20))), h.sm hp (by rw [hr]; decide)⟩, ?_⟩
 unfold Wd.emit
 split
 ·exact ⟨h, iQ.refl hr⟩
 ·rename_i hn
  exact ⟨h.congr rfl (fun _ => ⟨rfl, rfl⟩) h.DR rfl rfl rfl (by simp; omega), (iQ.refl hr).NU rfl rfl fun _ _ _ => rfl⟩
theorem T6 (h : WV p x) (hg : At x g 1) (hi : kY p f i) (YP : i.op = 10) (hr : x.ready = []) : (br x g ∧ bj i.a ∧ bj (aq x g).top.pF) ∧ iz p g x (.on (x.back g i)) := by
 obtain ⟨_, _, _, _, _, _, i10, _⟩ := hi
 have hz := h.kO hg.1 hg.2.1
 refine ⟨⟨h.br hg.1 hg.2.1, i10 (.inl YP), hz.top.2.2.2.2⟩, ?_⟩
 have hf := hg.free h
 unfold Wd.back
 split
 ·rename_i h2
  refine ⟨h.bG hg.1 hg.2.1 ⟨by simp [jt.back]; omega, by have := hz.l2; simp [jt.back]; omega, fun r hr => ?_, hz.wt, hz.st⟩ rfl rfl, (iQ.refl hr).bG hg.1 hg.2.1⟩
  rcases List.mem_or_eq_of_mem_set hr with hr | rfl
  ·exact hz.fr r (List.mem_of_mem_take hr)
  ·refine HH.set ?_ _ _
   rw [List.getD_eq_getElem?_getD, List.getElem?_eq_getElem (by omega), Option.getD_some]
   exact hz.fr _ (List.getElem_mem _)
 ·have hd : WV p (x.bG g { aq x g with st := 4 }) := h.LA hg.1 hg.2.1 hf (hz.Q9 (by decide) (by decide))
  have Vr : iQ g x (x.bG g { aq x g with st := 4 }) := (iQ.refl hr).bG hg.1 hg.2.1
  split
  ·exact ⟨hd.congr rfl (fun _ => ⟨rfl, rfl⟩) hd.DR rfl rfl rfl hd.out, Vr.NU rfl rfl fun _ _ _ => rfl⟩
  ·exact ⟨hd, Vr⟩
theorem T7 (h : WV p x) (hp : gf p) (hg : At x g 1) (hf : f ∈ p.funcs) (hi : kY p f i) (h13 : i.op = 13) (hr : x.ready = []) :
  ((br x g ∧ bj i.b ∧ pq p x i.a (bD x g i.b) ∧ wS x g i (x.put p i.a (bD x g i.b))) ∧ x.Sm) ∧ iz p g x (x.send p g i) := by
 have hi' := hi
 obtain ⟨_, _, _, _, _, _, _, i13, Rd, _⟩ := hi'
 obtain ⟨a0, a1⟩ := i13 (.inl h13)
 have hk : u5 x i.a := ⟨a0, by rw [h.ch]; exact a1⟩
 obtain ⟨p1, p2⟩ := h.put (n := bD x g i.b) hp hk
 have Lp := h.br hg.1 hg.2.1
 have hs := h.sm hp (by rw [hr]; decide)
 have hfr := hg.free h
 obtain ⟨c, hc, ec⟩ := HJ hk
 have hm := List.mem_of_getElem? hc
 obtain ⟨s1, s2, s3⟩ := rH h hm
 unfold Wd.send
 generalize kG : x.put p i.a (bD x g i.b) = r at p2
 match r, p2 with
 | .fM n y, p2 =>
  exact ⟨⟨⟨Lp, Rd (.inl h13), p1, trivial⟩, hs⟩, p2.1, iQ.of (Wk.same p2.2.1 p2.2.2) hr hg⟩
 | .on (y, true), p2 =>
  exact ⟨⟨⟨Lp, Rd (.inl h13), p1, trivial⟩, hs⟩, p2.1, iQ.of p2.2 hr hg⟩
 | .on (y, false), p2 =>
  have p3 : y = x := p2
  subst p3
  refine ⟨⟨⟨Lp, Rd (.inl h13), p1, Lp, rfl, hk, by rw [ec]; exact ⟨by omega, by omega, by omega⟩⟩, hs⟩, ?_, ?_⟩
  ·have hb := h.block hg hf hi
   have eg : aq (y.block g i) g = { aq y g with st := 2, wt := i } := g9 hg.1 hg.2.1
   show WV p ((y.block g i).cE i.a { dg y.aB i.a with snd := (dg y.aB i.a).snd ++ [⟨g, 0, bD y g i.b⟩] })
   rw [ec]
   refine hb.more (c := c) (w := ⟨g, 0, bD y g i.b⟩) hc (h.buf c hm) (fun v hv => .inl hv) (fun v hv => ?_) (fun q => ?_) (fun _ => ?_) ?_
   ·rcases List.mem_append.1 hv with hv | hv
    ·exact .inl hv
    ·refine .inr ⟨by simpa using hv, ⟨hg.1, by simpa [Wd.block, Wd.bG] using hg.2.1, by rw [eg]⟩, .inl (by rw [eg]; exact h13)⟩
   ·unfold dk
    simp only [List.map_append, List.map_cons, List.map_nil, List.count_append, List.count_cons, List.count_nil]
    by_cases e : q = g
    ·subst e; simp; omega
    ·rw [if_neg e]
     have : (g == q) = false := by simp; exact fun h => e h.symm
     simp [this]
   ·have := hfr.zH
    show cu y.aB g + hJ y.aI g = 0
    omega
   ·have := hfr.zH
    show cu y.aB g < 32
    omega
  ·exact (iQ.refl hr).NU rfl (by simp [Wd.block, Wd.Lb, Wd.bG, Wd.cE]) fun m m0 hne => by
    show aq (y.bG g _) m = _
    exact sv hg.1 hg.2.1 m0 hne
 | .dY l y, p2 => exact p2.elim
end
section
variable {p : cv} {x y z : Wd} {g q k n : Int} {f : List cQ} {i : cQ} {v : Wt}
theorem l8 (l : List Int) (q g : Int) : (l ++ [g]).count q ≤ l.count q + (if q = g then 1 else 0) := by
 rw [List.count_append, List.count_cons, List.count_nil]
 by_cases e : q = g
 ·subst e; simp
 ·rw [if_neg e]
  have : (g == q) = false := by simp; exact fun h => e h.symm
  simp [this]
theorem T8 (h : WV p x) (hp : gf p) (hg : At x g 1) (hf : f ∈ p.funcs) (hi : kY p f i) (h14 : i.op = 14) (hr : x.ready = []) :
  (xU x g i ∧ x.Sm) ∧ iz p g x (.on (x.recv g i)) := by
 have hi' := hi
 obtain ⟨_, _, _, _, _, _, _, i13, Rd, i14, _⟩ := hi'
 obtain ⟨a0, a1⟩ := i13 (.inr (.inl h14))
 have hk : u5 x i.a := ⟨a0, by rw [h.ch]; exact a1⟩
 obtain ⟨p1, p2, p3, p4⟩ := h.get hp hk
 have Lp := h.br hg.1 hg.2.1
 have hs := h.sm hp (by rw [hr]; decide)
 have hfr := hg.free h
 obtain ⟨c, hc, ec⟩ := HJ hk
 have hm := List.mem_of_getElem? hc
 obtain ⟨s1, s2, s3⟩ := rH h hm
 have ek := p3.keep hg.1 hg.2.2
 have el := p3.1
 refine ⟨⟨⟨Lp, Rd (.inr h14), i14 (.inl h14), p1, p2.br hg.1 (by rw [el]; exact hg.2.1), by rw [ek], fun e => ?_⟩, hs⟩, ?_⟩
 ·rw [p4 e]
  exact ⟨hk, by rw [ec]; exact ⟨by omega, by omega, by omega⟩⟩
 ·unfold Wd.recv
  have Vr : iQ g x (x.get i.a).1 := iQ.of p3 hr hg
  split
  ·have r1 := p2.bB (g := g) (q := i.b) (n := (x.get i.a).2.1) hg.1 (by rw [el]; exact hg.2.1)
   refine ⟨r1.bB hg.1 (by rw [bW, el]; exact hg.2.1), (Vr.bS hg.1 (by rw [el]; exact hg.2.1)).bS hg.1 (by rw [bW, el]; exact hg.2.1)⟩
  ·rename_i e
   rw [p4 (by simpa using e)]
   have hb := h.block hg hf hi
   have eg : aq (x.block g i) g = { aq x g with st := 2, wt := i } := g9 hg.1 hg.2.1
   refine ⟨?_, ?_⟩
   ·show WV p ((x.block g i).cE i.a { dg x.aB i.a with dF := (dg x.aB i.a).dF ++ [⟨g, 0, 0⟩] })
    rw [ec]
    refine hb.more (c := c) (w := ⟨g, 0, 0⟩) hc (h.buf c hm) (fun v hv => ?_) (fun v hv => .inl hv) (fun q => ?_) (fun _ => ?_) ?_
    ·rcases List.mem_append.1 hv with hv | hv
     ·exact .inl hv
     ·exact .inr ⟨by simpa using hv, ⟨hg.1, by simpa [Wd.block, Wd.bG] using hg.2.1, by rw [eg]⟩, .inl (by rw [eg]; exact h14)⟩
    ·unfold dk
     rw [List.map_append, ← List.append_assoc]
     exact l8 _ _ _
    ·have := hfr.zH
     show cu x.aB g + hJ x.aI g = 0
     omega
    ·have := hfr.zH
     show cu x.aB g < 32
     omega
   ·exact (iQ.refl hr).NU rfl (by simp [Wd.block, Wd.Lc, Wd.bG, Wd.cE]) fun m m0 hne => by
     show aq (x.bG g _) m = _
     exact sv hg.1 hg.2.1 m0 hne
theorem T9 (h : WV p x) (hp : gf p) (hg : At x g 1) (hi : kY p f i) (h15 : i.op = 15) (hr : x.ready = []) :
  (oO p x i ∧ x.Sm) ∧ iz p g x (x.shut p i) := by
 have hi' := hi
 obtain ⟨_, _, _, _, _, _, _, i13, _⟩ := hi'
 obtain ⟨a0, a1⟩ := i13 (.inr (.inr h15))
 have hk : u5 x i.a := ⟨a0, by rw [h.ch]; exact a1⟩
 have hs := h.sm hp (by rw [hr]; decide)
 obtain ⟨c, hc, ec⟩ := HJ hk
 have hm := List.mem_of_getElem? hc
 obtain ⟨s1, s2, s3⟩ := rH h hm
 have hb := h.buf c hm
 have hrc := h.dF c hm
 unfold oO Wd.shut
 rw [ec]
 obtain ⟨room, buf, snd, dF, closed⟩ := c
 cases closed with
 | true =>
  refine ⟨⟨⟨hk, by dsimp only at *; omega, fun e => by simp [aV.close] at e⟩, hs⟩, ?_⟩
  simp only [aV.close, if_true]
  rw [oY hc]
  exact ⟨h, iQ.refl hr⟩
 | false =>
  have QN : WV p (x.cE i.a ⟨room, buf, [], [], true⟩) := h.less hc hb (fun v hv => by cases hv) (fun v hv => by cases hv) (fun q => by simp [dk])
  have Re := ym hp dF (x.cE i.a ⟨room, buf, [], [], true⟩) QN (by show x.ready.length + dF.length ≤ 1000000; rw [hr]; dsimp only [List.length_nil] at *; omega) (fun v hv => by
   obtain ⟨a, b⟩ := hrc v hv
   refine ⟨a.1, a.2.1, fun _ => ?_⟩
   rcases b with b | b
   ·refine .inl ⟨b, Fb h hc a.1 a.2.2 (by rw [b]; decide) ?_⟩
    have : 0 < List.count v.g (dk ⟨room, buf, snd, dF, false⟩) := List.count_pos_iff.2 (List.mem_append_right _ (List.mem_map.2 ⟨v, hv, rfl⟩))
    show List.count v.g (dk ⟨room, buf, [], [], true⟩) + 1 ≤ _
    simp only [dk, List.map_nil, List.append_nil, List.count_nil] at *
    omega
   ·exact .inr b)
  refine ⟨⟨⟨hk, by dsimp only at *; omega, fun _ _ => ?_⟩, hs⟩, ?_⟩
  ·simp only [aV.close, Bool.false_eq_true, if_false]
   exact Re.1
  ·simp only [aV.close, Bool.false_eq_true, if_false]
   rw [if_neg (by decide)]
   split
   ·exact ⟨QN, (iQ.refl hr).NU rfl rfl fun _ _ _ => rfl⟩
   ·exact ⟨Re.2.1, iQ.of (Wk.cE.trans Re.2.2) hr hg⟩
theorem Rf (h : WV p x) (hp : gf p) (hg : At x g 1) (hi : kY p f i) (h17 : i.op = 17) (hr : x.ready = []) :
  (br x g ∧ bj i.a ∧ x.hl.length < 1000000) ∧ iz p g x (.on (x.sleep g i)) := by
 obtain ⟨_, _, _, _, _, _, i10, _⟩ := hi
 refine ⟨⟨h.br hg.1 hg.2.1, i10 (.inr (.inl h17)), by have := h.Lz; omega⟩, ?_⟩
 unfold Wd.sleep
 split
 ·have hf := hg.free h
  have hz := h.kO hg.1 hg.2.1
  have h1 := h.LA hg.1 hg.2.1 hf (hz.Q9 (s := 3) (by decide) (by decide))
  have Vr : iQ g x (x.bG g { aq x g with st := 3 }) := (iQ.refl hr).bG hg.1 hg.2.1
  refine ⟨⟨h1.n1, h1.n2, h1.DR, h1.ch, h1.lk, h1.buf, h1.dF, h1.snd, h1.lw, fun w hw => ?_, h1.one, h1.EZ, fun q => ?_, h1.out⟩, Vr.NU rfl rfl fun _ _ _ => rfl⟩
  ·have I8 := BQ.mem_iff.1 hw
   rcases List.mem_append.1 I8 with I8 | I8
   ·exact h1.hl w I8
   ·simp only [List.mem_singleton] at I8; subst I8
    refine ⟨hg.1, by simpa [Wd.bG] using hg.2.1, ?_⟩
    show (aq (x.bG g { aq x g with st := 3 }) g).st = 3
    rw [g9 hg.1 hg.2.1]
  ·show Fa (ua x.hl _) q ≤ 1
   unfold Fa
   rw [(BQ.map bA.id).count_eq, List.map_append, List.map_cons, List.map_nil]
   have a := l8 (x.hl.map bA.id) q g
   have b := h.h1 q
   unfold Fa at b
   by_cases e : q = g
   ·subst e
    have := hf.zH.2.2
    unfold Fa at this
    rw [if_pos rfl] at a
    dsimp only at *
    omega
   ·rw [if_neg e] at a
    dsimp only at *
    omega
 ·exact ⟨h, iQ.refl hr⟩
theorem Vs (hk : E4 x k) : ∃ c, x.aI[k.toNat]? = some c ∧ kq x k = c := by
 obtain ⟨k0, k1⟩ := hk
 obtain ⟨c, hc⟩ := aM (l := x.aI) (i := k.toNat) (by omega)
 exact ⟨c, hc, by simp [kq, hc]⟩
theorem WV.Ko (h : WV p x) {c c' : Lk} (hc : x.aI[k.toNat]? = some c) (hr : ∀ v ∈ c'.waits, v ∈ c.waits) (hn : ∀ q, c'.waits.count q ≤ c.waits.count q) : WV p (x.gU k c') := by
 have hm : c ∈ x.aI := List.mem_of_getElem? hc
 refine ⟨h.n1, h.n2, h.DR, h.ch, by simpa [Wd.gU] using h.lk, h.buf, h.dF, h.snd, fun d hd v hv => ?_, h.hl, fun q q0 hq => ?_, h.EZ, h.h1, h.out⟩
 ·rcases jR hd with hd | rfl
  ·exact h.lw d hd v hv
  ·exact h.lw c hm v (hr v hv)
 ·have a := h.one q q0 hq
  have b := mQ (fun l : Lk => l.waits.count q) x.aI k.toNat c' c hc
  have := hn q
  show cu x.aB q + hJ (x.aI.set k.toNat c') q ≤ 1
  unfold hJ at *
  omega
theorem Ua (h : WV p x) (hp : gf p) (hg : At x g 1) (hf : f ∈ p.funcs) (hi : kY p f i) (Vp : i.op = 18) (hr : x.ready = []) :
  (br x g ∧ E4 x i.a ∧ x.Sm) ∧ iz p g x (.on (x.lock g i)) := by
 have hi' := hi
 obtain ⟨_, _, _, _, _, _, _, _, _, _, _, i18, _⟩ := hi'
 obtain ⟨a0, a1⟩ := i18 (.inl Vp)
 have hk : E4 x i.a := ⟨a0, by rw [h.lk]; exact a1⟩
 refine ⟨⟨h.br hg.1 hg.2.1, hk, h.sm hp (by rw [hr]; decide)⟩, ?_⟩
 obtain ⟨c, hc, ec⟩ := Vs hk
 have hm := List.mem_of_getElem? hc
 have hfr := hg.free h
 unfold Wd.lock
 rw [ec]
 unfold Lk.take
 split
 ·dsimp only
  rw [if_pos rfl]
  exact ⟨h.Ko hc (fun v hv => hv) (fun q => Nat.le_refl _), (iQ.refl hr).NU rfl rfl fun _ _ _ => rfl⟩
 ·dsimp only
  rw [if_neg (by decide)]
  have hb := h.block hg hf hi
  have eg : aq (x.block g i) g = { aq x g with st := 2, wt := i } := g9 hg.1 hg.2.1
  refine ⟨?_, ?_⟩
  ·show WV p ((x.block g i).gU i.a ⟨c.owner, c.waits ++ [g]⟩)
   refine ⟨hb.n1, hb.n2, hb.DR, hb.ch, by simpa [Wd.gU] using hb.lk, hb.buf, hb.dF, hb.snd, fun d hd v hv => ?_, hb.hl, fun q q0 hq => ?_, hb.EZ, hb.h1, hb.out⟩
   ·rcases jR hd with hd | rfl
    ·exact hb.lw d hd v hv
    ·rcases List.mem_append.1 hv with hv | hv
     ·exact hb.lw c hm v hv
     ·simp only [List.mem_singleton] at hv; subst hv
      exact ⟨⟨hg.1, by simpa [Wd.gU, Wd.block, Wd.bG] using hg.2.1, by show (aq (x.block v i) v).st = 2; rw [eg]⟩, by show (aq (x.block v i) v).wt.op = 18; rw [eg]; exact Vp⟩
   ·have a := hb.one q q0 hq
    have b := mQ (fun l : Lk => l.waits.count q) x.aI i.a.toNat ⟨c.owner, c.waits ++ [g]⟩ c hc
    have d := l8 c.waits q g
    show cu x.aB q + hJ (x.aI.set i.a.toNat _) q ≤ 1
    have a' : cu x.aB q + hJ x.aI q ≤ 1 := a
    by_cases e : q = g
    ·subst e
     have := hfr.zH
     rw [if_pos rfl] at d
     unfold hJ at *
     dsimp only at *
     omega
    ·rw [if_neg e] at d
     unfold hJ at *
     dsimp only at *
     omega
  ·exact (iQ.refl hr).NU rfl (by simp [Wd.block, Wd.gU, Wd.bG]) fun m m0 hne => by
    show aq (x.bG g _) m = _
    exact sv hg.1 hg.2.1 m0 hne
theorem NV (h : WV p x) (hp : gf p) (hg : At x g 1) (hi : kY p f i) (h19 : i.op = 19) (hr : x.ready = []) :
  (nK x g i ∧ x.Sm) ∧ iz p g x (x.unlock g i) := by
 have hi' := hi
 obtain ⟨_, _, _, _, _, _, _, _, _, _, _, i18, _⟩ := hi'
 obtain ⟨a0, a1⟩ := i18 (.inr h19)
 have hk : E4 x i.a := ⟨a0, by rw [h.lk]; exact a1⟩
 have hs := h.sm hp (by rw [hr]; decide)
 obtain ⟨c, hc, ec⟩ := Vs hk
 have hm := List.mem_of_getElem? hc
 have hw := h.lw c hm
 unfold nK Wd.unlock
 rw [ec]
 unfold Lk.tP
 split
 ·refine ⟨⟨⟨hk, fun e => absurd rfl e⟩, hs⟩, ?_⟩
  dsimp only
  rw [if_pos (by decide)]
  have e : x.gU i.a c = x := by unfold Wd.gU; rw [dI _ _ _ hc]
  rw [e]
  exact ⟨h, iQ.refl hr⟩
 ·obtain ⟨o, ws⟩ := c
  cases ws with
  | nil =>
   refine ⟨⟨⟨hk, fun e => absurd rfl e⟩, hs⟩, ?_⟩
   split
   ·rename_i e; exact absurd rfl e
   ·split
    ·rename_i e; exact absurd rfl e
    ·exact ⟨h.Ko (c' := ⟨-1, []⟩) hc (fun v hv => by cases hv) (fun q => by simp), (iQ.refl hr).NU rfl rfl fun _ _ _ => rfl⟩
  | cons w ws =>
   obtain ⟨a, b⟩ := hw w (by simp)
   refine ⟨⟨⟨hk, fun _ => ⟨a.1, a.2.1⟩⟩, hs⟩, ?_⟩
   have hne : w ≠ -1 := by have := a.1; omega
   have hl : WV p (x.gU i.a ⟨w, ws⟩) := h.Ko hc (fun v hv => List.mem_cons_of_mem _ hv) (fun q => by simp only [List.count_cons]; omega)
   have hfr : nU (x.gU i.a ⟨w, ws⟩) w := by
    have o1 := h.one w a.1 (by rw [b]; decide)
    have s := mQ (fun l : Lk => l.waits.count w) x.aI i.a.toNat ⟨w, ws⟩ ⟨o, w :: ws⟩ hc
    simp only [List.count_cons, beq_self_eq_true, if_true] at s
    have e1 : hJ (x.aI.set i.a.toNat ⟨w, ws⟩) w = 0 := by unfold hJ at *; omega
    have e2 : cu x.aB w = 0 := by
     have := BK (fun l : Lk => l.waits.count w) x.aI ⟨o, w :: ws⟩ hm
     simp only [List.count_cons, beq_self_eq_true, if_true] at this
     unfold hJ at *; omega
    refine ⟨wV.1 e2, z0.1 e1, fun y hy e => ?_⟩
    have := (h.hl y hy).2.2
    rw [e, a.2.2] at this
    cases this
   have hres : iz p g x (.on ((x.gU i.a ⟨w, ws⟩).fL w)) := ⟨hl.fL a.1 a.2.1 hfr, iQ.of (Wk.trans (Wk.same rfl rfl) (Wk.fL (x := x.gU i.a ⟨w, ws⟩) a.1 a.2.1 (by show (aq x w).st ≠ 1; rw [a.2.2]; decide))) hr hg⟩
   split
   ·rename_i e; exact absurd rfl e
   ·split
    ·exact hres
    ·rename_i e; exact absurd hne e
end
section
variable {p : cv} {x y z : Wd} {g q k n : Int} {f : List cQ} {i : cQ} {v : Wt}
theorem lK {w : jt} (h0 : 0 ≤ q) (hq : q < x.gs.length) : aq { x with gs := x.gs ++ [w] } q = aq x q := by
 unfold aq
 dsimp only
 rw [List.getD_eq_getElem?_getD, List.getD_eq_getElem?_getD, List.getElem?_append_left (by omega)]
theorem DU {w : jt} : aq { x with gs := x.gs ++ [w] } (x.gs.length : Int) = w := by
 unfold aq
 dsimp only
 rw [Int.toNat_natCast, List.getD_eq_getElem?_getD, List.getElem?_append_right (Nat.le_refl _)]
 simp
theorem WV.spawn (h : WV p x) (hn : x.gs.length < 100) {w : jt} (hw : pV p w) : WV p { x with gs := x.gs ++ [w] } := by
 have at_ : ∀ q s, At x q s → At { x with gs := x.gs ++ [w] } q s := fun q s ha => ⟨ha.1, by have := ha.2.1; simp; omega, by rw [lK ha.1 ha.2.1]; exact ha.2.2⟩
 refine ⟨by simp, by simp; omega, fun z hz => ?_, h.ch, h.lk, h.buf, fun c hc v hv => ?_, fun c hc v hv => ?_, fun l hl q hq => ?_, fun z hz => at_ _ _ (h.hl z hz), fun q q0 hq => ?_, h.EZ, h.h1, h.out⟩
 ·rcases List.mem_append.1 hz with hz | hz
  ·exact h.DR z hz
  ·simp only [List.mem_singleton] at hz; subst hz; exact hw
 ·obtain ⟨a, b⟩ := h.dF c hc v hv
  rw [lK a.1 a.2.1]
  exact ⟨at_ _ _ a, b⟩
 ·obtain ⟨a, b⟩ := h.snd c hc v hv
  rw [lK a.1 a.2.1]
  exact ⟨at_ _ _ a, b⟩
 ·obtain ⟨a, b⟩ := h.lw l hl q hq
  rw [lK a.1 a.2.1]
  exact ⟨at_ _ _ a, b⟩
 ·by_cases hlt : q < x.gs.length
  ·rw [lK q0 hlt] at hq
   exact h.one q q0 hq
  ·refine h.one q q0 ?_
   unfold aq
   rw [List.getD_eq_getElem?_getD, List.getElem?_eq_none (by omega)]
   decide
theorem Rh {w : jt} : Wd.fL { x with gs := x.gs ++ [{ w with st := 0 }] } (x.gs.length : Int) = { x with gs := x.gs ++ [{ w with st := 1 }], ready := x.ready ++ [(x.gs.length : Int)] } := by
 unfold Wd.fL Wd.bG
 rw [DU]
 simp [List.set_append_right]
theorem Ri (h : WV p x) (hp : gf p) (hg : At x g 1) (hi : kY p f i) (h11 : i.op = 11) (hr : x.ready = []) : (br x g ∧ bj i.b ∧ bj i.c ∧ x.Sm) ∧ iz p g x (x.spawn g i) := by
 obtain ⟨_, _, _, _, _, i9, _⟩ := hi
 obtain ⟨a0, a1, b1, c1⟩ := i9 (.inr h11)
 refine ⟨⟨h.br hg.1 hg.2.1, b1, c1, h.sm hp (by rw [hr]; decide)⟩, ?_⟩
 unfold Wd.spawn
 split
 ·exact ⟨h, iQ.refl hr⟩
 ·rename_i hn
  rw [Rh (w := ⟨0, [gH.begin i.a (bD x g i.b)], .zero⟩)]
  have hw : pV p ⟨1, [gH.begin i.a (bD x g i.b)], .zero⟩ := ⟨by simp, by simp, fun r hr => by
   simp only [List.mem_singleton] at hr; subst hr
   exact ⟨a0, a1, Int.le_refl 0, (by show (0 : Int) ≤ 64; decide), by show bj 0; decide⟩, (fun e => by cases e), by show (1 : Int) ≤ 1 ∧ (1 : Int) ≤ 4; decide⟩
  have h1 := (h.spawn (by omega) hw).ready (r := x.ready ++ [(x.gs.length : Int)])
  have hlen : g < (x.gs ++ [(⟨1, [gH.begin i.a (bD x g i.b)], .zero⟩ : jt)]).length := by have := hg.2.1; simp; omega
  refine ⟨h1.bB hg.1 hlen, ?_⟩
  have Vr : iQ g x { x with gs := x.gs ++ [⟨1, [gH.begin i.a (bD x g i.b)], .zero⟩], ready := x.ready ++ [(x.gs.length : Int)] } := by
   rw [iQ, hr]
   simp only [List.nil_append, List.length_append, List.length_cons, List.length_nil]
   refine ⟨by simp, by have := hg.2.1; simp; omega, fun q hq => ?_, fun q q0 _ hn => ?_, by omega, fun q a b => by simp; omega⟩
   ·simp only [List.mem_singleton] at hq; subst hq
    exact ⟨by omega, by omega, fun ha => by have := ha.2.1; omega, by show (aq { x with gs := x.gs ++ [_] } _).st = 1; rw [DU]⟩
   ·show aq { x with gs := x.gs ++ [_] } q = aq x q
    by_cases hlt : q < x.gs.length
    ·exact lK q0 hlt
    ·simp only [List.mem_singleton] at hn
     unfold aq
     dsimp only
     rw [List.getD_eq_getElem?_getD, List.getD_eq_getElem?_getD, List.getElem?_eq_none (by simp; omega), List.getElem?_eq_none (by omega)]
  exact Vr.bS hg.1 hlen
theorem LD (h : WV p x) (hg : At x g 2) (wG : (aq x g).wt.op = 16) (hf : nU x g) {gm : List Int} {cases : List po} (hc : ∀ c ∈ cases, c.Ok x.aB.length) (hb : (cases.length : Int) ≤ (aq x g).wt.b) (h32 : cases.length ≤ 32) :
  ∀ j, j ≤ cases.length → WV p { x with aB := eO g gm cases x.aB j } ∧ cu (eO g gm cases x.aB j) g ≤ j
 | 0, _ => ⟨h, by show cu x.aB g ≤ 0; have := hf.zH; omega⟩
 | j + 1, hj => by
  obtain ⟨ih, ic⟩ := LD h hg wG hf (gm := gm) hc hb h32 j (by omega)
  obtain ⟨c, Fk⟩ := aM (l := cases) (i := j) (by omega)
  have ok := hc c (List.mem_of_getElem? Fk)
  unfold eO
  rw [Fk]
  dsimp only
  unfold lu
  generalize hcs : eO g gm cases x.aB j = cs at ih ic
  have hlen : cs.length = x.aB.length := by
   have a := ih.ch
   have b := h.ch
   dsimp only at a
   omega
  have key : ∀ d : aV, (c.way = 0 ∨ c.way = 1) → dg cs c.ch = d → ∀ d' : aV, d'.buf = d.buf → d'.room = d.room →
    ((∀ v ∈ d'.dF, v ∈ d.dF ∨ v = ⟨g, j, 0⟩) ∧ d'.snd = d.snd ∨ (∀ v ∈ d'.snd, v ∈ d.snd ∨ v = ⟨g, j, gm.getD c.bS.toNat 0⟩) ∧ d'.dF = d.dF) →
    (∀ q, (dk d').count q ≤ (dk d).count q + (if q = g then 1 else 0)) →
    WV p { x with aB := cs.set c.ch.toNat d' } ∧ cu (cs.set c.ch.toNat d') g ≤ j + 1 := by
   intro d Y5 hd d' e1 e2 e3 hn
   obtain ⟨k0, k1, _⟩ := ok.2.2 (by rcases Y5 with e | e <;> rw [e] <;> decide)
   obtain ⟨d2, QJ⟩ := aM (l := cs) (i := c.ch.toNat) (by omega)
   have : d2 = d := by rw [← hd]; simp [dg, QJ]
   subst this
   have hm : d2 ∈ cs := List.mem_of_getElem? QJ
   have hbuf := ih.buf d2 hm
   refine ⟨?_, ?_⟩
   ·rcases e3 with ⟨e3, e4⟩ | ⟨e3, e4⟩
    ·exact ih.more (k := c.ch) (w := ⟨g, j, 0⟩) QJ (by rw [e1, e2]; exact hbuf) (fun v hv => by
      rcases e3 v hv with e | e
      ·exact .inl e
      ·exact .inr ⟨e, hg, .inr ⟨wG, by dsimp only; omega, by dsimp only; show (j : Int) < (aq x g).wt.b; omega⟩⟩) (fun v hv => .inl (by rw [← e4]; exact hv)) hn (fun e => absurd wG e) (by show cu cs g < 32; omega)
    ·exact ih.more (k := c.ch) (w := ⟨g, j, gm.getD c.bS.toNat 0⟩) QJ (by rw [e1, e2]; exact hbuf) (fun v hv => .inl (by rw [← e4]; exact hv)) (fun v hv => by
      rcases e3 v hv with e | e
      ·exact .inl e
      ·exact .inr ⟨e, hg, .inr ⟨wG, by dsimp only; omega, by dsimp only; show (j : Int) < (aq x g).wt.b; omega⟩⟩) hn (fun e => absurd wG e) (by show cu cs g < 32; omega)
   ·have a := mQ (fun c : aV => (dk c).count g) cs c.ch.toNat d' d2 QJ
    have b := hn g
    rw [if_pos rfl] at b
    unfold cu at *
    omega
  split
  ·rename_i hw
   refine key _ (.inl hw) rfl _ rfl rfl (.inl ⟨fun v hv => ?_, rfl⟩) (fun q => ?_)
   ·rcases List.mem_append.1 hv with hv | hv
    ·exact .inl hv
    ·exact .inr (by simpa using hv)
   ·unfold dk
    rw [List.map_append, ← List.append_assoc]
    exact l8 _ _ _
  ·split
   ·rename_i hw
    refine key _ (.inr hw) rfl _ rfl rfl (.inr ⟨fun v hv => ?_, rfl⟩) (fun q => ?_)
    ·rcases List.mem_append.1 hv with hv | hv
     ·exact .inl hv
     ·exact .inr (by simpa using hv)
    ·unfold dk
     have := l8 ((dg cs c.ch).snd.map Wt.g) q g
     simp only [List.map_append, List.map_cons, List.map_nil, List.count_append] at *
     omega
   ·exact ⟨ih, by omega⟩
end
section
variable {p : cv} {x y z : Wd} {g q k n : Int} {f : List cQ} {i : cQ} {v : Wt} {d : kW}
theorem pV.Ub {w : jt} (h : pV p w) (CG : w.top.pc + 1 ≤ 64) : pV p (w.cW w.top.next) :=
 h.cW ⟨h.top.1, h.top.2.1, by have := h.top.2.2.1; show 0 ≤ w.top.pc + 1; omega, CG, h.top.2.2.2.2⟩
theorem WV.next (h : WV p x) (hg : At x g 1) (CG : (aq x g).top.pc + 1 ≤ 64) : WV p (x.next g) ∧ At (x.next g) g 1 ∧ (x.next g).gs.length = x.gs.length ∧ (∀ q, 0 ≤ q → q ≠ g → aq (x.next g) q = aq x q) ∧ (aq (x.next g) g).fs.length = (aq x g).fs.length := by
 have hz := (h.kO hg.1 hg.2.1).Ub CG
 have e : aq (x.next g) g = (aq x g).cW (aq x g).top.next := g9 hg.1 hg.2.1
 refine ⟨h.bG hg.1 hg.2.1 hz rfl rfl, ⟨hg.1, by simpa [Wd.next, Wd.bG] using hg.2.1, by rw [e]; exact hg.2.2⟩, by simp [Wd.next, Wd.bG], fun q q0 hne => sv hg.1 hg.2.1 q0 hne, by rw [e]; simp [jt.cW]⟩
theorem DV {c : po} (h : c ∈ aD p i) : c ∈ p.cases := List.mem_of_mem_drop (List.mem_of_mem_take h)
theorem HK {cases : List po} {cs : List aV} (h : k ∈ enabled cases cs) : ∃ (j : Nat) (c : po), k = (j : Int) ∧ j < cases.length ∧ cases[j]? = some c ∧ can cs c = true := by
 unfold enabled Er at h
 obtain ⟨j, hj, rfl⟩ := List.mem_map.1 h
 obtain ⟨h1, h2⟩ := List.mem_filter.1 hj
 rw [List.mem_range] at h1
 obtain ⟨c, hc⟩ := aM (l := cases) (i := j) (by omega)
 unfold Po at h2
 rw [hc] at h2
 exact ⟨j, c, rfl, h1, hc, h2⟩
theorem NW (h : WV p x) (hp : gf p) (hg : At x g 1) (hf : f ∈ p.funcs) (hi : kY p f i) (wG : i.op = 16) (hr : x.ready = []) (CG : (aq x g).top.pc + 1 ≤ 64)
  (hd : ∀ v, d = .num v → enabled (aD p i) x.aB ≠ [] → 0 ≤ v ∧ v < (enabled (aD p i) x.aB).length) :
  nL p x g i d = true ∧ (iz p g x (x.choose p g i d) ∨ ∃ l, d = .dY l ∧ x.choose p g i d = .dY l x) := by
 have hi' := hi
 obtain ⟨_, _, _, _, _, _, _, _, _, i14, i16, _⟩ := hi'
 have hc := i14 (.inr wG)
 obtain ⟨a0, b1, ab⟩ := i16 wG
 have hcs := hp.cs
 have Lp := h.br hg.1 hg.2.1
 have hs := h.sm hp (by rw [hr]; decide)
 obtain ⟨n1, n2, n3, n4, n5⟩ := h.next hg CG
 have TL := (h.kO hg.1 hg.2.1).top.2.2.1
 have QN : (aD p i).length = i.b.toNat := by
  unfold aD
  rw [List.length_take, List.length_drop]; omega
 have Y6 : ∀ c ∈ aD p i, c.Ok x.aB.length := fun c hc => by rw [h.ch]; exact (hp.cas c (DV hc)).1
 have hne1 : (x.next g).aB = x.aB := rfl
 have Vt : ∀ k, k ∈ enabled (aD p i) x.aB → Bq p x g i k ∧ iz p g x (x.qY p g i k) := by
  intro k hk
  obtain ⟨j, c, rfl, hj, Fk, hcan⟩ := HK hk
  have hm : c ∈ aD p i := List.mem_of_getElem? Fk
  have hrg := (hp.cas c (DV hm)).2
  have hok := Y6 c hm
  have ec : (aD p i).getD (j : Int).toNat ⟨0, 0, 0⟩ = c := by rw [Int.toNat_natCast, List.getD_eq_getElem?_getD, Fk]; rfl
  have Y5 : c.way = 0 ∨ c.way = 1 := by
   unfold can at hcan
   split at hcan
   ·rename_i e; exact .inl e
   ·split at hcan
    ·rename_i e; exact .inr e
    ·cases hcan
  obtain ⟨k0, k1, _⟩ := hok.2.2 (by rcases Y5 with e | e <;> rw [e] <;> decide)
  have hk1 : u5 (x.next g) c.ch := ⟨k0, k1⟩
  unfold Bq Wd.qY
  rw [ec]
  dsimp only
  by_cases hw : c.way = 1
  ·rw [if_pos hw, if_pos hw]
   obtain ⟨p1, p2⟩ := n1.put (n := bD (x.next g) g c.bS) hp hk1
   generalize (x.next g).put p c.ch (bD (x.next g) g c.bS) = r at p2
   match r, p2 with
   | .fM n y, p2 => exact ⟨⟨by omega, by omega, hrg, p1, trivial⟩, p2.1, (iQ.of (Wk.same p2.2.1 p2.2.2) hr n2).pre n3 n4⟩
   | .on (y, true), p2 =>
    have ek := p2.2.keep hg.1 n2.2.2
    have el : g < y.gs.length := by rw [p2.2.1, n3]; exact hg.2.1
    exact ⟨⟨by omega, by omega, hrg, p1, p2.1.br hg.1 el, by rw [ek, n5]⟩, p2.1.bB hg.1 el, ((iQ.of p2.2 hr n2).pre n3 n4).bS hg.1 el⟩
   | .on (y, false), p2 =>
    have p3 : y = x.next g := p2
    subst p3
    have el : g < (x.next g).gs.length := by rw [n3]; exact hg.2.1
    exact ⟨⟨by omega, by omega, hrg, p1, n1.br hg.1 el, n5⟩, n1.bB hg.1 el, ((iQ.refl (x := x.next g) hr).pre n3 n4).bS hg.1 el⟩
   | .dY l y, p2 => exact p2.elim
  ·rw [if_neg hw, if_neg hw]
   obtain ⟨p1, p2, p3, _⟩ := n1.get hp hk1
   have ek := p3.keep hg.1 n2.2.2
   have el : g < ((x.next g).get c.ch).1.gs.length := by rw [p3.1, n3]; exact hg.2.1
   have r1 := p2.bB (g := g) (q := c.bS) (n := ((x.next g).get c.ch).2.1) hg.1 el
   exact ⟨⟨by omega, by omega, hrg, p1, p2.br hg.1 el, by rw [ek, n5]⟩, r1.bB hg.1 (by rw [bW]; exact el), (((iQ.of p3 hr n2).pre n3 n4).bS hg.1 el).bS hg.1 (by rw [bW]; exact el)⟩
 refine ⟨?_, ?_⟩
 ·unfold nL
  rw [Bool.and_eq_true]
  refine ⟨decide_eq_true ⟨Lp, ⟨a0, by omega, ab, by omega⟩, hc, hs, by omega, TL, Y6⟩, ?_⟩
  cases d with
  | dY l => rfl
  | num v =>
   dsimp only
   cases he : enabled (aD p i) x.aB with
   | nil => rfl
   | cons q t =>
    rw [List.isEmpty_cons, Bool.false_or]
    obtain ⟨v0, v1⟩ := hd v rfl (by rw [he]; simp)
    rw [he] at v1
    refine decide_eq_true ⟨v0, v1, (Vt _ ?_).1⟩
    rw [he, List.getD_eq_getElem?_getD, List.getElem?_eq_getElem (by omega), Option.getD_some]
    exact List.getElem_mem _
 ·unfold Wd.choose
  split
  ·refine .inl ?_
   unfold Wd.u9
   dsimp only
   split
   ·exact ⟨n1.bB hg.1 (by rw [n3]; exact hg.2.1), ((iQ.refl (x := x.next g) hr).pre n3 n4).bS hg.1 (by rw [n3]; exact hg.2.1)⟩
   ·have hb := n1.block n2 hf hi
    have eg : aq ((x.next g).block g i) g = { aq (x.next g) g with st := 2, wt := i } := g9 hg.1 (by rw [n3]; exact hg.2.1)
    have hfr := n2.free n1
    have hw := (LD (x := (x.next g).block g i) hb ⟨hg.1, by simpa [Wd.block, Wd.bG, n3] using hg.2.1, by rw [eg]⟩ (by rw [eg]; exact wG) hfr (gm := wP (aq (x.next g) g).top) (cases := aD p i) Y6 (by rw [eg, QN]; show ((i.b.toNat : Nat) : Int) ≤ i.b; omega) (by omega) (aD p i).length (Nat.le_refl _)).1
    refine ⟨hw, ((iQ.refl (x := x.next g) hr).pre n3 n4).NU rfl (by simp [Wd.block, Wd.bG]) fun m m0 hne => ?_⟩
    show aq ((x.next g).bG g _) m = _
    exact sv hg.1 (by rw [n3]; exact hg.2.1) m0 hne
  ·rename_i hne
   cases d with
   | num v =>
    refine .inl (Vt _ ?_).2
    obtain ⟨v0, v1⟩ := hd v rfl hne
    rw [List.getD_eq_getElem?_getD, List.getElem?_eq_getElem (by omega), Option.getD_some]
    exact List.getElem_mem _
   | dY l => exact .inr ⟨l, rfl, rfl⟩
theorem Rj (h : WV p x) (hp : gf p) (h0 : 0 ≤ g) (hd : ∀ v kd n, d = .num v → asks p { x with ready := [] } g = some (kd, n) → 0 ≤ v ∧ v < n) :
  ∃ r rest, yX p x g d = some (r, rest) ∧ (iz p g { x with ready := [] } r ∧ (yW { x with ready := [] } g ∨ r = .on { x with ready := [] } ∧ rest = true) ∨ ∃ l, d = .dY l ∧ r = .dY l { x with ready := [] } ∧ rest = false ∧ yW { x with ready := [] } g ∧ asks p { x with ready := [] } g ≠ none) := by
 have h := h.ready (r := [])
 generalize hx : ({ x with ready := [] } : Wd) = x' at h hd
 have hr : x'.ready = [] := by rw [← hx]
 unfold yX
 rw [hx]
 dsimp only
 split
 ·rename_i Rk
  have hg : At x' g 1 := ⟨Rk.1, Rk.2.1, Rk.2.2.2⟩
  have hz := h.kO hg.1 hg.2.1
  obtain ⟨t1, t2, t3, t4, t5⟩ := hz.top
  rw [if_pos ⟨h.br hg.1 hg.2.1, t1, t3, by omega⟩]
  obtain ⟨code, nJ⟩ := aM (l := p.funcs) (i := (aq x' g).top.fn.toNat) (by omega)
  rw [nJ]
  dsimp only
  have hf : code ∈ p.funcs := List.mem_of_getElem? nJ
  obtain ⟨c1, c2, c3⟩ := hp.code code hf
  cases Y7 : code[(aq x' g).top.pc.toNat]? with
  | none => exact ⟨_, _, rfl, .inl ⟨⟨h, iQ.refl hr⟩, .inl Rk⟩⟩
  | some i =>
   dsimp only
   have hi : kY p code i := c3 i (List.mem_of_getElem? Y7)
   have hi' := hi
   obtain ⟨o0, o1, o2, o7, o8, o9, o10, o13, o13b, o14, o16, o18, o21⟩ := hi'
   have Zo := (List.getElem?_eq_some_iff.1 Y7).1
   have CG : (aq x' g).top.pc + 1 ≤ 64 := by omega
   obtain ⟨n1, n2, n3, n4, n5⟩ := h.next hg CG
   have CH : (x'.next g).ready = [] := hr
   have zz : asks p x' g = if i.op = 21 then some (4, i.b) else if i.op = 16 then (if enabled (aD p i) x'.aB = [] then none else some (3, (enabled (aD p i) x'.aB).length)) else none := by
    unfold asks Hq
    rw [if_pos Rk, nJ]
    dsimp only
    rw [Y7]
   have fin : ∀ {r : Out Wd}, iz p g (x'.next g) r → iz p g x' r := by
    intro r hres
    cases r with
    | on y => exact ⟨hres.1, hres.2.pre n3 n4⟩
    | fM n y => exact ⟨hres.1, hres.2.pre n3 n4⟩
    | dY l y => exact hres.elim
   split
   ·rename_i h8
    try rw [if_pos o2]
    refine ⟨_, _, rfl, .inl ⟨⟨h.bG hg.1 hg.2.1 (hz.cW ?_) rfl rfl, (iQ.refl hr).bG hg.1 hg.2.1⟩, .inl Rk⟩⟩
    unfold gH.pure
    have base : HH p (aq x' g).top.next := ⟨t1, t2, by show 0 ≤ (aq x' g).top.pc + 1; omega, CG, t5⟩
    split; exact base
    split; exact base.set _ _
    split; exact base.set _ _
    split; exact base.set _ _
    split; exact base.set _ _
    split; exact base.set _ _
    split; exact base.set _ _
    split
    ·rename_i e
     exact ⟨t1, t2, (o7 e).1, by have := (o7 e).2; show i.a ≤ 64; omega, t5⟩
    ·split
     ·have := o8 (by omega)
      exact ⟨t1, t2, this.1, by show i.b ≤ 64; omega, t5⟩
     ·exact base
   ·rename_i h8
    split
    ·rename_i wG
     have hw := NW (d := d) h hp hg hf hi wG hr CG (fun v hv hne => by
      refine hd v 3 _ hv ?_
      rw [zz, if_neg (by omega), if_pos wG, if_neg hne])
     rw [if_pos hw.1]
     rcases hw.2 with I8 | ⟨l, Ej, I8⟩
     ·rw [if_pos (I8.lt hg)]
      exact ⟨_, _, rfl, .inl ⟨I8, .inl Rk⟩⟩
     ·rw [I8, if_pos (show g < (Out.fin (.dY l x')).gs.length from hg.2.1)]
      refine ⟨_, _, rfl, .inr ⟨l, Ej, rfl, rfl, Rk, ?_⟩⟩
      rw [zz, if_neg (by omega), if_pos wG]
      split
      ·rename_i e
       unfold Wd.choose at I8
       rw [if_pos e] at I8
       cases I8
      ·simp
    ·rename_i wG
     split
     ·rename_i h21
      rw [if_pos (o10 (.inr (.inr (.inr h21))))]
      cases d with
      | num v =>
       have hl : g < (x'.next g).gs.length := by rw [n3]; exact hg.2.1
       have hres : iz p g x' (x'.rand g i (.num v)) := ⟨n1.bB hg.1 hl, ((iQ.refl (x := x'.next g) hr).pre n3 n4).bS hg.1 hl⟩
       rw [if_pos (hres.lt hg)]
       exact ⟨_, _, rfl, .inl ⟨hres, .inl Rk⟩⟩
      | dY l =>
       rw [if_pos (show g < (Out.fin (x'.rand g i (.dY l))).gs.length from hg.2.1)]
       exact ⟨_, _, rfl, .inr ⟨l, rfl, rfl, rfl, Rk, by rw [zz, if_pos h21]; simp⟩⟩
     ·rename_i h21
      have go : ∀ r, oS p (x'.next g) g i = some r → iz p g (x'.next g) r → ∃ r rest, (match oS p (x'.next g) g i with
        | none => none
        | some r => if g < r.fin.gs.length then some (r, JX i.op r) else none) = some (r, rest) ∧ (iz p g x' r ∧ (yW x' g ∨ r = .on x' ∧ rest = true) ∨ ∃ l, d = .dY l ∧ r = .dY l x' ∧ rest = false ∧ yW x' g ∧ asks p x' g ≠ none) := by
       intro r ZN hres
       rw [ZN]
       dsimp only
       rw [if_pos (hres.lt n2)]
       exact ⟨_, _, rfl, .inl ⟨fin hres, .inl Rk⟩⟩
      have hop : i.op = 9 ∨ i.op = 10 ∨ i.op = 11 ∨ i.op = 12 ∨ i.op = 13 ∨ i.op = 14 ∨ i.op = 15 ∨ i.op = 17 ∨ i.op = 18 ∨ i.op = 19 ∨ i.op = 20 ∨ i.op = 22 := by omega
      rcases hop with e | e | e | e | e | e | e | e | e | e | e | e
      ·have w := T4 n1 n2 hi e CH
       refine go _ ?_ w.2
       unfold oS
       rw [e]; simp only [Int.reduceEq, if_false, if_true]
       rw [if_pos w.1]
      ·have w := T6 n1 n2 hi e CH
       refine go _ ?_ w.2
       unfold oS
       rw [e]; simp only [if_true]
       rw [if_pos w.1]
      ·have w := Ri n1 hp n2 hi e CH
       refine go _ ?_ w.2
       unfold oS
       rw [e]; simp only [Int.reduceEq, if_false, if_true]
       rw [if_pos w.1]
      ·refine go (.on (x'.next g)) ?_ ⟨n1, iQ.refl CH⟩
       unfold oS
       rw [e]; simp only [Int.reduceEq, if_false, if_true]
      ·have w := T7 n1 hp n2 hf hi e CH
       refine go _ ?_ w.2
       unfold oS
       rw [e]; simp only [Int.reduceEq, if_false, if_true]
       rw [if_pos w.1]
      ·have w := T8 n1 hp n2 hf hi e CH
       refine go _ ?_ w.2
       unfold oS
       rw [e]; simp only [Int.reduceEq, if_false, if_true]
       rw [if_pos w.1]
      ·have w := T9 n1 hp n2 hi e CH
       refine go _ ?_ w.2
       unfold oS
       rw [e]; simp only [Int.reduceEq, if_false, if_true]
       rw [if_pos w.1]
      ·have w := Rf n1 hp n2 hi e CH
       refine go _ ?_ w.2
       unfold oS
       rw [e]; simp only [Int.reduceEq, if_false, if_true]
       rw [if_pos w.1]
      ·have w := Ua n1 hp n2 hf hi e CH
       refine go _ ?_ w.2
       unfold oS
       rw [e]; simp only [Int.reduceEq, if_false, if_true]
       rw [if_pos w.1]
      ·have w := NV n1 hp n2 hi e CH
       refine go _ ?_ w.2
       unfold oS
       rw [e]; simp only [Int.reduceEq, if_false, if_true]
       rw [if_pos w.1]
      ·have w := T5 n1 hp n2 hi e CH
       refine go _ ?_ w.2
       unfold oS
       rw [e]; simp only [Int.reduceEq, if_false, if_true]
       rw [if_pos w.1]
      ·refine go (.fM i.a (x'.next g)) ?_ ⟨n1, iQ.refl CH⟩
       unfold oS
       rw [e]; simp only [Int.reduceEq, if_false, if_true]
 ·exact ⟨_, _, rfl, .inl ⟨⟨h, iQ.refl hr⟩, .inr ⟨rfl, rfl⟩⟩⟩
theorem Uc {w : Wd} {k n : Int} (hp : gf p) (h : asks p w g = some (k, n)) : 1 ≤ n ∧ n < 1099511627776 := by
 unfold asks at h
 split at h
 ·split at h
  ·cases h
  ·rename_i ins hi
   have hio : ∃ f ∈ p.funcs, ins ∈ f := by
    unfold Hq at hi
    split at hi
    ·cases hi
    ·rename_i code hc
     exact ⟨code, List.mem_of_getElem? hc, List.mem_of_getElem? hi⟩
   obtain ⟨f, hf, hm⟩ := hio
   have hok := (hp.code f hf).2.2 ins hm
   split at h
   ·rename_i e
    simp only [Option.some.injEq, Prod.mk.injEq] at h
    have := hok.2.2.2.2.2.2.2.2.2.2.2.2 e
    omega
   ·split at h
    ·split at h
     ·cases h
     ·rename_i hne
      simp only [Option.some.injEq, Prod.mk.injEq] at h
      have h1 : (enabled (aD p ins) w.aB).length ≤ (aD p ins).length := Gj _ _ _
      have h2 : (aD p ins).length ≤ p.cases.length := by
       unfold aD
       rw [List.length_take, List.length_drop]; omega
      have := hp.cs
      have h3 : 0 < (enabled (aD p ins) w.aB).length := by
       rcases hl : enabled (aD p ins) w.aB with _ | ⟨q, t⟩
       ·exact absurd hl hne
       ·simp
      omega
    ·cases h
 ·cases h
end
section
variable {p : cv} {x y z : Wd} {g q k n : Int}
theorem DW : ∀ (l : List Int) (x : Wd), WV p x → l.Nodup → (∀ q ∈ l, 0 ≤ q ∧ q < x.gs.length ∧ (aq x q).st ≠ 1 ∧ nU x q) → WV p (l.foldl Wd.fL x) ∧ Wk x (l.foldl Wd.fL x) ∧ (l.foldl Wd.fL x).ready = x.ready ++ l
 | [], x, h, _, _ => ⟨h, Wk.refl x, by simp⟩
 | q :: l, x, h, hn, ha => by
  obtain ⟨q0, q1, q2, q3⟩ := ha q (by simp)
  obtain ⟨Tq, BZ⟩ := List.nodup_cons.1 hn
  obtain ⟨r1, r2, r3⟩ := DW l (x.fL q) (h.fL q0 q1 q3) BZ (fun m hm => by
   obtain ⟨m0, m1, m2, m3⟩ := ha m (List.mem_cons_of_mem _ hm)
   have hne : m ≠ q := fun e => Tq (e ▸ hm)
   exact ⟨m0, by rw [nW]; exact m1, by rw [su q0 q1 m0 hne]; exact m2, m3⟩)
  refine ⟨r1, (Wk.fL q0 q1 q2).trans r2, ?_⟩
  rw [List.foldl_cons, r3]
  show (x.ready ++ [q]) ++ l = _
  simp
def La (x : Wd) : List Int := (eC x.hl.length x.hl (IntKind.wrap .u64 (x.clock + 1))).2.map bA.id
theorem Ud (he : x.end_ = 0) : x.tick = (La x).foldl Wd.fL { x with clock := IntKind.wrap .u64 (x.clock + 1), hl := (eC x.hl.length x.hl (IntKind.wrap .u64 (x.clock + 1))).1, ready := [] } := by
 unfold Wd.tick
 rw [if_neg (by rw [he]; decide)]
 rfl
theorem Ue (h : WV p x) : (∀ y ∈ (eC x.hl.length x.hl (IntKind.wrap .u64 (x.clock + 1))).2, 0 ≤ y.id ∧ y.id < x.gs.length) ∧ WV p x.tick ∧ Wk { x with ready := [] } x.tick ∧ x.tick.ready.length ≤ 100 := by
 generalize hr : eC x.hl.length x.hl (IntKind.wrap .u64 (x.clock + 1)) = r
 have hp : x.hl.Perm (r.2 ++ r.1) := by rw [← hr]; exact BR _ _ _
 have m2 : ∀ y ∈ r.2, y ∈ x.hl := fun y hy => hp.mem_iff.2 (List.mem_append_left _ hy)
 have m1 : ∀ y ∈ r.1, y ∈ x.hl := fun y hy => hp.mem_iff.2 (List.mem_append_right _ hy)
 have hc : ∀ q, (r.2.map bA.id).count q + (r.1.map bA.id).count q ≤ 1 := fun q => by
  have a := h.h1 q
  unfold Fa at a
  rw [(hp.map bA.id).count_eq, List.map_append, List.count_append] at a
  exact a
 refine ⟨fun y hy => ⟨(h.hl y (m2 y hy)).1, (h.hl y (m2 y hy)).2.1⟩, ?_⟩
 by_cases he : x.end_ = 0
 ·rw [Ud he]
  unfold La
  rw [hr]
  have h1 : WV p { x with clock := IntKind.wrap .u64 (x.clock + 1), hl := r.1, ready := [] } :=
   ⟨h.n1, h.n2, h.DR, h.ch, h.lk, h.buf, h.dF, h.snd, h.lw, fun y hy => h.hl y (m1 y hy), h.one, h.EZ, fun q => by have := hc q; unfold Fa; dsimp only; omega, h.out⟩
  have hnd : (r.2.map bA.id).Nodup := List.nodup_iff_count.2 fun q => by have := hc q; omega
  obtain ⟨r1, r2, r3⟩ := DW (r.2.map bA.id) { x with clock := IntKind.wrap .u64 (x.clock + 1), hl := r.1, ready := [] } h1 hnd (fun q hq => by
   obtain ⟨y, hy, rfl⟩ := List.mem_map.1 hq
   have a := h.hl y (m2 y hy)
   refine ⟨a.1, a.2.1, by show (aq x y.id).st ≠ 1; rw [a.2.2]; decide, fun c RV hg => ?_, fun l hl hg => ?_, fun w hw e => ?_⟩
   ·have := (h.TZ RV hg).1.2.2
    rw [a.2.2] at this; cases this
   ·have := (h.lw l hl _ hg).1.2.2
    rw [a.2.2] at this; cases this
   ·have b := hc y.id
    have c1 : 0 < (r.2.map bA.id).count y.id := List.count_pos_iff.2 hq
    have c2 : 0 < (r.1.map bA.id).count y.id := List.count_pos_iff.2 (List.mem_map.2 ⟨w, hw, e⟩)
    omega)
  refine ⟨r1, Wk.trans (Wk.same rfl rfl) r2, ?_⟩
  rw [r3]
  have a := h.Lz
  have b := hp.length_eq
  simp only [List.length_append, List.length_map, List.nil_append] at *
  omega
 ·have e : x.tick = { x with ready := [] } := by unfold Wd.tick; rw [if_pos he]
  rw [e]
  exact ⟨h.ready, Wk.refl _, by simp⟩
theorem Y8 (hp : gf p) : WV p (Wd.new p) := by
 have e : ∀ q, aq (Wd.new p) q = if q.toNat = 0 then ⟨1, [gH.begin 0 0], .zero⟩ else ⟨0, [], .zero⟩ := by
  intro q
  unfold aq Wd.new
  dsimp only
  split
  ·rename_i e; rw [e]; rfl
  ·rename_i e
   rw [List.getD_eq_getElem?_getD, List.getElem?_eq_none (by simp; omega)]; rfl
 have zR : ∀ c ∈ (Wd.new p).aB, ∃ n, c = aV.new n := fun c hc => by
  obtain ⟨n, _, rfl⟩ := List.mem_map.1 hc
  exact ⟨n, rfl⟩
 have hlk : ∀ l ∈ (Wd.new p).aI, l.waits = [] := fun l hl => by
  have := List.eq_of_mem_replicate hl
  rw [this]
 have z1 : ∀ q, cu (Wd.new p).aB q = 0 := fun q => rG _ _ fun c hc => by
  obtain ⟨n, rfl⟩ := zR c hc
  rfl
 have z2 : ∀ q, hJ (Wd.new p).aI q = 0 := fun q => rG _ _ fun l hl => by rw [hlk l hl]; rfl
 refine ⟨by simp [Wd.new], by simp [Wd.new], fun y hy => ?_, by simp [Wd.new], by (simp [Wd.new]; have := hp.lk.1; omega), fun c hc => ?_, fun c hc v hv => ?_, fun c hc v hv => ?_, fun l hl q hq => ?_, fun y hy => by simp [Wd.new] at hy, fun q _ _ => by rw [z1, z2]; omega, fun q => by rw [z1]; omega, fun q => by simp [Fa, Wd.new], by simp [Wd.new]⟩
 ·simp only [Wd.new, List.mem_singleton] at hy
  subst hy
  refine ⟨by simp, by simp, fun r hr => ?_, (fun e => by cases e), by show (1 : Int) ≤ 1 ∧ (1 : Int) ≤ 4; decide⟩
  simp only [List.mem_singleton] at hr; subst hr
  exact ⟨Int.le_refl 0, by have := hp.f1; show (0 : Int) < _; omega, Int.le_refl 0, (by show (0 : Int) ≤ 64; decide), by show bj 0; decide⟩
 ·obtain ⟨n, rfl⟩ := zR c hc
  exact ⟨Nat.zero_le _, O3 n⟩
 ·obtain ⟨n, rfl⟩ := zR c hc
  cases hv
 ·obtain ⟨n, rfl⟩ := zR c hc
  cases hv
 ·rw [hlk l hl] at hq; cases hq
end
def m5 (ps : List dM) (a : Int) : Nat := ((ps.map dM.q).flatMap Loc.all).count a
def HL (ms : List zW) (a : Int) : Nat := (ms.flatMap fun m => kN m.g).count a
def nX (x : Sc) (a : Int) : Nat := m5 x.ps a + x.gl.count a + HL x.ms a
def Uf (q : Loc) : Prop := q.l.length ≤ q.room ∧ q.room ≤ 1024 ∧ 0 < q.room
def MV (P : Nat) (m : zW) : Prop := (m.p = -1 ∧ m.g = -1 ∧ m.left = 0) ∨ (0 ≤ m.p ∧ m.p < P ∧ -1 ≤ m.g ∧ 0 ≤ m.left ∧ m.left ≤ 1024 ∧ (0 ≤ m.g → 1 ≤ m.left))
structure SV (p : cv) (N : Nat) (x : Sc) : Prop where
 w : WV p x.w
 one : ∀ a, At x.w a 1 → nX x a = 1
 zero : ∀ a, ¬ At x.w a 1 → nX x a = 0
 cP : x.c.P = x.ps.length
 cM : x.c.M = x.ms.length
 P1 : 1 ≤ x.ps.length ∧ x.ps.length ≤ 64
 M1 : 1 ≤ x.ms.length ∧ x.ms.length ≤ 64
 cS : 1 ≤ x.c.S ∧ x.c.S ≤ 1024
 room : ∀ pr ∈ x.ps, Uf pr.q
 hH : ∀ pr ∈ x.ps, 0 ≤ pr.turns ∧ pr.turns ≤ N
 ms : ∀ m ∈ x.ms, MV x.ps.length m
 gW : ∀ (i : Nat) m, x.ms[i]? = some m → m.p ≠ -1 → (aN x m.p).gW = i
 st : 0 ≤ x.steps ∧ x.steps ≤ N
 tk : x.d.taken.length ≤ 3 * N
 k : x.d.k.Ok
section
variable {p : cv} {N : Nat} {x y z : Sc} {m i g a : Int}
theorem rJ {ps : List dM} {j : Nat} {pr Vm : dM} (h : ps[j]? = some pr) : m5 (ps.set j Vm) a + pr.q.all.count a = m5 ps a + Vm.q.all.count a := by
 unfold m5
 rw [List.map_set]
 exact Tr a (by rw [List.getElem?_map, h]; rfl)
theorem BS : ∀ {ms : List zW} {j : Nat} {mc tT : zW}, ms[j]? = some mc → HL (ms.set j tT) a + (kN mc.g).count a = HL ms a + (kN tT.g).count a
 | [], _, _, _, h => by simp at h
 | z :: ms, 0, mc, tT, h => by
  simp only [List.getElem?_cons_zero, Option.some.injEq] at h; subst h
  simp only [HL, List.set_cons_zero, List.flatMap_cons, List.count_append]; omega
 | z :: ms, j + 1, mc, tT, h => by
  have := BS (ms := ms) (tT := tT) (j := j) (by simpa using h)
  simp only [HL, List.set_cons_succ, List.flatMap_cons, List.count_append] at *; omega
theorem vj {α : Type} (f : α → List Int) : ∀ (l : List α) (b : α), b ∈ l → (f b).count a ≤ (l.flatMap f).count a
 | c :: l, b, h => by
  simp only [List.flatMap_cons, List.count_append]
  rcases List.mem_cons.1 h with rfl | h
  ·omega
  ·have := vj f l b h; omega
theorem SV.le1 (h : SV p N x) : nX x a ≤ 1 := by
 by_cases e : At x.w a 1
 ·rw [h.one a e]; omega
 ·rw [h.zero a e]; omega
theorem SV.at_ (h : SV p N x) (hc : 0 < nX x a) : At x.w a 1 := Classical.byContradiction fun e => by rw [h.zero a e] at hc; omega
theorem SV.glpos (h : SV p N x) : ∀ v ∈ x.gl, 0 ≤ v := fun v hv => (h.at_ (a := v) (by have : 0 < x.gl.count v := List.count_pos_iff.2 hv; unfold nX; omega)).1
theorem SV.qpos (h : SV p N x) {pr : dM} (hp : pr ∈ x.ps) : pr.q.Pos := by
 have iR : ∀ v ∈ pr.q.all, 0 ≤ v := fun v hv => (h.at_ (a := v) (by
  have h1 := vj (a := v) Loc.all (x.ps.map dM.q) pr.q (List.mem_map.2 ⟨pr, hp, rfl⟩)
  have : 0 < pr.q.all.count v := List.count_pos_iff.2 hv
  unfold nX m5; omega)).1
 refine ⟨?_, fun v hv => iR v (by unfold Loc.all; simp [hv])⟩
 by_cases hn : pr.q.next = -1
 ·omega
 ·have := iR pr.q.next (by unfold Loc.all; rw [if_neg hn]; simp)
  omega
theorem SV.Ug (h : SV p N x) : x.gl.length ≤ 100 := by
 have h1 := sr (b := 1) x.w.gs.length x.gl (fun v hv => by
  have := h.at_ (a := v) (by have : 0 < x.gl.count v := List.count_pos_iff.2 hv; unfold nX; omega)
  exact ⟨this.1, this.2.1⟩) (fun v => by have := h.le1 (a := v); unfold nX at this; omega)
 have := h.w.n2
 omega
theorem SV.mg (h : SV p N x) {mc : zW} (hm : mc ∈ x.ms) (h0 : 0 ≤ mc.g) : At x.w mc.g 1 := h.at_ (by
 have h1 := vj (a := mc.g) (fun m : zW => kN m.g) x.ms mc hm
 have : (kN mc.g).count mc.g = 1 := by rw [jl h0]; simp
 unfold nX HL; omega)
theorem vk (h0 : 0 ≤ m) (hm : m < x.ms.length) : x.ms[m.toNat]? = some (aC x m) := by
 obtain ⟨y, hy⟩ := aM (l := x.ms) (i := m.toNat) (by omega)
 rw [hy]; simp [aC, hy]
theorem Fe (h0 : 0 ≤ i) (hi : i < x.ps.length) : x.ps[i.toNat]? = some (aN x i) := by
 obtain ⟨y, hy⟩ := aM (l := x.ps) (i := i.toNat) (by omega)
 rw [hy]; simp [aN, hy]
def vu : dM := ⟨⟨-1, 0, []⟩, 0, -1⟩
theorem SV.go (h : SV p N x) (m0 : 0 ≤ m) (m1 : m < x.ms.length) (i0 : 0 ≤ i) (i1 : i < x.ps.length) (ps' : List dM) (tT : zW) (NN : List Int) (d' : mj)
  (hl : ps'.length = x.ps.length) (hr : ∀ pr ∈ ps', Uf pr.q ∧ 0 ≤ pr.turns ∧ pr.turns ≤ N + 1) (hb : ∀ j : Nat, j ≠ i.toNat → (ps'.getD j vu).gW = (x.ps.getD j vu).gW)
  (hbi : tT.p = -1 ∨ tT.p = i ∧ (ps'.getD i.toNat vu).gW = m) (hold : (aC x m).p = i ∨ (aN x i).gW = -1) (Rl : MV x.ps.length tT)
  (hc : ∀ a, m5 ps' a + NN.count a + (kN tT.g).count a = m5 x.ps a + x.gl.count a + (kN (aC x m).g).count a) (hd : d'.taken.length ≤ 3 * N + 3) (hk : d'.k.Ok) :
  SV p (N + 1) { x with ps := ps', ms := x.ms.set m.toNat tT, gl := NN, d := d' } := by
 have nS := vk m0 m1
 have hS : ∀ a, nX { x with ps := ps', ms := x.ms.set m.toNat tT, gl := NN, d := d' } a = nX x a := fun a => by
  have e1 := BS (a := a) (tT := tT) nS
  have e2 := hc a
  unfold nX
  dsimp only
  omega
 refine ⟨h.w, fun a ha => by rw [hS]; exact h.one a ha, fun a ha => by rw [hS]; exact h.zero a ha, by rw [hl]; exact h.cP, by simpa using h.cM, by rw [hl]; exact h.P1, by simpa using h.M1, h.cS, fun pr hp => (hr pr hp).1, fun pr hp => (by have := (hr pr hp).2; omega), fun mc IM => ?_, fun j mc hj hne => ?_, by have := h.st; dsimp only; omega, by dsimp only; omega, hk⟩
 ·rw [hl]
  rcases jR IM with IM | rfl
  ·exact h.ms mc IM
  ·exact Rl
 ·by_cases e : j = m.toNat
  ·subst e
   rw [List.getElem?_set_self (by omega)] at hj
   simp only [Option.some.injEq] at hj
   subst hj
   rcases hbi with hbi | ⟨e1, e2⟩
   ·exact absurd hbi hne
   ·show (ps'.getD tT.p.toNat vu).gW = _
    rw [e1, e2]; omega
  ·rw [List.getElem?_set_ne (Ne.symm e)] at hj
   have hby := h.gW j mc hj hne
   have hmv2 := h.ms mc (List.mem_of_getElem? hj)
   have hpi : mc.p.toNat ≠ i.toNat := by
    intro e2
    have e3 : mc.p = i := by rcases hmv2 with hh | hh; exact absurd hh.1 hne; omega
    rw [e3] at hby
    rcases hold with e4 | e4
    ·have := h.gW m.toNat (aC x m) nS (by rw [e4]; omega)
     rw [e4, hby] at this
     omega
    ·rw [e4] at hby; omega
   show (ps'.getD mc.p.toNat vu).gW = _
   rw [hb _ hpi]
   exact hby
end
section
variable {p : cv} {N : Nat} {x y z : Sc} {m i g a : Int}
theorem Uh {q : Loc} (h : ∀ v ∈ q.all, 0 ≤ v) : q.Pos := by
 refine ⟨?_, fun v hv => h v (by unfold Loc.all; simp [hv])⟩
 by_cases hn : q.next = -1
 ·omega
 ·have := h q.next (by unfold Loc.all; rw [if_neg hn]; simp)
  omega
theorem Ui {q : Loc} (h : q.Pos) : ∀ v ∈ q.all, 0 ≤ v := by
 intro v hv
 unfold Loc.all at hv
 rcases List.mem_append.1 hv with hv | hv
 ·split at hv
  ·cases hv
  ·simp only [List.mem_singleton] at hv; subst hv; have := h.1; omega
 ·exact h.2 v hv
theorem Uj {q : Loc} {t : Int} {gl : List Int} (hq : q.Pos) (hb : Uf q) (hg : ∀ v ∈ gl, 0 ≤ v) :
  Uf (tS q t gl).1 ∧ (∀ a, (tS q t gl).1.all.count a + (tS q t gl).2.1.count a + (kN (tS q t gl).2.2.1).count a = q.all.count a + gl.count a) ∧
   ((tS q t gl).2.2.2 = true → 0 ≤ (tS q t gl).2.2.1) ∧ ((tS q t gl).2.2.2 = false → (tS q t gl).2.2.1 = -1) := by
 have c1 := Qz q gl
 have b1 := Ts hb gl
 unfold tS
 generalize q.hH gl = r at c1 b1
 obtain ⟨q1, g1, n1⟩ := r
 dsimp only at c1 b1 ⊢
 have nn : ∀ v, 0 < q.all.count v + gl.count v → 0 ≤ v := fun v hv => by
  by_cases e : v ∈ gl
  ·exact hg v e
  ·rw [List.count_eq_zero.2 e] at hv
   exact Ui hq v (List.count_pos_iff.1 (by omega))
 have p1 : q1.Pos := Uh fun v hv => nn v (by have : 0 < q1.all.count v := List.count_pos_iff.2 hv; have := c1 v; omega)
 have Nu : ∀ v ∈ g1, 0 ≤ v := fun v hv => nn v (by have : 0 < g1.count v := List.count_pos_iff.2 hv; have := c1 v; omega)
 split
 ·rename_i hh
  cases g1 with
  | nil => simp at hh
  | cons v l =>
   refine ⟨b1, fun a => ?_, fun _ => Nu v (by simp), fun e => by cases e⟩
   have := c1 a
   simp only [List.drop_succ_cons, List.drop_zero, List.headD_cons]
   rw [jl (Nu v (by simp))]
   simp only [List.count_cons, List.count_nil] at *
   omega
 ·split
  ·rename_i hh
   have hgp := Lg p1
   have h0 : 0 ≤ q1.get.2 := by
    rcases hgp with ⟨e1, e2, _⟩ | ⟨_, h0⟩
    ·unfold ya at hh
     rw [e1, e2] at hh
     cases hh
    ·exact h0
   refine ⟨QC b1, fun a => ?_, fun _ => h0, fun e => by cases e⟩
   have := c1 a
   have := Lf q1 p1 a
   dsimp only
   omega
  ·rename_i hh
   have e1 : q1.next = -1 ∧ q1.l = [] := by
    unfold ya at hh
    simp only [Bool.or_eq_true, bne_iff_ne, ne_eq, Bool.not_eq_true', List.isEmpty_eq_false_iff, not_or, Decidable.not_not] at hh
    exact hh
   have eg : q1.get = (q1, -1) := by
    unfold Loc.get
    rw [if_neg (by rw [e1.1]; decide), e1.2]
   rw [eg]
   dsimp only
   have c2 := Nj q1 g1 Nu 0
   refine ⟨QD b1 _ _, fun a => ?_, fun e => ?_, fun e => ?_⟩
   ·have := c1 a
    have := c2 a
    omega
   ·rcases DB (x := q1) Nu 0 with ⟨e2, _⟩ | ⟨_, h0⟩
    ·rw [e2] at e; cases e
    ·exact h0
   ·rcases DB (x := q1) Nu 0 with ⟨_, h0⟩ | ⟨e2, _⟩
    ·exact h0
    ·cases g1 with
     | nil => exact absurd rfl e2
     | cons v l => cases e
theorem SV.mono {N' : Nat} (h : SV p N x) (hn : N ≤ N') : SV p N' x :=
 ⟨h.w, h.one, h.zero, h.cP, h.cM, h.P1, h.M1, h.cS, h.room, fun pr hp => by have := h.hH pr hp; omega, h.ms, h.gW, by have := h.st; omega, by have := h.tk; omega, h.k⟩
theorem SV.inc (h : SV p (N + 1) y) (hs : 0 ≤ y.steps ∧ y.steps ≤ N) : SV p (N + 1) { y with steps := y.steps + 1 } :=
 ⟨h.w, h.one, h.zero, h.cP, h.cM, h.P1, h.M1, h.cS, h.room, h.hH, h.ms, h.gW, by dsimp only; omega, h.tk, h.k⟩
theorem SV.draw {d' : mj} (h : SV p N x) (hd : d'.taken.length ≤ 3 * N + 3) (hk : d'.k.Ok) : SV p (N + 1) { x with d := d' } :=
 ⟨h.w, h.one, h.zero, h.cP, h.cM, h.P1, h.M1, h.cS, h.room, fun pr hp => by have := h.hH pr hp; omega, h.ms, h.gW, by have := h.st; dsimp only; omega, by dsimp only; omega, hk⟩
theorem eJ {l : List dM} {n : Nat} {b : dM} (h : n < l.length) : (l.set n b).getD n vu = b := by simp [List.getD_eq_getElem?_getD, List.getElem?_set_self h]
theorem getD_set_ne {l : List dM} {n j : Nat} {b : dM} (h : j ≠ n) : (l.set n b).getD j vu = l.getD j vu := by simp [List.getD_eq_getElem?_getD, List.getElem?_set_ne (Ne.symm h)]
theorem SV.hold {d' : mj} (h : SV p N x) (m0 : 0 ≤ m) (m1 : m < x.ms.length) (hm : (aC x m).p = -1) (hd : d'.taken.length ≤ 3 * N + 3) (hk : d'.k.Ok) : SV p (N + 1) (Sc.hold { x with d := d' } m).1 ∧ (Sc.hold { x with d := d' } m).1.steps = x.steps := by
 unfold Sc.hold
 dsimp only
 have nS := vk m0 m1
 split
 ·rename_i n hn
  obtain ⟨hlt, hb, _⟩ := List.findIdx?_eq_some_iff_getElem.1 hn
  have kG := Fe (x := x) (i := (n : Int)) (by omega) (by omega)
  rw [Int.toNat_natCast] at kG
  have eb : (aN x (n : Int)).gW = -1 := by
   rw [List.getElem?_eq_getElem hlt, Option.some.injEq] at kG
   rw [← kG]; simpa using hb
  have Rl := h.ms _ (List.mem_of_getElem? nS)
  have hg : (aC x m).g = -1 ∧ (aC x m).left = 0 := by rcases Rl with e | e; exact e.2; omega
  refine ⟨?_, rfl⟩
  refine h.go (i := (n : Int)) m0 m1 (by omega) (by omega) (x.ps.set n { aN x (n : Int) with gW := m }) { aC x m with p := (n : Int) } x.gl d' (by simp) (fun pr hp => ?_) (fun j hj => ?_) (.inr ⟨rfl, ?_⟩) (.inr eb) (.inr ⟨by dsimp only; omega, by dsimp only; omega, by dsimp only; omega, by dsimp only; omega, by dsimp only; omega, by dsimp only; omega⟩) (fun a => ?_) hd hk
  ·rcases List.mem_or_eq_of_mem_set hp with hp | rfl
   ·exact ⟨h.room pr hp, by have := h.hH pr hp; omega⟩
   ·have hm := List.mem_of_getElem? kG
    exact ⟨h.room (aN x (n : Int)) hm, by have := h.hH _ hm; dsimp only; omega⟩
  ·rw [Int.toNat_natCast] at hj
   rw [getD_set_ne hj]
  ·rw [Int.toNat_natCast, eJ hlt]
  ·have := rJ (a := a) (Vm := { aN x (n : Int) with gW := m }) kG
   dsimp only at *
   omega
 ·exact ⟨h.draw hd hk, rfl⟩
theorem SV.tick {d' : mj} (h : SV p N x) (hd : d'.taken.length ≤ 3 * N + 3) (hk : d'.k.Ok) : Bv { x with d := d' } ∧ SV p (N + 1) (Sc.tick { x with d := d' }).1 ∧ (Sc.tick { x with d := d' }).1.steps = x.steps := by
 obtain ⟨t1, t2, t3, t4⟩ := Ue h.w
 have hg := h.Ug
 refine ⟨⟨by have := h.w.Lz; dsimp only; omega, t1, by dsimp only; omega⟩, ?_, rfl⟩
 unfold Sc.tick
 dsimp only
 obtain ⟨a1, l, a2, a3, a4, a5⟩ := t3
 rw [List.nil_append] at a2
 rw [a2]
 have hS : ∀ a, nX { x with w := x.w.tick, gl := x.gl ++ l, d := d' } a = nX x a + l.count a := fun a => by
  unfold nX; dsimp only; rw [List.count_append]; omega
 have hA : ∀ a, At x.w.tick a 1 ↔ At x.w a 1 ∨ a ∈ l := fun a => by
  constructor
  ·rintro ⟨b1, b2, b3⟩
   by_cases e : a ∈ l
   ·exact .inr e
   ·refine .inl ⟨b1, by rw [a1] at b2; exact b2, ?_⟩
    rw [a5 a b1 e] at b3; exact b3
  ·rintro (⟨b1, b2, b3⟩ | e)
   ·by_cases e : a ∈ l
    ·exact ⟨b1, by rw [a1]; exact b2, (a4 a e).2.2.2⟩
    ·exact ⟨b1, by rw [a1]; exact b2, by rw [a5 a b1 e]; exact b3⟩
   ·obtain ⟨c1, c2, c3, c4⟩ := a4 a e
    exact ⟨c1, by rw [a1]; exact c2, c4⟩
 have hn : ∀ a, a ∈ l → ¬ At x.w a 1 := fun a e hh => (a4 a e).2.2.1 hh.2.2
 refine ⟨t2, fun a ha => ?_, fun a ha => ?_, h.cP, h.cM, h.P1, h.M1, h.cS, h.room, fun pr hp => by have := h.hH pr hp; omega, h.ms, h.gW, by have := h.st; dsimp only; omega, by dsimp only; omega, hk⟩
 ·rw [hS]
  rcases (hA a).1 ha with e | e
  ·rw [h.one a e, List.count_eq_zero.2 (fun hm => hn a hm e)]
  ·rw [h.zero a (hn a e), Nat.le_antisymm (List.nodup_iff_count.1 a3 a) (List.count_pos_iff.2 e)]
 ·rw [hS, h.zero a (fun e => ha ((hA a).2 (.inl e))), List.count_eq_zero.2 (fun e => ha ((hA a).2 (.inr e)))]
end
section
variable {p : cv} {N : Nat} {x y z : Sc} {m i g a kind : Int}
theorem SV.bU {Ff : List dM} {glz : List Int} {dz : mj} {t : Bool} (h : SV p N x) (m0 : 0 ≤ m) (m1 : m < x.ms.length) (hmp : (aC x m).p = i) (i0 : 0 ≤ i) (i1 : i < x.ps.length) (hg : (aC x m).g = -1)
  (hl : Ff.length = x.ps.length) (hr : ∀ pr ∈ Ff, Uf pr.q ∧ 0 ≤ pr.turns ∧ pr.turns ≤ N) (hb : ∀ j : Nat, (Ff.getD j vu).gW = (x.ps.getD j vu).gW)
  (hc : ∀ a, m5 Ff a + glz.count a + (kN g).count a = m5 x.ps a + x.gl.count a) (hok : t = true → 0 ≤ g) (hno : t = false → kN g = []) (hd : dz.taken.length ≤ 3 * N + 3) (hk : dz.k.Ok) :
  SV p (N + 1) (Sc.bU { x with ps := Ff, gl := glz, d := dz } m i kind g t).1 ∧ (Sc.bU { x with ps := Ff, gl := glz, d := dz } m i kind g t).1.steps = x.steps := by
 have nS := vk m0 m1
 have e0 : kN (aC x m).g = [] := by rw [hg]; rfl
 have hpi : Ff[i.toNat]? = some (Ff.getD i.toNat vu) := by
  rw [List.getD_eq_getElem?_getD, List.getElem?_eq_getElem (by omega)]; rfl
 have hmem := List.mem_of_getElem? hpi
 have hby : (x.ps.getD i.toNat vu).gW = m := by
  have := h.gW m.toNat (aC x m) nS (by rw [hmp]; omega)
  rw [hmp] at this
  show (aN x i).gW = m
  rw [this]; omega
 have Bb : ∀ b : dM, b.q = (Ff.getD i.toNat vu).q → ∀ a, m5 (Ff.set i.toNat b) a = m5 Ff a := fun b e a => by
  have := rJ (a := a) (Vm := b) hpi
  rw [e] at this
  omega
 unfold Sc.bU
 cases t with
 | true =>
  rw [if_pos rfl]
  refine ⟨?_, rfl⟩
  have Rl := h.ms _ (List.mem_of_getElem? nS)
  refine h.go (i := i) m0 m1 i0 i1 (Ff.set i.toNat { Ff.getD i.toNat vu with turns := (Ff.getD i.toNat vu).turns + 1 }) ⟨(aC x m).p, g, x.c.S⟩ glz dz (by simp [hl]) (fun pr hp => ?_) (fun j hj => by rw [getD_set_ne hj]; exact hb j) (.inr ⟨hmp, ?_⟩) (.inl hmp) (.inr ⟨by dsimp only; omega, by dsimp only; omega, by dsimp only; have := hok rfl; omega, by have := h.cS; dsimp only; omega, by have := h.cS; dsimp only; omega, fun _ => by have := h.cS; dsimp only; omega⟩) (fun a => ?_) hd hk
  ·rcases List.mem_or_eq_of_mem_set hp with hp | rfl
   ·have := hr pr hp; exact ⟨this.1, by omega⟩
   ·have := hr _ hmem; exact ⟨this.1, by dsimp only; omega⟩
  ·rw [eJ (by omega)]
   exact (hb _).trans hby
  ·rw [Bb { Ff.getD i.toNat vu with turns := (Ff.getD i.toNat vu).turns + 1 } rfl, e0]
   have := hc a
   simp only [List.count_nil]
   omega
 | false =>
  rw [if_neg (by decide)]
  refine ⟨?_, rfl⟩
  refine h.go (i := i) m0 m1 i0 i1 (Ff.set i.toNat { Ff.getD i.toNat vu with gW := -1 }) ⟨-1, -1, 0⟩ glz dz (by simp [hl]) (fun pr hp => ?_) (fun j hj => by rw [getD_set_ne hj]; exact hb j) (.inl rfl) (.inl hmp) (.inl ⟨rfl, rfl, rfl⟩) (fun a => ?_) hd hk
  ·rcases List.mem_or_eq_of_mem_set hp with hp | rfl
   ·have := hr pr hp; exact ⟨this.1, by omega⟩
   ·have := hr _ hmem; exact ⟨this.1, by dsimp only; omega⟩
  ·rw [Bb { Ff.getD i.toNat vu with gW := -1 } rfl, e0]
   have := hc a
   rw [hno rfl] at this
   simp only [List.count_nil] at *
   have e1 : kN (-1) = [] := rfl
   rw [e1, List.count_nil]
   omega
theorem BT {d : mj} {k n : Int} (hk : d.k.Ok) : (d.draw k n).1.taken.length ≤ d.taken.length + 1 := by
 generalize xZ : d.draw k n = r
 obtain ⟨d', o⟩ := r
 cases o with
 | num v =>
  have := (ry hk xZ).2.2
  dsimp only
  rw [this]; simp
 | dY l =>
  have := (Hz xZ).1
  dsimp only
  rw [this]; omega
theorem SV.find {d' : mj} (h : SV p N x) (m0 : 0 ≤ m) (m1 : m < x.ms.length) (hp : (aC x m).p ≠ -1) (hg : (aC x m).g = -1) (hN : N ≤ 10000000) (hd : d'.taken.length ≤ 3 * N + 1) (hk : d'.k.Ok) :
  ye { x with d := d' } m ∧ SV p (N + 1) (Sc.find { x with d := d' } m).1 ∧ (Sc.find { x with d := d' } m).1.steps = x.steps := by
 have nS := vk m0 m1
 have Rl := h.ms _ (List.mem_of_getElem? nS)
 have hr : 0 ≤ (aC x m).p ∧ (aC x m).p < x.ps.length ∧ 0 ≤ (aC x m).left ∧ (aC x m).left ≤ 1024 := by
  rcases Rl with e | e
  ·exact absurd e.1 hp
  ·omega
 obtain ⟨i0, i1, l0, l1⟩ := hr
 have kG := Fe i0 i1
 have hpm := List.mem_of_getElem? kG
 have ht := h.hH _ hpm
 have hroom := h.room _ hpm
 have hpos := h.qpos hpm
 have e0 : kN (aC x m).g = [] := by rw [hg]; rfl
 have hcP := h.cP
 have hP1 := h.P1
 refine ⟨⟨m0, m1, i0, i1, by have := h.Ug; dsimp only; omega, ht.1, by have := ht.2; show (aN x (aC x m).p).turns < 1000000000; omega, by dsimp only; omega, by dsimp only; omega, by dsimp only; omega⟩, ?_⟩
 have own := Uj (t := (aN x (aC x m).p).turns) hpos hroom h.glpos
 unfold Sc.find
 dsimp only
 have em : aC { x with d := d' } m = aC x m := rfl
 have ep : ∀ j, aN { x with d := d' } j = aN x j := fun _ => rfl
 rw [em]
 simp only [ep]
 generalize hi : (aC x m).p = i at *
 have Bb : ∀ b : dM, ∀ a, m5 (x.ps.set i.toNat b) a + (aN x i).q.all.count a = m5 x.ps a + b.q.all.count a := fun b a => rJ kG
 split
 ·rename_i hn
  refine ⟨?_, rfl⟩
  have hgp := Lg hpos
  have h0 : 0 ≤ (aN x i).q.get.2 := by
   rcases hgp with ⟨e1, _⟩ | ⟨_, h0⟩
   ·exact absurd e1 hn.2
   ·exact h0
  have hby : (aN x i).gW = m := by
   have := h.gW m.toNat (aC x m) nS (by rw [hi]; omega)
   rw [hi] at this
   rw [this]; omega
  refine h.go (i := i) m0 m1 i0 i1 (x.ps.set i.toNat { aN x i with q := (aN x i).q.get.1 }) ⟨i, (aN x i).q.get.2, (aC x m).left⟩ x.gl d' (by simp) (fun pr hp => ?_) (fun j hj => by rw [getD_set_ne hj]) (.inr ⟨rfl, by rw [eJ (by omega)]; exact hby⟩) (.inl hi) (.inr ⟨by dsimp only; omega, by dsimp only; omega, by dsimp only; omega, l0, l1, fun _ => by have := hn.1; dsimp only; omega⟩) (fun a => ?_) (by omega) hk
  ·rcases List.mem_or_eq_of_mem_set hp with hp | rfl
   ·exact ⟨h.room pr hp, by have := h.hH pr hp; omega⟩
   ·exact ⟨QC hroom, by dsimp only; omega⟩
  ·have a1 := Bb { aN x i with q := (aN x i).q.get.1 } a
   have a2 := Lf _ hpos a
   rw [e0]
   simp only [List.count_nil] at *
   try dsimp only at *
   omega
 ·
  have hown : Sc.own { x with d := d' } i = ({ x with ps := x.ps.set i.toNat { aN x i with q := (tS (aN x i).q (aN x i).turns x.gl).1 }, gl := (tS (aN x i).q (aN x i).turns x.gl).2.1, d := d' }, (tS (aN x i).q (aN x i).turns x.gl).2.2.1, (tS (aN x i).q (aN x i).turns x.gl).2.2.2) := rfl
  rw [hown]
  generalize tS (aN x i).q (aN x i).turns x.gl = r at own
  obtain ⟨q1, g1, v1, has⟩ := r
  obtain ⟨o1, o2, o3, o4⟩ := own
  dsimp only at o1 o2 o3 o4 ⊢
  have Y9 : ∀ pr ∈ x.ps.set i.toNat { aN x i with q := q1 }, Uf pr.q ∧ 0 ≤ pr.turns ∧ pr.turns ≤ N := fun pr hp => by
   rcases List.mem_or_eq_of_mem_set hp with hp | rfl
   ·exact ⟨h.room pr hp, h.hH pr hp⟩
   ·exact ⟨o1, ht⟩
  have Uk : ∀ j : Nat, ((x.ps.set i.toNat { aN x i with q := q1 }).getD j vu).gW = (x.ps.getD j vu).gW := fun j => by
   by_cases e : j = i.toNat
   ·subst e
    rw [eJ (by omega)]
    rfl
   ·rw [getD_set_ne e]
  have hq1 : ∀ a, m5 (x.ps.set i.toNat { aN x i with q := q1 }) a + g1.count a + (kN v1).count a = m5 x.ps a + x.gl.count a := fun a => by
   have a1 := Bb { aN x i with q := q1 } a
   have a2 := o2 a
   dsimp only at *
   omega
  split
  ·rename_i hh
   have ev1 : kN v1 = [] := by rw [o4 hh.1]; rfl
   have Ej := BT (k := 2) (n := x.c.P) hk
   have BA := oV (kind := 2) (n := x.c.P) hk
   split
   ·rename_i d2 l xZ
    rw [xZ] at Ej BA
    refine ⟨?_, rfl⟩
    have : SV p (N + 1) { x with ps := x.ps.set i.toNat { aN x i with q := q1 }, ms := x.ms.set m.toNat (aC x m), gl := g1, d := d2 } :=
     h.go (i := i) m0 m1 i0 i1 _ (aC x m) g1 d2 (by simp) (fun pr hp => by have := Y9 pr hp; exact ⟨this.1, by omega⟩) (fun j hj => Uk j) (.inr ⟨hi, by
      rw [Uk]
      have := h.gW m.toNat (aC x m) nS (by rw [hi]; omega)
      rw [hi] at this
      show (aN x i).gW = m
      rw [this]; omega⟩) (.inl hi) Rl (fun a => by have := hq1 a; rw [ev1] at this; simp only [List.count_nil] at this; exact congrArg (· + (kN (aC x m).g).count a) this) (by dsimp only at Ej; omega) BA
    rw [dI _ _ _ nS] at this
    exact this
   ·rename_i d2 v xZ
    rw [xZ] at Ej BA
    have hvr := ry hk xZ
    have Z2 : nN x.c.P = x.c.P := by unfold nN; rw [if_neg (by omega)]
    rw [Z2] at hvr
    dsimp only at Ej BA ⊢
    split
    ·exact h.bU (g := -1) m0 m1 hi i0 i1 hg (by simp) Y9 Uk (fun a => by have := hq1 a; rw [ev1] at this; exact this) (fun e => by cases e) (fun _ => rfl) (by omega) BA
    ·rename_i hvi
     have hne : v.toNat ≠ i.toNat := by omega
     have epi : aN { x with ps := x.ps.set i.toNat { aN x i with q := q1 }, gl := g1, d := d2 } i = { aN x i with q := q1 } := eJ (by omega)
     have epv : aN { x with ps := x.ps.set i.toNat { aN x i with q := q1 }, gl := g1, d := d2 } v = aN x v := getD_set_ne hne
     have Q1 := Fe (x := x) (i := v) hvr.1 (by omega)
     have hvm := List.mem_of_getElem? Q1
     have Rn := h.qpos hvm
     have Za := h.room _ hvm
     have hst := Nk q1 (aN x v).q Rn o1.1
     have hsb := QE o1 Za
     have hsp := Nl (x := q1) Rn o1.1
     rw [epi, epv]
     dsimp only
     generalize q1.eB (aN x v).q = s at hst hsb hsp
     obtain ⟨s1, s2, s3⟩ := s
     dsimp only at hst hsb hsp ⊢
     have hz : Sc.dB (Sc.dB { x with ps := x.ps.set i.toNat { aN x i with q := q1 }, gl := g1, d := d2 } i { aN x i with q := s1 }) v { aN x v with q := s2 } = { x with ps := (x.ps.set i.toNat { aN x i with q := s1 }).set v.toNat { aN x v with q := s2 }, gl := g1, d := d2 } := by
      unfold Sc.dB
      dsimp only
      rw [List.set_set]
     rw [hz]
     refine h.bU (g := s3) m0 m1 hi i0 i1 hg (by simp) (fun pr hp => ?_) (fun j => ?_) (fun a => ?_) (fun e => ?_) (fun e => ?_) (by omega) BA
     ·rcases List.mem_or_eq_of_mem_set hp with hp | rfl
      ·rcases List.mem_or_eq_of_mem_set hp with hp | rfl
       ·exact ⟨h.room pr hp, h.hH pr hp⟩
       ·exact ⟨hsb.1, ht⟩
      ·exact ⟨hsb.2, h.hH (aN x v) hvm⟩
     ·by_cases e : j = v.toNat
      ·subst e
       rw [eJ (by simp; omega)]
       rfl
      ·rw [getD_set_ne e]
       by_cases e2 : j = i.toNat
       ·subst e2
        rw [eJ (by omega)]
        rfl
       ·rw [getD_set_ne e2]
     ·have a1 := Bb { aN x i with q := s1 } a
      have a2 := rJ (ps := x.ps.set i.toNat { aN x i with q := s1 }) (a := a) (Vm := { aN x v with q := s2 }) (j := v.toNat) (pr := aN x v) (by rw [List.getElem?_set_ne (Ne.symm hne)]; exact Q1)
      have a3 := hst a
      have a4 := o2 a
      rw [ev1] at a4
      simp only [List.count_nil] at a4
      dsimp only at *
      omega
     ·unfold kB at e
      rcases hsp with ⟨e1, e2⟩ | ⟨_, e2⟩
      ·rw [e1] at e
       have h1 := Rn.1
       simp at e
       omega
      ·exact e2
     ·unfold kB at e
      simp only [Bool.or_eq_false_iff, bne_eq_false_iff_eq] at e
      rw [e.1]; rfl
  ·rename_i hh
   exact h.bU (g := v1) m0 m1 hi i0 i1 hg (by simp) Y9 Uk hq1 o3 (fun e => by rw [o4 e]; rfl) (by omega) hk
end
section
variable {p : cv} {N : Nat} {x y z : Sc} {m i g a kind : Int}
theorem DX : ∀ (l : List Int) (z : Sc), 0 ≤ (aC z m).p → (aC z m).p < z.ps.length → (∀ v ∈ l, 0 ≤ v) → (∀ pr ∈ z.ps, Uf pr.q) →
  (∀ a, m5 (l.foldl (aU m) z).ps a + (l.foldl (aU m) z).gl.count a = m5 z.ps a + z.gl.count a + l.count a) ∧
  (∀ pr ∈ (l.foldl (aU m) z).ps, Uf pr.q) ∧ (∀ j : Nat, ((l.foldl (aU m) z).ps.getD j vu).gW = (z.ps.getD j vu).gW ∧ ((l.foldl (aU m) z).ps.getD j vu).turns = (z.ps.getD j vu).turns)
 | [], z, _, _, _, hr => ⟨fun a => by simp, hr, fun j => ⟨rfl, rfl⟩⟩
 | r :: l, z, h0, h1, hv, hr => by
  have kG := Fe (x := z) h0 h1
  have hps : (aU m z r).ps.length = z.ps.length := by simp [aU, Sc.dB]
  have nS : aC (aU m z r) m = aC z m := rfl
  have hrm := hr _ (List.mem_of_getElem? kG)
  have ZN : ∀ pr ∈ (aU m z r).ps, Uf pr.q := fun pr hp => by
   rcases List.mem_or_eq_of_mem_set hp with hp | rfl
   ·exact hr pr hp
   ·exact QB hrm _ _
  obtain ⟨a1, a2, a3⟩ := DX l (aU m z r) (by rw [nS]; exact h0) (by rw [nS, hps]; exact h1) (fun v hm => hv v (List.mem_cons_of_mem _ hm)) ZN
  rw [List.foldl_cons]
  refine ⟨fun a => ?_, a2, fun j => ?_⟩
  ·have b1 := a1 a
   have b2 := Ni (aN z (aC z m).p).q r (by have := hv r (by simp); omega) z.gl a
   have b3 := rJ (a := a) (Vm := { aN z (aC z m).p with q := ((aN z (aC z m).p).q.ready r z.gl).1 }) kG
   have b4 : m5 (aU m z r).ps a = m5 (z.ps.set (aC z m).p.toNat { aN z (aC z m).p with q := ((aN z (aC z m).p).q.ready r z.gl).1 }) a := rfl
   have b5 : (aU m z r).gl = ((aN z (aC z m).p).q.ready r z.gl).2.1 := rfl
   rw [b4, b5] at b1
   simp only [List.count_cons, List.count_nil] at *
   try dsimp only at *
   omega
  ·obtain ⟨c1, c2⟩ := a3 j
   rw [c1, c2]
   show ((z.ps.set (aC z m).p.toNat _).getD j vu).gW = _ ∧ ((z.ps.set (aC z m).p.toNat _).getD j vu).turns = _
   by_cases e : j = (aC z m).p.toNat
   ·subst e
    rw [eJ (by omega)]
    exact ⟨rfl, rfl⟩
   ·rw [getD_set_ne e]
    exact ⟨rfl, rfl⟩
theorem Ul {w y : Wd} (hy : WV p y) (h : iQ g w y) : y.ready.length ≤ 100 := by
 have h1 := sr (b := 1) y.gs.length y.ready (fun v hv => ⟨(h.2.2.1 v hv).1, (h.2.2.1 v hv).2.1⟩) (fun v => List.nodup_iff_count.1 h.1 v)
 have := hy.n2
 omega
theorem Zb {w y : Wd} (h : iQ g w y) (h0 : 0 ≤ g) (hg : g < w.gs.length) : (At y a 1 ↔ (a = g ∧ (aq y g).st = 1) ∨ a ∈ y.ready ∨ (a ≠ g ∧ At w a 1)) := by
 obtain ⟨_, a2, a3, a4, a5, a6⟩ := h
 constructor
 ·rintro ⟨b1, b2, b3⟩
  by_cases e : a = g
  ·exact .inl ⟨e, by rw [← e]; exact b3⟩
  ·by_cases er : a ∈ y.ready
   ·exact .inr (.inl er)
   ·refine .inr (.inr ⟨e, b1, ?_, by rw [← a4 a b1 e er]; exact b3⟩)
    by_cases hl : a < w.gs.length
    ·exact hl
    ·exact absurd (a6 a (by omega) b2) er
 ·rintro (⟨rfl, e⟩ | e | ⟨e, b1, b2, b3⟩)
  ·exact ⟨h0, by omega, e⟩
  ·exact ⟨(a3 a e).1, (a3 a e).2.1, (a3 a e).2.2.2⟩
  ·by_cases er : a ∈ y.ready
   ·exact ⟨(a3 a er).1, (a3 a er).2.1, (a3 a er).2.2.2⟩
   ·exact ⟨b1, by omega, by rw [a4 a b1 e er]; exact b3⟩
theorem SV.jr {d' : mj} {y : Wd} {rest : Bool} (h : SV p N x) (m0 : 0 ≤ m) (m1 : m < x.ms.length) (hp : (aC x m).p ≠ -1) (hg : 0 ≤ (aC x m).g) (hy : WV p y) (hr : iQ (aC x m).g { x.w with ready := [] } y)
  (hd : d'.taken.length ≤ 3 * N + 3) (hk : d'.k.Ok) {d0 : mj} : ∃ z o, jr { x with d := d0 } m (aC x m).g d' y rest = some (z, o) ∧ SV p (N + 1) z ∧ z.steps = x.steps := by
 have nS := vk m0 m1
 have IM := List.mem_of_getElem? nS
 have Rl := h.ms _ IM
 have Vq := h.mg IM hg
 have hbd : 0 ≤ (aC x m).p ∧ (aC x m).p < x.ps.length ∧ 1 ≤ (aC x m).left ∧ (aC x m).left ≤ 1024 := by
  rcases Rl with e | e
  ·exact absurd e.1 hp
  ·have := e.2.2.2.2.2 hg; omega
 obtain ⟨i0, i1, l0, l1⟩ := hbd
 have jv := Ul hy hr
 have hglt : (aC x m).g < y.gs.length := by have := hr.2.2.2.2.1; have := Vq.2.1; dsimp only at *; omega
 unfold Proofs.jr
 rw [if_pos ⟨by omega, hglt⟩]
 have f1 := iF (m := m) y.ready { x with w := y, d := d' } i0 i1
 have f2 := DX (m := m) y.ready { x with w := y, d := d' } i0 i1 (fun v hv => (hr.2.2.1 v hv).1) h.room
 (try dsimp only at f1 f2 ⊢)
 generalize List.foldl (aU m) { x with w := y, d := d' } y.ready = z at f1 f2
 obtain ⟨z1, z2, z3, z4, z5, z6, _⟩ := f1
 obtain ⟨c1, c2, c3⟩ := f2
 have hran := fun a => Zb (a := a) hr hg Vq.2.1
 have Vu : ∀ a, a ∈ y.ready → ¬ At x.w a 1 ∧ a ≠ (aC x m).g ∧ y.ready.count a = 1 := fun a ha =>
  ⟨(hr.2.2.1 a ha).2.2.1, fun e => hr.2.1 (e ▸ ha), Nat.le_antisymm (List.nodup_iff_count.1 hr.1 a) (List.count_pos_iff.2 ha)⟩
 have turnz : ∀ pr ∈ z.ps, 0 ≤ pr.turns ∧ pr.turns ≤ N := fun pr kG => by
  obtain ⟨j, hj, e⟩ := List.getElem_of_mem kG
  have e2 : z.ps.getD j vu = pr := by rw [List.getD_eq_getElem?_getD, List.getElem?_eq_getElem hj, e]; rfl
  have KI : j < x.ps.length := by omega
  have e3 : x.ps.getD j vu = x.ps[j] := by rw [List.getD_eq_getElem?_getD, List.getElem?_eq_getElem KI]; rfl
  have := (c3 j).2
  rw [e2, e3] at this
  rw [this]
  exact h.hH _ (List.getElem_mem KI)
 have done : ∀ (tT : zW) (NN : List Int), tT.p = (aC x m).p → 0 ≤ tT.left → tT.left ≤ 1024 → -1 ≤ tT.g → (0 ≤ tT.g → 1 ≤ tT.left) →
   (∀ a, NN.count a + (kN tT.g).count a = z.gl.count a + (if (aq y (aC x m).g).st = 1 then [(aC x m).g].count a else 0)) →
   SV p (N + 1) { z with ms := z.ms.set m.toNat tT, gl := NN } := by
  intro tT NN e1 e2 e3 e4 e5 e6
  have hS : ∀ a, nX { z with ms := z.ms.set m.toNat tT, gl := NN } a + [(aC x m).g].count a = nX x a + y.ready.count a + (if (aq y (aC x m).g).st = 1 then [(aC x m).g].count a else 0) := fun a => by
   have q1 := BS (a := a) (tT := tT) nS
   have q2 := c1 a
   have q3 := e6 a
   rw [jl hg] at q1
   unfold nX
   (try dsimp only)
   rw [z1]
   (try dsimp only at q2)
   omega
  have hwz : z.w = y := z3
  refine ⟨by (try dsimp only); rw [hwz]; exact hy, fun a ha => ?_, fun a ha => ?_, by (try dsimp only); rw [z5, z2]; exact h.cP, by (try dsimp only); rw [z5, z1]; simpa using h.cM, by (try dsimp only); rw [z2]; exact h.P1, by (try dsimp only); rw [z1]; simpa using h.M1, by (try dsimp only); rw [z5]; exact h.cS, c2, fun pr kG => by have := turnz pr kG; omega, fun mc Ro => ?_, fun j mc hj hne => ?_, by have := h.st; (try dsimp only); rw [z6]; (try dsimp only); omega, by (try dsimp only); rw [z4]; (try dsimp only); omega, by (try dsimp only); rw [z4]; exact hk⟩
  ·(try dsimp only at ha)
   rw [hwz] at ha
   have hs := hS a
   rcases (hran a).1 ha with ⟨e, es⟩ | e | ⟨e, ew⟩
   ·subst e
    have n1 : y.ready.count (aC x m).g = 0 := List.count_eq_zero.2 hr.2.1
    have n2 := h.one _ Vq
    rw [if_pos es] at hs
    omega
   ·obtain ⟨w1, w2, w3⟩ := Vu a e
    have n2 := h.zero a w1
    have n3 : [(aC x m).g].count a = 0 := List.count_eq_zero.2 (by simpa using w2)
    rw [n3] at hs
    have : (if (aq y (aC x m).g).st = 1 then 0 else 0) = 0 := by split <;> rfl
    omega
   ·have n3 : [(aC x m).g].count a = 0 := List.count_eq_zero.2 (by simpa using e)
    have n2 := h.one a ew
    have n1 : y.ready.count a = 0 := List.count_eq_zero.2 (fun e2 => (Vu a e2).1 ew)
    rw [n3] at hs
    have : (if (aq y (aC x m).g).st = 1 then 0 else 0) = 0 := by split <;> rfl
    omega
  ·(try dsimp only at ha)
   rw [hwz] at ha
   have hs := hS a
   have hn := fun e => ha ((hran a).2 e)
   by_cases e : a = (aC x m).g
   ·subst e
    have n1 : y.ready.count (aC x m).g = 0 := List.count_eq_zero.2 hr.2.1
    have n2 := h.one _ Vq
    have n3 : [(aC x m).g].count (aC x m).g = 1 := by simp
    rw [if_neg (fun es => hn (.inl ⟨rfl, es⟩))] at hs
    omega
   ·have n3 : [(aC x m).g].count a = 0 := List.count_eq_zero.2 (by simpa using e)
    have n2 := h.zero a (fun ew => hn (.inr (.inr ⟨e, ew⟩)))
    have n1 : y.ready.count a = 0 := List.count_eq_zero.2 (fun e2 => hn (.inr (.inl e2)))
    rw [n3] at hs
    have : (if (aq y (aC x m).g).st = 1 then 0 else 0) = 0 := by split <;> rfl
    omega
  ·(try dsimp only at Ro ⊢)
   rw [z2]
   rw [z1] at Ro
   rcases jR Ro with Ro | rfl
   ·exact h.ms mc Ro
   ·exact .inr ⟨by omega, by (try dsimp only); omega, e4, e2, e3, e5⟩
  ·(try dsimp only at hj)
   rw [z1] at hj
   show (z.ps.getD mc.p.toNat vu).gW = _
   rw [(c3 _).1]
   by_cases e : j = m.toNat
   ·subst e
    rw [List.getElem?_set_self (by (try dsimp only); omega)] at hj
    simp only [Option.some.injEq] at hj
    subst hj
    rw [e1]
    exact h.gW m.toNat _ nS hp
   ·rw [List.getElem?_set_ne (Ne.symm e)] at hj
    exact h.gW j mc hj hne
 have hzm : aC z m = aC x m := by unfold aC; rw [z1]
 have hzs : z.steps = x.steps := z6
 unfold Sc.rz
 rw [hzm]
 split
 ·rename_i hkp
  refine ⟨_, _, rfl, ?_, hzs⟩
  have hst : (aq y (aC x m).g).st = 1 := by
   have := hkp.1
   unfold jo at this
   simp only [Bool.and_eq_true, beq_iff_eq] at this
   exact this.2
  exact done { aC x m with left := (aC x m).left - 1 } z.gl rfl (by (try dsimp only); omega) (by (try dsimp only); omega) (by (try dsimp only); omega) (fun _ => by (try dsimp only); omega) (fun a => by rw [if_pos hst]; (try dsimp only); rw [jl hg])
 ·refine ⟨_, _, rfl, ?_, hzs⟩
  refine done { aC x m with left := (aC x m).left - 1, g := -1 } _ rfl (by (try dsimp only); omega) (by (try dsimp only); omega) (by (try dsimp only); omega) (fun e => by (try dsimp only at e); omega) (fun a => ?_)
  have e1 : kN (-1) = [] := rfl
  (try dsimp only)
  rw [e1, z3]
  split
  ·rw [List.count_append]; simp
  ·simp
end
end Go.Proofs
