/- A part of proofs about one program. -/
import Derived.Test.YtnnlgknlialpmaaGreatZShunterChat4
set_option linter.unusedVariables false
namespace Go.Proofs
open Go.AF
set_option maxRecDepth 100000
set_option maxHeartbeats 1000000
attribute [local irreducible] aH cK dM b8 az dD aF aI aX aN bl aM
def Nq (R : Mem) (pa : PA) (p : cj) (b wb db : Nat) (L' : List HP) (K : Value → Mem → Prop) (Kp : List PanicEntry → Mem → Prop) (y : Sc) : gC → Prop
 | .ev e => ∀ R' A c M', R.le R' → RS bI R' A c e.ready → Hp R' (ay (eH pa p wb db) b y :: L') M' → K (Kg e A c) M'
 | .cz l => ∀ M', Hp R (ay (eH pa p wb db) b y :: L') M' → Kp l M'
section
variable {R : Mem} {L L' L2 : List HP} {M : Mem} {K : Value → Mem → Prop} {Kp : List PanicEntry → Mem → Prop} {pa : PA} {p : cj} {b wb db : Nat} {x : Sc} {m i : Int} {a : SA}
theorem Nr {A : Option Addr} {q o : Nat} {G : Nat → Nat → Prop} (e : A = some ⟨q, o, none⟩) (g : G q o) : aF A G := by subst e; exact bp g
theorem EE {q2 k1 c : Nat} {g : Int} {kp : Bool} {A : Option Addr} {w : Wd} {d' : iO} {rest : Bool} {y : Sc} {o : gC}
  (h : Hp R (gq (dF b wb db a x) x.gl :: ay (bC pa p) wb w :: ay (cw .nilFunc) db d' :: bW a.ap a.cp (bL a.lb x.ps) :: aV bE a.lb (x.ps.map c9.q) :: bZ (some ⟨q2, 0, none⟩) a.cm x.ms :: pt k1 [.int .i64 0, .int .i64 0, .int .i64 0, .slice none 0 0] 43 :: L') M)
  (w9 : RS bI R A c w.ready) (HZ : a.am = some ⟨q2, 0, none⟩) (hl : a.lb.length = x.ps.length) (hpre : vt p x m) (hg : g = (av x m).g) (hkp : kp = gJ w g rest) (he : en x m g d' w rest = some (y, o)) (k : Nq R pa p b wb db L' K Kp y o) :
  ∃ t13 : Bool, ∃ mq : Option Addr, ∃ gX : Nat, ∃ gA : Nat, ((Value.agg #[.bool kp, .slice A w.ready.length c]) = (.agg #[(.bool t13), (.slice mq gX gA)])) ∧
aX M (.cells #[(.bool false), (.slice none 0 0)] 250 (0, 0)) fun eK qg =>
aI qg ⟨eK, 0, none⟩ (.bool t13) fun jN =>
aI jN ⟨eK, (0 + 1), none⟩ (.slice mq gX gA) fun rA =>
az (Mem.ld rA ⟨eK, (0 + 1), none⟩) fun BY gU jo =>
∃ Ub : Nat → List Value → Mem → Prop, (∃ oB : Nat, Ub oB [(.int .i64 0)] rA) ∧
∀ uS : Nat, ∀ Uc : Nat → Value, ∀ vR : Int, ∀ mP : Mem, (Ub uS [(.int .i64 vR)] mP) → aM (decide ((vR : Int) < ((gU : Nat) : Int)))
 (((0 : Int) ≤ vR) ∧
 ((vR : Int) < ((gU : Nat) : Int)) ∧
 aF BY fun mQ uq =>
 aH (Mem.ld mP ⟨mQ, (uq + (Int.toNat vR)), none⟩) .i64 fun n32 =>
 az (Mem.ld mP ⟨b, (0 + 5), none⟩) fun LR tg BV =>
 aH (Mem.ld mP ⟨q2, (m.toNat * 3), none⟩) .i64 fun zM =>
 ((0 : Int) ≤ zM) ∧
 ((zM : Int) < ((tg : Nat) : Int)) ∧
 aF LR fun jQ iE =>
 b8 (Mem.ld mP ⟨jQ, (iE + ((Int.toNat zM) * 3)), none⟩) fun Yp =>
 aa Tryz.prog 152 #[(.pointer Yp), (.int .i64 n32), (.pointer (some ⟨b, (0 + 7), none⟩))] mP (fun Md AK =>
 aH (some Md) .i64 fun Hy =>
 ∃ AH : Nat, (AH < uS) ∧
 Ub AH [(.int .i64 (IntKind.wrap .i64 (vR + 1)))] AK) Kp)
 (aH (Mem.ld mP ⟨q2, ((m.toNat * 3) + 2), none⟩) .i64 fun B5 =>
 aI mP ⟨q2, ((m.toNat * 3) + 2), none⟩ (.int .i64 (IntKind.wrap .i64 (B5 - 1))) fun uw =>
 cK (Mem.ld uw ⟨eK, 0, none⟩) fun t46 =>
 aM (!t46)
  (aI uw ⟨q2, ((m.toNat * 3) + 1), none⟩ (.int .i64 (-1)) fun wE =>
  b8 (Mem.ld wE ⟨b, 0, none⟩) fun Jz =>
  aa Tryz.prog 119 #[(.pointer Jz), (.int .i64 g)] wE (fun Jp wX =>
  aH (some Jp) .i64 fun Me =>
  aM (Me == 1)
   (aX wX (.cells #[(.int .i64 g)] 3 (0, 0)) fun tf Jv =>
   aa Tryz.prog 58 #[(.pointer (some ⟨b, (0 + 7), none⟩)), (.slice (some ⟨tf, 0, none⟩) 1 1)] Jv (fun PD zu =>
   (PD = (.tuple #[])) ∧
   az (Mem.ld zu ⟨eK, (0 + 1), none⟩) fun Ud xZ Jr =>
   aI zu ⟨k1, 0, none⟩ (.int .i64 7) fun AM =>
   aI AM ⟨k1, (0 + 1), none⟩ (.int .i64 m) fun nD =>
   aI nD ⟨k1, (0 + 2), none⟩ (.int .i64 g) fun FB =>
   aI FB ⟨k1, (0 + 3), none⟩ (.slice Ud xZ Jr) fun sF =>
   aH (Mem.ld sF ⟨k1, 0, none⟩) .i64 fun FC =>
   aH (Mem.ld sF ⟨k1, (0 + 1), none⟩) .i64 fun n64 =>
   aH (Mem.ld sF ⟨k1, (0 + 2), none⟩) .i64 fun BU =>
   az (Mem.ld sF ⟨k1, (0 + 3), none⟩) fun Mn ux KG =>
   K (.agg #[(.int .i64 FC), (.int .i64 n64), (.int .i64 BU), (.slice Mn ux KG)]) sF) Kp)
   (az (Mem.ld wX ⟨eK, (0 + 1), none⟩) fun Ue Jx Jy =>
   aI wX ⟨k1, 0, none⟩ (.int .i64 7) fun Rj =>
   aI Rj ⟨k1, (0 + 1), none⟩ (.int .i64 m) fun FV =>
   aI FV ⟨k1, (0 + 2), none⟩ (.int .i64 g) fun DL =>
   aI DL ⟨k1, (0 + 3), none⟩ (.slice Ue Jx Jy) fun Cc =>
   aH (Mem.ld Cc ⟨k1, 0, none⟩) .i64 fun Hu =>
   aH (Mem.ld Cc ⟨k1, (0 + 1), none⟩) .i64 fun FE =>
   aH (Mem.ld Cc ⟨k1, (0 + 2), none⟩) .i64 fun CZ =>
   az (Mem.ld Cc ⟨k1, (0 + 3), none⟩) fun Tl Pz Tm =>
   K (.agg #[(.int .i64 Hu), (.int .i64 FE), (.int .i64 CZ), (.slice Tl Pz Tm)]) Cc)) Kp)
  (aH (Mem.ld uw ⟨q2, ((m.toNat * 3) + 2), none⟩) .i64 fun Ot =>
  aM (Ot == 0)
   (aI uw ⟨q2, ((m.toNat * 3) + 1), none⟩ (.int .i64 (-1)) fun B9 =>
   b8 (Mem.ld B9 ⟨b, 0, none⟩) fun A84 =>
   aa Tryz.prog 119 #[(.pointer A84), (.int .i64 g)] B9 (fun Tq FU =>
   aH (some Tq) .i64 fun n87 =>
   aM (n87 == 1)
    (aX FU (.cells #[(.int .i64 g)] 3 (0, 0)) fun Mf FQ =>
    aa Tryz.prog 58 #[(.pointer (some ⟨b, (0 + 7), none⟩)), (.slice (some ⟨Mf, 0, none⟩) 1 1)] FQ (fun Mg nE =>
    (Mg = (.tuple #[])) ∧
    az (Mem.ld nE ⟨eK, (0 + 1), none⟩) fun WQ WZ Th =>
    aI nE ⟨k1, 0, none⟩ (.int .i64 7) fun Xg =>
    aI Xg ⟨k1, (0 + 1), none⟩ (.int .i64 m) fun Oy =>
    aI Oy ⟨k1, (0 + 2), none⟩ (.int .i64 g) fun Pv =>
    aI Pv ⟨k1, (0 + 3), none⟩ (.slice WQ WZ Th) fun MD =>
    aH (Mem.ld MD ⟨k1, 0, none⟩) .i64 fun Ox =>
    aH (Mem.ld MD ⟨k1, (0 + 1), none⟩) .i64 fun nF =>
    aH (Mem.ld MD ⟨k1, (0 + 2), none⟩) .i64 fun LV =>
    az (Mem.ld MD ⟨k1, (0 + 3), none⟩) fun Cg wJ JE =>
    K (.agg #[(.int .i64 Ox), (.int .i64 nF), (.int .i64 LV), (.slice Cg wJ JE)]) MD) Kp)
    (az (Mem.ld FU ⟨eK, (0 + 1), none⟩) fun Ch wG rX =>
    aI FU ⟨k1, 0, none⟩ (.int .i64 7) fun ME =>
    aI ME ⟨k1, (0 + 1), none⟩ (.int .i64 m) fun wC =>
    aI wC ⟨k1, (0 + 2), none⟩ (.int .i64 g) fun Uf =>
    aI Uf ⟨k1, (0 + 3), none⟩ (.slice Ch wG rX) fun oR =>
    aH (Mem.ld oR ⟨k1, 0, none⟩) .i64 fun FF =>
    aH (Mem.ld oR ⟨k1, (0 + 1), none⟩) .i64 fun LW =>
    aH (Mem.ld oR ⟨k1, (0 + 2), none⟩) .i64 fun LX =>
    az (Mem.ld oR ⟨k1, (0 + 3), none⟩) fun Ug Uh Ui =>
    K (.agg #[(.int .i64 FF), (.int .i64 LW), (.int .i64 LX), (.slice Ug Uh Ui)]) oR)) Kp)
   (az (Mem.ld uw ⟨eK, (0 + 1), none⟩) fun Uj Uk Ul =>
   aI uw ⟨k1, 0, none⟩ (.int .i64 7) fun Um =>
   aI Um ⟨k1, (0 + 1), none⟩ (.int .i64 m) fun Un =>
   aI Un ⟨k1, (0 + 2), none⟩ (.int .i64 g) fun Uo =>
   aI Uo ⟨k1, (0 + 3), none⟩ (.slice Uj Uk Ul) fun yf =>
   aH (Mem.ld yf ⟨k1, 0, none⟩) .i64 fun Up =>
   aH (Mem.ld yf ⟨k1, (0 + 1), none⟩) .i64 fun Uq =>
   aH (Mem.ld yf ⟨k1, (0 + 2), none⟩) .i64 fun ya =>
   az (Mem.ld yf ⟨k1, (0 + 3), none⟩) fun Ur Us Ut =>
   K (.agg #[(.int .i64 Up), (.int .i64 Uq), (.int .i64 ya), (.slice Ur Us Ut)]) yf))) := by
 obtain ⟨m0, m1, i0, i1, VE, OB, l1, l2, g0⟩ := hpre
 rw [← hg] at g0
 unfold en at he
 split at he
 ·rename_i hc
  obtain ⟨hr, hgw⟩ := hc
  simp only [Option.some.injEq, Prod.mk.injEq] at he
  obtain ⟨zX, si⟩ := he
  have ji := pC m0 m1
  have m2 : m.toNat < x.ms.length := by omega
  refine ⟨_, _, _, _, rfl, ?_⟩
  refine aj h ?_
  clear h; intro eK M h
  refine aq h ?_
  clear h; intro M h
  refine aq h ?_
  clear h; intro M h
  refine be h ?_
  generalize CA : ({ x with w := w, d := d' } : Sc) = x1 at zX si
  have q1 : x1.ps = x.ps := by rw [← CA]
  have VF : x1.ms = x.ms := by rw [← CA]
  have q3 : x1.gl = x.gl := by rw [← CA]
  have q4 : x1.w = w := by rw [← CA]
  have q5 : x1.d = d' := by rw [← CA]
  have q6 : dF b wb db a x1 = dF b wb db a x := by rw [← CA]
  have q7 : av x1 m = av x m := by rw [← CA]; rfl
  have hf := eA (m := m) (l := w.ready) (z := x1) (by rw [q7]; exact i0) (by rw [q7, q1]; exact i1)
  rw [← q1, ← VF, ← q3, ← q4, ← q5, ← q6] at h
  rw [← q4] at w9 hgw hr
  rw [show w.ready = x1.w.ready from by rw [q4]] at zX si hf ⊢
  clear CA
  have key : ∀ j, j ≤ x1.w.ready.length → ((x1.w.ready.take j).foldl (aD m) x1).ms = x1.ms ∧ ((x1.w.ready.take j).foldl (aD m) x1).ps.length = x1.ps.length ∧ ((x1.w.ready.take j).foldl (aD m) x1).w = x1.w ∧ ((x1.w.ready.take j).foldl (aD m) x1).d = x1.d ∧ ((x1.w.ready.take j).foldl (aD m) x1).c = x1.c ∧ ((x1.w.ready.take j).foldl (aD m) x1).steps = x1.steps ∧ ∀ bs, bL bs ((x1.w.ready.take j).foldl (aD m) x1).ps = bL bs x1.ps :=
   fun j _ => eA (m := m) (l := x1.w.ready.take j) (z := x1) (by rw [q7]; exact i0) (by rw [q7, q1]; exact i1)
  refine ⟨fun d vs M => ∃ j : Nat, vs = [.int .i64 (j : Int)] ∧ d = x1.w.ready.length - j ∧ j ≤ x1.w.ready.length ∧ ((x1.w.ready.take j).foldl (aD m) x1).gl.length ≤ 1000000 + 1030 * j ∧
    Hp R (gq (dF b wb db a x1) ((x1.w.ready.take j).foldl (aD m) x1).gl :: ay (bC pa p) wb x1.w :: ay (cw .nilFunc) db x1.d :: bW a.ap a.cp (bL a.lb x1.ps) :: aV bE a.lb (((x1.w.ready.take j).foldl (aD m) x1).ps.map c9.q) :: bZ (some ⟨q2, 0, none⟩) a.cm x1.ms :: yY eK kp A x1.w.ready.length c :: pt k1 [.int .i64 0, .int .i64 0, .int .i64 0, .slice none 0 0] 43 :: L') M,
   ⟨_, 0, rfl, rfl, by omega, by rw [List.take_zero, List.foldl_nil, q3]; omega, h.sub bM⟩, ?_⟩
  clear h
  rintro d _ nn M ⟨j, he3, hd, hj, UQ, h⟩
  simp only [List.cons.injEq, Value.int.injEq, and_true, true_and] at he3
  subst he3
  obtain ⟨z1, z2, z3, z4, z5, z6, z7⟩ := key j hj
  refine aJ.2 ⟨fun hlt => ?_, fun hge => ?_⟩
  ·obtain ⟨rv, hrv⟩ := aO (l := x1.w.ready) (i := j) (by omega)
   refine ⟨by omega, hlt, ?_⟩
   obtain ⟨rb, ro, hrb⟩ := w9.some (by omega) (by decide)
   have XP := w9
   rw [hrb] at XP
   refine Nr hrb ?_
   simp only [Int.toNat_natCast]
   refine bn (Src.at (XP.src (L := _)) h (i := j) (j := 0) hrv rfl (by simp [bI])) ?_
   have hstep : (x1.w.ready.take (j + 1)).foldl (aD m) x1 = aD m ((x1.w.ready.take j).foldl (aD m) x1) rv := by rw [cV hrv, List.foldl_append]; rfl
   generalize hz : (x1.w.ready.take j).foldl (aD m) x1 = z at h hstep z1 z2 z3 z4 z5 z6 z7 UQ
   have XQ : av z m = av x m := by unfold av; rw [z1, VF]
   have hps : z.ps.length = x.ps.length := by rw [z2, q1]
   rw [No h]
   refine bk ?_
   refine bn (Src.at (h.src (A := some ⟨q2, 0, none⟩)) h (i := m.toNat) (j := 0) (a := av x m) (by rw [VF]; exact ji) rfl (by show _ = 0 + (m.toNat * 3 + 0); simp)) ?_
   refine ⟨i0, by rw [q1]; exact i1, ?_⟩
   have XR : a.lb.length = z.ps.length := by rw [hps]; exact hl
   obtain ⟨lb, hlb, jh, hrow⟩ := pB (i := (av x m).p) (x := z) XR i0 (by rw [hps]; exact i1)
   rw [z7] at hrow
   obtain ⟨q, hq⟩ := h.bA (A := a.ap) (l := bL a.lb x1.ps) (by rw [j7 (by rw [q1]; exact hl), q1]; omega) (by decide)
   have hs0 := (h.src (A := a.ap)) M h
   rw [hq] at hs0
   refine Nr hq ?_
   refine lK (Sl.at hs0 (i := (av x m).p.toNat * 3 + 0) (by simp) (gW.sU (E := pg) hrow rfl)) ?_
   clear hs0
   have hqz : (z.ps.map c9.q)[(av x m).p.toNat]? = some (ax z (av x m).p).q := by rw [List.getElem?_map, jh]; rfl
   replace h := h.cQ bE hlb hqz
   replace h : Hp R (ay bE lb (ax z (av x m).p).q :: gq (dF b wb db a x1) z.gl :: kI bE a.lb (z.ps.map c9.q) (av x m).p.toNat :: ay (bC pa p) wb x1.w :: ay (cw .nilFunc) db x1.d :: bW a.ap a.cp (bL a.lb x1.ps) :: bZ (some ⟨q2, 0, none⟩) a.cm x1.ms :: yY eK kp A x1.w.ready.length c :: pt k1 [.int .i64 0, .int .i64 0, .int .i64 0, .slice none 0 0] 43 :: L') M := h.sub bM
   have hbd := vf h (b := lb)
   have jx := Kk (q := (ax z (av x m).p).q) (r := rv) (gl := z.gl)
   refine Ed (P := dF b wb db a x1) yQ h (by omega) ?_
   clear h; intro M h
   refine cy ?_
   replace h := h.dw bE lb hlb (by rw [List.length_map]; omega)
   refine ⟨x1.w.ready.length - (j + 1), by omega, j + 1, by rw [aS (by omega)], rfl, by omega, ?_, ?_⟩
   ·rw [hstep]
    unfold aD
    rw [XQ]
    dsimp only
    obtain ⟨b1, b2, b3⟩ := hbd
    omega
   ·rw [hstep]
    have e2 : (aD m z rv).ps.map c9.q = (z.ps.map c9.q).set (av x m).p.toNat ((ax z (av x m).p).q.ready rv z.gl).1 := by
     unfold aD; rw [XQ]; simp [Sc.bO, List.map_set]
    have e3 : (aD m z rv).gl = ((ax z (av x m).p).q.ready rv z.gl).2.1 := by unfold aD; rw [XQ]
    rw [e2, e3]
    exact h.sub bM
  ·have RH : j = x1.w.ready.length := by omega
   subst RH
   rw [List.take_length] at z1 z2 z3 z4 z5 z6 z7 UQ h
   clear key hf
   generalize hrd : x1.w.ready = rd at *
   generalize hz : rd.foldl (aD m) x1 = z at h z1 z2 z3 z4 z5 z6 z7 UQ zX si
   have XQ : av z m = av x m := by unfold av; rw [z1, VF]
   have ez : dF b wb db a z = dF b wb db a x1 := by unfold dF dL; rw [z1, z2, z5, z6]
   have XR : a.lb.length = z.ps.length := by rw [z2, q1]; exact hl
   rw [← ez, ← z3, ← z4, ← z7, ← z1] at h
   have XS : z.ms[m.toNat]? = some (av z m) := pC m0 (by rw [z1, VF]; exact m1)
   have m1z : m < z.ms.length := by rw [z1, VF]; exact m1
   have m2z : m.toNat < z.ms.length := by omega
   rw [← XQ] at l1 l2
   refine bn (Src.at (h.src (A := some ⟨q2, 0, none⟩)) h (i := m.toNat) (j := 2) XS rfl (by show _ = 0 + (m.toNat * 3 + 2); omega)) ?_
   rw [cY (by omega) (by omega)]
   refine gp (E := kP) (a' := { av z m with left := (av z m).left - 1 }) m.toNat 2 h XS (by decide) rfl rfl ?_
   clear h; intro M h
   replace h : Hp R (gq (dF b wb db a z) z.gl :: ay (bC pa p) wb z.w :: ay (cw .nilFunc) db z.d :: bW a.ap a.cp (bL a.lb z.ps) :: aV bE a.lb (z.ps.map c9.q) :: bZ (some ⟨q2, 0, none⟩) a.cm (z.ms.set m.toNat { av z m with left := (av z m).left - 1 }) :: yY eK kp A rd.length c :: pt k1 [.int .i64 0, .int .i64 0, .int .i64 0, .slice none 0 0] 43 :: L') M := h.sub bM
   refine Hi h ?_
   have hgz : g < z.w.gs.length := by rw [z3]; exact hgw
   have XT : (¬ (gJ w g rest = true ∧ (av z m).left - 1 ≠ 0)) → ∀ M', Hp R (ay (eH pa p wb db) b { z.gB m { av z m with left := (av z m).left - 1, g := -1 } with gl := if (ae z.w g).st = 1 then z.gl ++ [g] else z.gl } :: L') M' → K (Kg ⟨7, m, g, rd⟩ A c) M' := by
    intro hno M' h'
    unfold Sc.fW at zX si
    rw [if_neg hno] at zX si
    dsimp only at zX si
    subst si
    exact k R A c M' (Mem.le_refl _) w9 (by rw [← zX]; exact h')
   cases hk : kp with
   | false =>
    subst hk
    refine af ?_
    exact ED h HZ XR m0 m1z g0 hgz (by omega) (XT (fun hc => by rw [← hkp] at hc; cases hc.1))
   | true =>
    subst hk
    refine ai ?_
    refine bn (Src.at (h.src (A := some ⟨q2, 0, none⟩)) h (i := m.toNat) (j := 2) (a := { av z m with left := (av z m).left - 1 }) (by simp [m2z]) rfl (by show _ = 0 + (m.toNat * 3 + 2); omega)) ?_
    refine bN.2 ⟨fun e0 => ?_, fun e0 => ?_⟩
    ·exact ED h HZ XR m0 m1z g0 hgz (by omega) (XT (fun hc => hc.2 e0))
    ·refine be h ?_
     refine pz h ?_
     clear h; intro M h
     refine pA h ?_
     unfold Sc.fW at zX si
     rw [if_pos ⟨hkp.symm, e0⟩] at zX si
     dsimp only at zX si
     subst si
     refine k R A c M (Mem.le_refl _) w9 ?_
     rw [← zX]
     refine gK (a := a) (x := z.gB m { av z m with left := (av z m).left - 1 }) XR ?_
     rw [yU]
     show Hp R (_ :: _ :: _ :: _ :: _ :: bZ a.am a.cm (z.ms.set m.toNat { av z m with left := (av z m).left - 1 }) :: _) M
     rw [HZ]
     exact h.sub bM
 ·cases he
end
section
variable {R : Mem} {L L' L2 : List HP} {M : Mem} {K : Value → Mem → Prop} {Kp : List PanicEntry → Mem → Prop} {pa : PA} {p : cj} {b wb db : Nat} {x : Sc} {m i : Int}
theorem Kl {y : Sc} {o : gC} (h : Hp R L M) [q : pn b L pa p wb db x L'] (hp : oY R pa p) (hd : x.d.k.Ok) (he : x.run p m = some (y, o)) (k : Nq R pa p b wb db L' K Kp y o) :
  aa Tryz.prog 111 #[.pointer (some ⟨b, 0, none⟩), .int .i64 m] M K Kp := by
 unfold Sc.run at he
 split at he
 ·rename_i hpre
  have XU := hpre
  obtain ⟨m0, m1, i0, i1, VE, OB, l1, l2, g0⟩ := XU
  split at he
  ·rename_i jq
   have yX : x.d.Ok := ⟨hd, by omega⟩
   refine rY ?_
   refine aj h ?_
   clear h
   intro k1 M h
   have h' := eR h (b := b)
   clear h
   obtain ⟨a, hl, h⟩ := h'
   have ji := pC m0 m1
   obtain ⟨q2, kK⟩ := h.bA (A := a.am) (l := x.ms) (by omega) (by decide)
   replace h : Hp R (gq (dF b wb db a x) x.gl :: ay (bC pa p) wb x.w :: ay (cw .nilFunc) db x.d :: bW a.ap a.cp (bL a.lb x.ps) :: aV bE a.lb (x.ps.map c9.q) :: bZ (some ⟨q2, 0, none⟩) a.cm x.ms :: pt k1 [.int .i64 0, .int .i64 0, .int .i64 0, .slice none 0 0] 43 :: L') M := by
    unfold iu at h
    rw [show bZ a.am a.cm x.ms = bZ (some ⟨q2, 0, none⟩) a.cm x.ms from by rw [kK]] at h
    exact h.sub bM
   rw [yW h]
   refine bk ⟨m0, m1, ?_⟩
   refine Nr kK ?_
   refine bn (Src.at (h.src (A := some ⟨q2, 0, none⟩)) h (i := m.toNat) (j := 1) ji rfl (by show _ = 0 + (m.toNat * 3 + 1); omega)) ?_
   simp only [Nat.zero_add]
   rw [XJ h]
   refine iY ?_
   rw [show M.ld ⟨b, 8, none⟩ = some (.pointer (some ⟨db, 0, none⟩)) from UO h]
   refine iY ⟨trivial, ?_⟩
   replace h : Hp R (ay (bC pa p) wb x.w :: ay (cw .nilFunc) db x.d :: gq (dF b wb db a x) x.gl :: bW a.ap a.cp (bL a.lb x.ps) :: aV bE a.lb (x.ps.map c9.q) :: bZ (some ⟨q2, 0, none⟩) a.cm x.ms :: pt k1 [.int .i64 0, .int .i64 0, .int .i64 0, .slice none 0 0] 43 :: L') M := h.sub bM
   generalize Ns : (gq (dF b wb db a x) x.gl :: bW a.ap a.cp (bL a.lb x.ps) :: aV bE a.lb (x.ps.map c9.q) :: bZ (some ⟨q2, 0, none⟩) a.cm x.ms :: pt k1 [.int .i64 0, .int .i64 0, .int .i64 0, .slice none 0 0] 43 :: L') = LL at h
   have hds : match asks p { x.w with ready := [] } (av x m).g with
     | none => (ay (cw .nilFunc) db (cZ x.d (asks p { x.w with ready := [] } (av x m).g)).1 :: LL) = (ay (cw .nilFunc) db x.d :: LL)
     | some (kd, n) => iq R (.func (.func 107) #[.pointer (some ⟨db, 0, none⟩)] #[]) kd n (cZ x.d (asks p { x.w with ready := [] } (av x m).g)).2 (ay (cw .nilFunc) db x.d :: LL) (ay (cw .nilFunc) db (cZ x.d (asks p { x.w with ready := [] } (av x m).g)).1 :: LL) := by
    cases YH : asks p { x.w with ready := [] } (av x m).g with
    | none => rfl
    | some kn =>
     obtain ⟨kd, n⟩ := kn
     rw [YH] at jq
     exact Ke yX (of_decide_eq_true jq) OB
   have Gt : ∀ l, (cZ x.d (asks p { x.w with ready := [] } (av x m).g)).2 = .cz l → Bc l (wP l) := by
    intro l hl
    cases YH : asks p { x.w with ready := [] } (av x m).g with
    | none => rw [YH] at hl; cases hl
    | some kn =>
     obtain ⟨kd, n⟩ := kn
     rw [YH] at hl
     exact (pE (x' := (x.d.draw kd n).1) (by rw [← hl]; rfl)).2
   generalize iU : cZ x.d (asks p { x.w with ready := [] } (av x m).g) = dd at he hds Gt
   obtain ⟨d', dr⟩ := dd
   dsimp only at he hds Gt
   cases hex : o6 p x.w (av x m).g dr with
   | none => rw [hex] at he; cases he
   | some rr =>
    obtain ⟨r, rest⟩ := rr
    rw [hex] at he
    refine Ka h hp ⟨_, _, _, rfl⟩ hex hds ?_
    cases r with
    | cz l w =>
     dsimp only at he
     simp only [Option.some.injEq, Prod.mk.injEq] at he
     obtain ⟨zX, si⟩ := he
     obtain ⟨yH, hw⟩ := Bj hex
     refine ⟨wP l, Gt l yH, ?_⟩
     intro M h
     subst si
     refine k M ?_
     rw [← zX]
     rw [← Ns] at h
     have h9 : Hp R (gq (dF b wb db a { x with w := w, d := d' }) x.gl :: ay (bC pa p) wb w :: ay (cw .nilFunc) db d' :: bW a.ap a.cp (bL a.lb x.ps) :: aV bE a.lb (x.ps.map c9.q) :: bZ a.am a.cm x.ms :: L') M := by
      rw [show bZ a.am a.cm x.ms = bZ (some ⟨q2, 0, none⟩) a.cm x.ms from by rw [kK], show dF b wb db a { x with w := w, d := d' } = dF b wb db a x from rfl]
      exact h.sub bM
     exact gK (a := a) (x := { x with w := w, d := d' }) hl h9
    | on w =>
     intro R' A c M hle w9 h
     rw [← Ns] at h
     have h2 : Hp R' (gq (dF b wb db a x) x.gl :: ay (bC pa p) wb w :: ay (cw .nilFunc) db d' :: bW a.ap a.cp (bL a.lb x.ps) :: aV bE a.lb (x.ps.map c9.q) :: bZ (some ⟨q2, 0, none⟩) a.cm x.ms :: pt k1 [.int .i64 0, .int .i64 0, .int .i64 0, .slice none 0 0] 43 :: L') M := h.sub bM
     refine EE (K := K) (Kp := Kp) (w := w) (g := (av x m).g) (kp := gJ w (av x m).g rest) (rest := rest) h2 w9 kK hl hpre rfl rfl he ?_
     cases o with
     | ev e => exact fun R2 A2 c2 M2 UR => k R2 A2 c2 M2 (Mem.le_trans hle UR)
     | cz l =>
      dsimp only at he
      unfold en at he
      split at he
      ·simp only [Option.some.injEq, Prod.mk.injEq] at he; cases he.2
      ·cases he
    | dx n w =>
     intro R' A c M hle w9 h
     rw [← Ns] at h
     have h2 : Hp R' (gq (dF b wb db a x) x.gl :: ay (bC pa p) wb { w with end_ := 2, code := n } :: ay (cw .nilFunc) db d' :: bW a.ap a.cp (bL a.lb x.ps) :: aV bE a.lb (x.ps.map c9.q) :: bZ (some ⟨q2, 0, none⟩) a.cm x.ms :: pt k1 [.int .i64 0, .int .i64 0, .int .i64 0, .slice none 0 0] 43 :: L') M := h.sub bM
     refine EE (K := K) (Kp := Kp) (w := { w with end_ := 2, code := n }) (g := (av x m).g) (kp := gJ { w with end_ := 2, code := n } (av x m).g rest) (rest := rest) h2 w9 kK hl hpre rfl rfl he ?_
     cases o with
     | ev e => exact fun R2 A2 c2 M2 UR => k R2 A2 c2 M2 (Mem.le_trans hle UR)
     | cz l =>
      dsimp only at he
      unfold en at he
      split at he
      ·simp only [Option.some.injEq, Prod.mk.injEq] at he; cases he.2
      ·cases he
  ·cases he
 ·cases he
theorem Nt {e : Ev} {o : gC} {y z : Sc} (h : gL (z, .ev e) = (y, o)) : o = .ev e ∧ y = { z with steps := z.steps + 1 } := by
 unfold gL at h; cases h; exact ⟨rfl, rfl⟩
theorem GK {y : Sc} {o : gC} (h : Hp R L M) [q : pn b L pa p wb db x L'] (hp : oY R pa p) (hd : x.d.k.Ok) (he : x.step p = some (y, o)) (k : Nq R pa p b wb db L' K Kp y o) :
  aa Tryz.prog 54 #[.pointer (some ⟨b, 0, none⟩)] M K Kp := by
 unfold Sc.step at he
 split at he
 ·rename_i hpre
  obtain ⟨RM, hcM, hps, H6, OB, hst0, hst1⟩ := hpre
  refine qH ?_
  refine aj h ?_
  clear h
  intro k1 M h
  refine ua h RM ?_
  refine cy ?_
  split at he
  ·rename_i hst
   simp only [Option.some.injEq, Prod.mk.injEq] at he
   obtain ⟨zX, si⟩ := he
   subst zX; subst si
   refine eu.2 ⟨fun _ => ?_, fun hn => absurd hn hst⟩
   refine pz h ?_
   clear h; intro M h
   refine pA h ?_
   exact k R none 0 M (Mem.le_refl _) (RS.nil _ _) (h.drop.pick q.pick)
  ·rename_i hst
   refine eu.2 ⟨fun hn => absurd hn hst, fun _ => ?_⟩
   have h' := eR h (b := b)
   clear h
   obtain ⟨a, hl, h⟩ := h'
   rw [UO h]
   refine iY ?_
   rw [XI h]
   refine cy ?_
   have yX : x.d.Ok := ⟨hd, by omega⟩
   have hnw : IntKind.wrap .i64 (x.c.M + 1) = x.c.M + 1 := cY (by omega) (by omega)
   rw [hnw]
   replace h : Hp R (ay (cw .nilFunc) db x.d :: gq (dF b wb db a x) x.gl :: ay (bC pa p) wb x.w :: bW a.ap a.cp (bL a.lb x.ps) :: aV bE a.lb (x.ps.map c9.q) :: bZ a.am a.cm x.ms :: pt k1 [.int .i64 0, .int .i64 0, .int .i64 0, .slice none 0 0] 43 :: L') M := h.sub bM
   refine pe h yX (by omega) (by omega) ?_
   clear h
   have XV := kQ (kind := 1) (n := x.c.M + 1) hd
   have CF : ∀ x' v, x.d.draw 1 (x.c.M + 1) = (x', .num v) → 0 ≤ v ∧ v < x.c.M + 1 ∧ x'.taken = x.d.taken ++ [(1, v)] := by
    intro x' v hv
    have := ei hd hv
    rw [show gn (x.c.M + 1) = x.c.M + 1 from by unfold gn; rw [if_neg (by omega)]] at this
    exact this
   generalize iU : x.d.draw 1 (x.c.M + 1) = dd at he XV CF
   obtain ⟨d', dr⟩ := dd
   have mk : ∀ {M : Mem}, Hp R (ay (cw .nilFunc) db d' :: gq (dF b wb db a x) x.gl :: ay (bC pa p) wb x.w :: bW a.ap a.cp (bL a.lb x.ps) :: aV bE a.lb (x.ps.map c9.q) :: bZ a.am a.cm x.ms :: pt k1 [.int .i64 0, .int .i64 0, .int .i64 0, .slice none 0 0] 43 :: L') M → Hp R (ay (eH pa p wb db) b { x with d := d' } :: pt k1 [.int .i64 0, .int .i64 0, .int .i64 0, .slice none 0 0] 43 :: L') M :=
    fun h => gK (a := a) (x := { x with d := d' }) hl (h.sub bM)
   cases dr with
   | cz l =>
    dsimp only at he ⊢
    simp only [Option.some.injEq, Prod.mk.injEq] at he
    obtain ⟨zX, si⟩ := he
    intro M h
    subst si
    refine k M ?_
    rw [← zX]
    exact (mk h).bT
   | num mm =>
    dsimp only at he ⊢
    obtain ⟨v0, v1, htk2⟩ := CF d' mm rfl
    intro M h
    replace h := mk h
    clear mk
    refine cy ?_
    generalize CA : ({ x with d := d' } : Sc) = x1 at h he
    have e1 : x1.c = x.c := by rw [← CA]
    have e2 : x1.ms = x.ms := by rw [← CA]
    have e3 : x1.ps = x.ps := by rw [← CA]
    have e4 : x1.d.k.Ok := by rw [← CA]; exact XV
    have e5 : x1.steps = x.steps := by rw [← CA]
    clear CA
    refine aj h ?_
    clear h; intro eZ M h
    replace h : Hp R (ay (eH pa p wb db) b x1 :: pt k1 [.int .i64 0, .int .i64 0, .int .i64 0, .slice none 0 0] 43 :: pt eZ [.int .i64 0, .int .i64 0, .int .i64 0, .slice none 0 0] 43 :: L') M := h.sub bM
    have fin : ∀ (R' : Mem) (A : Option Addr) (c : Nat) (M : Mem) (z : Sc) (e : Ev), R.le R' → RS bI R' A c e.ready → z.steps = x.steps → gL (z, .ev e) = (y, o) → Hp R' (ay (eH pa p wb db) b z :: pt k1 [.int .i64 0, .int .i64 0, .int .i64 0, .slice none 0 0] 43 :: pt eZ [.int .i64 0, .int .i64 0, .int .i64 0, .slice none 0 0] 43 :: L') M →
      aI M ⟨eZ, 0, none⟩ (.int .i64 e.kind) fun qQ => aI qQ ⟨eZ, (0 + 1), none⟩ (.int .i64 e.m) fun zq => aI zq ⟨eZ, (0 + 2), none⟩ (.int .i64 e.g) fun qS => aI qS ⟨eZ, (0 + 3), none⟩ (.slice A e.ready.length c) fun wH =>
      aH (Mem.ld wH ⟨b, (0 + 9), none⟩) .i64 fun zM => aI wH ⟨b, (0 + 9), none⟩ (.int .i64 (IntKind.wrap .i64 (zM + 1))) fun FT =>
      aH (Mem.ld FT ⟨eZ, 0, none⟩) .i64 fun Jm => aH (Mem.ld FT ⟨eZ, (0 + 1), none⟩) .i64 fun LM => aH (Mem.ld FT ⟨eZ, (0 + 2), none⟩) .i64 fun Po => az (Mem.ld FT ⟨eZ, (0 + 3), none⟩) fun WM LN AH =>
      aI FT ⟨k1, 0, none⟩ (.int .i64 Jm) fun B6 => aI B6 ⟨k1, (0 + 1), none⟩ (.int .i64 LM) fun uw => aI uw ⟨k1, (0 + 2), none⟩ (.int .i64 Po) fun Td => aI Td ⟨k1, (0 + 3), none⟩ (.slice WM LN AH) fun wE =>
      aH (Mem.ld wE ⟨k1, 0, none⟩) .i64 fun Pr => aH (Mem.ld wE ⟨k1, (0 + 1), none⟩) .i64 fun n49 => aH (Mem.ld wE ⟨k1, (0 + 2), none⟩) .i64 fun S5 => az (Mem.ld wE ⟨k1, (0 + 3), none⟩) fun Pa tf pQ =>
      K (.agg #[(.int .i64 Pr), (.int .i64 n49), (.int .i64 S5), (.slice Pa tf pQ)]) wE := by
     intro R' A c M z e hle w9 hzs hinc h
     obtain ⟨ho, hy⟩ := Nt hinc
     subst ho; subst hy
     refine pz h ?_
     clear h; intro M h
     have h' := eR h (b := b)
     clear h
     obtain ⟨a3, RI, h⟩ := h'
     have h' := nf h
     clear h
     obtain ⟨A4, c4, h⟩ := h'
     refine aG h ?_
     rw [cY (by omega) (by omega)]
     refine aq h ?_
     clear h; intro M h
     refine pA h ?_
     refine pz h ?_
     clear h; intro M h
     refine pA h ?_
     refine k R' A c M hle w9 (gK (a := a3) (x := { z with steps := z.steps + 1 }) RI ?_)
     exact xd (x := { z with steps := z.steps + 1 }) (h.sub bM)
    have h' := eR h (b := b)
    clear h
    obtain ⟨a5, hl5, h⟩ := h'
    rw [XI h]
    refine cy ?_
    have Bg : ∀ {M : Mem}, Hp R (gq (dF b wb db a5 x1) x1.gl :: ay (bC pa p) wb x1.w :: ay (cw .nilFunc) db x1.d :: iu a5 x1 (pt k1 [.int .i64 0, .int .i64 0, .int .i64 0, .slice none 0 0] 43 :: pt eZ [.int .i64 0, .int .i64 0, .int .i64 0, .slice none 0 0] 43 :: L')) M → Hp R (ay (eH pa p wb db) b x1 :: pt k1 [.int .i64 0, .int .i64 0, .int .i64 0, .slice none 0 0] 43 :: pt eZ [.int .i64 0, .int .i64 0, .int .i64 0, .slice none 0 0] 43 :: L') M := fun h => gK (a := a5) hl5 h
    unfold Sc.act at he
    refine bN.2 ⟨fun em => ?_, fun em => ?_⟩
    ·rw [if_pos em] at he
     split at he
     ·rename_i XW
      simp only [Option.map_some, Option.some.injEq] at he
      refine GD (Bg h) XW ?_
      clear h; intro R' A c M hle w9 h
      refine ⟨_, _, _, _, _, _, rfl, ?_⟩
      exact fin R' A c M _ _ hle w9 (by rw [← e5]; rfl) he h
     ·cases he
    rw [if_neg em] at he
    have YI : mm < x1.ms.length := by
     have a1 : x1.c.M = x.c.M := by rw [e1]
     have a2 : x1.ms.length = x.ms.length := by rw [e2]
     omega
    have ji := pC v0 YI
    obtain ⟨q2, kK⟩ := h.bA (A := a5.am) (l := x1.ms) (by omega) (by decide)
    have hs0 := (h.src (A := a5.am)) M h
    rw [kK] at hs0
    rw [yW h]
    refine bk ⟨v0, YI, ?_⟩
    refine Nr kK ?_
    refine bn (Sl.at hs0 (i := mm.toNat * 3 + 0) (by simp) (gW.sU (E := kP) ji rfl)) ?_
    refine bN.2 ⟨fun ep => ?_, fun ep => ?_⟩
    ·rw [if_pos ep] at he
     simp only [Option.map_some, Option.some.injEq] at he
     refine GF (Bg h) v0 YI (by rw [e3]; omega) ?_
     clear h hs0; intro M h
     have Fs : (x1.hold mm).2.ready = [] := by unfold Sc.hold; split <;> rfl
     have su : (x1.hold mm).1.steps = x.steps := by rw [← e5]; unfold Sc.hold; split <;> rfl
     refine ⟨_, _, _, _, _, _, rfl, ?_⟩
     exact fin R none 0 M _ _ (Mem.le_refl _) (by rw [Fs]; exact RS.nil _ _) su he h
    rw [if_neg ep] at he
    refine bk ⟨v0, YI, ?_⟩
    refine Nr kK ?_
    refine bn (Sl.at hs0 (i := mm.toNat * 3 + 1) (by simp) (gW.sU (E := kP) ji rfl)) ?_
    clear hs0
    refine bN.2 ⟨fun eg => ?_, fun eg => ?_⟩
    ·rw [if_pos eg] at he
     split at he
     ·rename_i hfo
      simp only [Option.map_some, Option.some.injEq] at he
      have su : (x1.find mm).1.steps = x.steps := by
       rw [← e5]
       have Be : ∀ (z : Sc) a b c d e, (z.aT a b c d e).1.steps = z.steps := by intro z a b c d e; unfold Sc.aT; split <;> rfl
       unfold Sc.find
       dsimp only
       split
       ·rfl
       ·split
        ·split
         ·rfl
         ·split <;> exact Be ..
        ·exact Be ..
      have hrd : ∀ e, (x1.find mm).2 = .ev e → e.ready = [] := by
       have Be : ∀ (z : Sc) a b c d e, (z.aT a b c d e).2.ready = [] := by intro z a b c d e; unfold Sc.aT; split <;> rfl
       intro e Fs
       unfold Sc.find at Fs
       dsimp only at Fs
       split at Fs
       ·cases Fs; rfl
       ·split at Fs
        ·split at Fs
         ·cases Fs
         ·split at Fs <;> · cases Fs; exact Be ..
        ·cases Fs; exact Be ..
      refine GI (Bg h) hfo e4 ?_
      clear h
      generalize Vo : x1.find mm = ff at he su hrd ⊢
      obtain ⟨z, oo⟩ := ff
      cases oo with
      | ev e =>
       dsimp only at su hrd ⊢
       intro M h
       refine ⟨_, _, _, _, _, _, rfl, ?_⟩
       have Qj : e.ready = [] := hrd e rfl
       exact fin R none 0 M _ e (Mem.le_refl _) (by rw [Qj]; exact RS.nil _ _) su he h
      | cz l =>
       dsimp only
       intro M h
       unfold gL at he
       cases he
       exact k M h.bT
     ·cases he
    rw [if_neg eg] at he
    cases hrun : x1.run p mm with
    | none => rw [hrun] at he; cases he
    | some rr =>
     obtain ⟨z, oo⟩ := rr
     rw [hrun] at he
     simp only [Option.map_some, Option.some.injEq] at he
     refine Kl (Bg h) hp e4 hrun ?_
     clear h
     have su : z.steps = x.steps := by
      rw [← e5]
      unfold Sc.run at hrun
      split at hrun
      ·rename_i XX
       obtain ⟨_, _, i0, i1, _⟩ := XX
       have K0 : ∀ d w rest, en x1 mm (av x1 mm).g d w rest = some (z, oo) → z.steps = x1.steps := by
        intro d w rest K0
        unfold en at K0
        split at K0
        ·simp only [Option.some.injEq, Prod.mk.injEq] at K0
         rw [← K0.1]
         have := eA (m := mm) w.ready { x1 with w := w, d := d } i0 i1
         unfold Sc.fW
         split <;> exact this.2.2.2.2.2.1
        ·cases K0
       split at hrun
       ·split at hrun
        ·cases hrun
        ·simp only [Option.some.injEq, Prod.mk.injEq] at hrun; rw [← hrun.1]
        ·exact K0 _ _ _ hrun
        ·exact K0 _ _ _ hrun
       ·cases hrun
      ·cases hrun
     cases oo with
     | ev e =>
      intro R' A c M hle w9 h
      refine ⟨_, _, _, _, _, _, rfl, ?_⟩
      exact fin R' A c M _ e hle w9 su he h
     | cz l =>
      intro M h
      unfold gL at he
      cases he
      exact k M h.bT
 ·cases he
end
def Sc.new (p : cj) (c : Kf) (d : iO) : Sc := ⟨Wd.new p, c, List.replicate c.P.toNat ⟨⟨-1, fy c.R, []⟩, 0, -1⟩, List.replicate c.M.toNat ⟨-1, -1, 0⟩, [0], d, 0⟩
theorem H7 : bu Tryz.prog 132 141 3 24 [.pointer none, .int .i64 0, .int .i64 0] := bu.mk' (zv := .agg #[.pointer none, .int .i64 0, .int .i64 0]) (by kernel_rfl) (by kernel_rfl) rfl (by omega)
theorem Qo : bu Tryz.prog 133 143 3 24 [.int .i64 0, .int .i64 0, .int .i64 0] := bu.mk' (zv := .agg #[.int .i64 0, .int .i64 0, .int .i64 0]) (by kernel_rfl) (by kernel_rfl) rfl (by omega)
theorem Bk {bs : List Nat} {ps : List c9} {b : Nat} {y : c9} (h : bs.length = ps.length) : bL (bs ++ [b]) (ps ++ [y]) = bL bs ps ++ [(b, y.turns, y.eD)] := by
 unfold bL; rw [List.zipWith_append h]; rfl
section
variable {R : Mem} {L L' L2 : List HP} {M : Mem} {K : Value → Mem → Prop} {Kp : List PanicEntry → Mem → Prop} {pa : PA} {p : cj} {b wb db : Nat} {x : Sc} {m i : Int}
theorem Km {c : Kf} {d : iO} (h : Hp R L M) [o : bV (cw .nilFunc) db L d L'] (w5 : RS bI R pa.c pa.cc p.nY) (hc : p.nY.length ≤ 1000000) (hk : 0 ≤ p.aU ∧ p.aU ≤ 1000000) (hP : 0 ≤ c.P ∧ c.P ≤ 1000000) (hM : 0 ≤ c.M ∧ c.M ≤ 1000000)
  (k : ∀ b wb M', Hp R (ay (eH pa p wb db) b (Sc.new p c d) :: L') M' → K (.pointer (some ⟨b, 0, none⟩)) M') :
  aa Tryz.prog 15 #[.agg #[.slice pa.f p.funcs.length pa.fc, .slice pa.c p.nY.length pa.cc, .int .i64 p.aU, .slice pa.k p.cases.length pa.kc], .agg #[.int .i64 c.P, .int .i64 c.M, .int .i64 c.R, .int .i64 c.S], .pointer (some ⟨db, 0, none⟩)] M K Kp := by
 refine Cb ?_
 replace h := h.front (cw .nilFunc) db
 refine aj h ?_
 clear h; intro k1 M h
 refine aj h ?_
 clear h; intro k3 M h
 refine be h (be h (aG h (be h ?_)))
 refine aG h (aG h (aG h (aG h ?_)))
 refine JW (p := p) (pa := pa) h w5 hc hk ?_
 clear h; intro wb M h
 refine iY ⟨iZ (bH h) (iZ (bH h) (iZ (bH h) (iZ (bH h) sS))), ?_⟩
 refine aj h ?_
 clear h; intro b M h
 refine aG h ?_
 replace h := ((((h.cE pg 141).tj bE).cE kP 143).cE bI 3)
 obtain ⟨nP, hnP⟩ := Int.eq_ofNat_of_zero_le hP.1
 obtain ⟨nM, hnM⟩ := Int.eq_ofNat_of_zero_le hM.1
 refine ⟨fun dd vs M => ∃ (j : Nat) (A : Option Addr) (ca : Nat) (uz : List Nat), vs = [.int .i64 (j : Int)] ∧ dd = nP - j ∧ j ≤ nP ∧ uz.length = j ∧
   Hp R (pt b [.pointer (some ⟨wb, 0, none⟩), .int .i64 c.P, .int .i64 c.M, .int .i64 c.R, .int .i64 c.S, .slice A j ca, .slice none 0 0, .slice none 0 0, .pointer (some ⟨db, 0, none⟩), .int .i64 0] 137 ::
    bW A ca (bL uz (List.replicate j ⟨⟨-1, fy c.R, []⟩, 0, -1⟩)) :: aV bE uz (List.replicate j ⟨-1, fy c.R, []⟩) :: bZ none 0 [] :: kA none 0 [] :: ay (bC pa p) wb (Wd.new p) :: ay (cw .nilFunc) db d :: pt k3 [.int .i64 c.P, .int .i64 c.M, .int .i64 c.R, .int .i64 c.S] 29 :: L') M,
  ⟨_, 0, none, 0, [], rfl, rfl, by omega, rfl, h.sub bM⟩, ?_⟩
 clear h
 rintro dd _ nn M ⟨j, A, ca, uz, he, hd, hj, hlb, h⟩
 simp only [List.cons.injEq, Value.int.injEq, and_true, true_and] at he
 subst he
 refine aJ.2 ⟨fun hlt => ?_, fun hge => ?_⟩
 ·have jx : (List.replicate j (⟨⟨-1, fy c.R, []⟩, 0, -1⟩ : c9)).length = j := List.length_replicate
  refine ⟨fun vs M => ∃ (A : Option Addr) (ca : Nat) (lb : Nat),
   Hp R (pt b [.pointer (some ⟨wb, 0, none⟩), .int .i64 c.P, .int .i64 c.M, .int .i64 c.R, .int .i64 c.S, .slice A (j + 1) ca, .slice none 0 0, .slice none 0 0, .pointer (some ⟨db, 0, none⟩), .int .i64 0] 137 ::
    bW A ca (bL (uz ++ [lb]) (List.replicate (j + 1) ⟨⟨-1, fy c.R, []⟩, 0, -1⟩)) :: aV bE (uz ++ [lb]) (List.replicate (j + 1) ⟨-1, fy c.R, []⟩) :: bZ none 0 [] :: kA none 0 [] :: ay (bC pa p) wb (Wd.new p) :: ay (cw .nilFunc) db d :: pt k3 [.int .i64 c.P, .int .i64 c.M, .int .i64 c.R, .int .i64 c.S] 29 :: L') M, aG h ⟨?_, ?_, trivial⟩, ?_⟩
  ·refine be h ?_
   refine AV h ?_
   clear h; intro lb M h
   refine iY ?_
   refine aj h ?_
   clear h; intro zN M h
   refine h.lT (A := A) H7 [(lb, 0, -1)] rfl (by rw [j7 (by rw [hlb, jx]), jx]) rfl (by rw [j7 (by rw [hlb, jx]), jx]; simp only [List.length_singleton]; omega) ?_
   clear h; intro A' c' M h
   refine bk ?_
   refine aq h ?_
   clear h; intro M h
   replace h := h.jP bE lb (by rw [hlb, List.length_replicate])
   refine ⟨A', c', lb, ?_⟩
   have e1 : bL (uz ++ [lb]) (List.replicate (j + 1) (⟨⟨-1, fy c.R, []⟩, 0, -1⟩ : c9)) = bL uz (List.replicate j ⟨⟨-1, fy c.R, []⟩, 0, -1⟩) ++ [(lb, 0, -1)] := by
    rw [List.replicate_succ', Bk (by rw [hlb, jx])]
   have e2 : List.replicate (j + 1) (⟨-1, fy c.R, []⟩ : Loc) = List.replicate j ⟨-1, fy c.R, []⟩ ++ [⟨-1, fy c.R, []⟩] := List.replicate_succ'
   rw [e1, e2]
   exact h.sub bM
  ·refine AV h ?_
   clear h; intro lb M h
   refine iY ?_
   refine be h ?_
   refine aj h ?_
   clear h; intro zN M h
   refine h.lT (A := A) H7 [(lb, 0, -1)] rfl (by rw [j7 (by rw [hlb, jx]), jx]) rfl (by rw [j7 (by rw [hlb, jx]), jx]; simp only [List.length_singleton]; omega) ?_
   clear h; intro A' c' M h
   refine bk ?_
   refine aq h ?_
   clear h; intro M h
   replace h := h.jP bE lb (by rw [hlb, List.length_replicate])
   refine ⟨A', c', lb, ?_⟩
   have e1 : bL (uz ++ [lb]) (List.replicate (j + 1) (⟨⟨-1, fy c.R, []⟩, 0, -1⟩ : c9)) = bL uz (List.replicate j ⟨⟨-1, fy c.R, []⟩, 0, -1⟩) ++ [(lb, 0, -1)] := by
    rw [List.replicate_succ', Bk (by rw [hlb, jx])]
   have e2 : List.replicate (j + 1) (⟨-1, fy c.R, []⟩ : Loc) = List.replicate j ⟨-1, fy c.R, []⟩ ++ [⟨-1, fy c.R, []⟩] := List.replicate_succ'
   rw [e1, e2]
   exact h.sub bM
  ·clear h
   rintro _ M ⟨A', c', lb, h⟩
   rw [aS (by omega)]
   exact ⟨nP - (j + 1), by omega, j + 1, A', c', uz ++ [lb], rfl, rfl, by omega, by simp [hlb], h⟩
 have hjn : j = nP := by omega
 subst hjn
 refine aG h ?_
 refine ⟨fun dd vs M => ∃ (q : Nat) (B : Option Addr) (cb : Nat), vs = [.int .i64 (q : Int)] ∧ dd = nM - q ∧ q ≤ nM ∧
   Hp R (pt b [.pointer (some ⟨wb, 0, none⟩), .int .i64 c.P, .int .i64 c.M, .int .i64 c.R, .int .i64 c.S, .slice A j ca, .slice B q cb, .slice none 0 0, .pointer (some ⟨db, 0, none⟩), .int .i64 0] 137 ::
    bW A ca (bL uz (List.replicate j ⟨⟨-1, fy c.R, []⟩, 0, -1⟩)) :: aV bE uz (List.replicate j ⟨-1, fy c.R, []⟩) :: bZ B cb (List.replicate q ⟨-1, -1, 0⟩) :: kA none 0 [] :: ay (bC pa p) wb (Wd.new p) :: ay (cw .nilFunc) db d :: pt k3 [.int .i64 c.P, .int .i64 c.M, .int .i64 c.R, .int .i64 c.S] 29 :: L') M,
  ⟨_, 0, none, 0, rfl, rfl, by omega, h.sub bM⟩, ?_⟩
 clear h
 rintro dd _ nn M ⟨q, B, cb, he, UE, hq, h⟩
 simp only [List.cons.injEq, Value.int.injEq, and_true, true_and] at he
 subst he
 refine aJ.2 ⟨fun hlt => ?_, fun hge2 => ?_⟩
 ·refine be h ?_
  refine aj h ?_
  clear h; intro xZ M h
  refine h.lT (A := B) Qo [(⟨-1, -1, 0⟩ : tZ)] rfl (by simp) rfl (by simp; omega) ?_
  clear h; intro B' cb' M h
  refine bk ?_
  refine aq h ?_
  clear h; intro M h
  rw [aS (by omega)]
  have e : List.replicate q (⟨-1, -1, 0⟩ : tZ) ++ [⟨-1, -1, 0⟩] = List.replicate (q + 1) ⟨-1, -1, 0⟩ := List.replicate_succ'.symm
  rw [e] at h
  exact ⟨nM - (q + 1), by omega, q + 1, B', cb', rfl, rfl, by omega, h.sub bM⟩
 have hqn : q = nM := by omega
 subst hqn
 refine aj h ?_
 clear h; intro Mh M h
 have e0 : Sc.new p c d = ⟨Wd.new p, c, List.replicate j ⟨⟨-1, fy c.R, []⟩, 0, -1⟩, List.replicate q ⟨-1, -1, 0⟩, [0], d, 0⟩ := by
  unfold Sc.new; rw [hnP, hnM]; rfl
 have e3 : (List.replicate j (⟨⟨-1, fy c.R, []⟩, 0, -1⟩ : c9)).map c9.q = List.replicate j ⟨-1, fy c.R, []⟩ := by simp
 replace h := (h.pt Mh).hH (E := bI) (l := [0]) rfl
 generalize hz : (⟨Wd.new p, c, List.replicate j ⟨⟨-1, fy c.R, []⟩, 0, -1⟩, List.replicate q ⟨-1, -1, 0⟩, [0], d, 0⟩ : Sc) = z at e0
 have z1 : dL wb db ⟨A, ca, uz, B, cb⟩ z none 0 0 = [.pointer (some ⟨wb, 0, none⟩), .int .i64 c.P, .int .i64 c.M, .int .i64 c.R, .int .i64 c.S, .slice A j ca, .slice B q cb, .slice none 0 0, .pointer (some ⟨db, 0, none⟩), .int .i64 0] := by
  rw [← hz]; simp [dL]
 rw [← z1] at h
 have h2 : Hp R (pt b (dL wb db ⟨A, ca, uz, B, cb⟩ z none 0 0) 137 :: kA none 0 [] :: kA (some ⟨Mh, 0, none⟩) 1 [0] :: ay (bC pa p) wb (Wd.new p) :: ay (cw .nilFunc) db d :: bW A ca (bL uz (List.replicate j ⟨⟨-1, fy c.R, []⟩, 0, -1⟩)) :: aV bE uz (List.replicate j ⟨-1, fy c.R, []⟩) :: bZ B cb (List.replicate q ⟨-1, -1, 0⟩) :: L') M := h.sub bM
 have h3 : Hp R (gq (dF b wb db ⟨A, ca, uz, B, cb⟩ z) [] :: kA (some ⟨Mh, 0, none⟩) 1 [0] :: ay (bC pa p) wb (Wd.new p) :: ay (cw .nilFunc) db d :: bW A ca (bL uz (List.replicate j ⟨⟨-1, fy c.R, []⟩, 0, -1⟩)) :: aV bE uz (List.replicate j ⟨-1, fy c.R, []⟩) :: bZ B cb (List.replicate q ⟨-1, -1, 0⟩) :: L') M := HK (P := dF b wb db ⟨A, ca, uz, B, cb⟩ z) h2 rfl
 clear h h2
 refine m8 (P := dF b wb db ⟨A, ca, uz, B, cb⟩ z) yQ h3 (Src.row (A := some ⟨Mh, 0, none⟩)) rfl (by simp) ?_
 clear h3; intro M h
 refine ⟨rfl, ?_⟩
 refine k b wb M ?_
 rw [e0]
 refine gK (a := ⟨A, ca, uz, B, cb⟩) (x := z) (by rw [← hz]; simp [hlb]) ?_
 rw [← hz] at h ⊢
 unfold iu
 dsimp only at h ⊢
 rw [e3]
 exact h.sub bM
end
section
variable {p : cj} {x y : Sc} {o : gC} {m : Int}
theorem Bl {i k g : Int} {t : Bool} : (x.aT m i k g t).1.d = x.d := by unfold Sc.aT; split <;> rfl
theorem H8 {g : Int} {d : iO} {w : Wd} {rest : Bool} (h : en x m g d w rest = some (y, o)) (i0 : 0 ≤ (av x m).p) (i1 : (av x m).p < x.ps.length) : y.d = d := by
 unfold en at h
 split at h
 ·simp only [Option.some.injEq, Prod.mk.injEq] at h
  rw [← h.1]
  have := eA (m := m) w.ready { x with w := w, d := d } i0 i1
  unfold Sc.fW
  split <;> exact this.2.2.2.1
 ·cases h
end
def p18 : cj := ⟨[[⟨20, 0, 0, 0⟩, ⟨10, 0, 0, 0⟩]], [], 0, []⟩
def x18 : Sc := Sc.new p18 ⟨1, 1, 2, 9⟩ ⟨.ir [0, 0, 0, 0] 0, []⟩
theorem fZ : x18.d.k.Ok := ⟨by decide, by decide, fun v hv => by simp at hv; subst hv; decide⟩
def cI (c : Kf) : Kf :=
 let q := fun (x m : Int) => Int.tmod (IntKind.wrap .i64 (((Nat.bitwise and (BitVec.ofInt IntKind.i64.bits x).toNat (BitVec.ofInt IntKind.i64.bits 255).toNat) : Nat) : Int)) m
 ⟨1 + q c.P 5, 1 + q c.M 5, 2 + q c.R 5, 1 + q c.S 12⟩
theorem ud (x : Int) {m : Int} {n : Nat} (e : m = (n : Int)) (hm : 0 < n) : 0 ≤ Int.tmod (IntKind.wrap .i64 (((Nat.bitwise and (BitVec.ofInt IntKind.i64.bits x).toNat (BitVec.ofInt IntKind.i64.bits 255).toNat) : Nat) : Int)) m ∧ Int.tmod (IntKind.wrap .i64 (((Nat.bitwise and (BitVec.ofInt IntKind.i64.bits x).toNat (BitVec.ofInt IntKind.i64.bits 255).toNat) : Nat) : Int)) m < m := by
 obtain ⟨q, hq, _⟩ := mask (x := x) (y := 255) (m := 255) rfl (by omega)
 rw [hq, e, Go.AF.sQ]
 have := Nat.mod_lt q hm
 omega
theorem yZ (c : Kf) : 1 ≤ (cI c).P ∧ (cI c).P ≤ 5 ∧ 1 ≤ (cI c).M ∧ (cI c).M ≤ 5 ∧ 2 ≤ (cI c).R ∧ (cI c).R ≤ 6 ∧ 1 ≤ (cI c).S ∧ (cI c).S ≤ 12 := by
 have a := ud c.P (m := 5) (n := 5) rfl (by omega)
 have b := ud c.M (m := 5) (n := 5) rfl (by omega)
 have d := ud c.R (m := 5) (n := 5) rfl (by omega)
 have e := ud c.S (m := 12) (n := 12) rfl (by omega)
 unfold cI
 dsimp only
 refine ⟨by omega, ?_, by omega, ?_, by omega, ?_, by omega, ?_⟩ <;> omega
section
variable {R : Mem} {L L' : List HP} {M : Mem} {K : Value → Mem → Prop} {Kp : List PanicEntry → Mem → Prop}
theorem kS {x m : Int} {n : Nat} (hm : m = (n : Int)) (hn : 0 < n) (k : K (.int .i64 (Int.tmod (IntKind.wrap .i64 (((Nat.bitwise and (BitVec.ofInt IntKind.i64.bits x).toNat (BitVec.ofInt IntKind.i64.bits 255).toNat) : Nat) : Int)) m)) M) : aa Tryz.prog 55 #[.int .i64 x, .int .i64 m] M K Kp := by
 refine mZ ⟨by omega, k⟩
theorem GL {c : Kf} (h : Hp R L M) (k : ∀ M', Hp R L M' → K (.agg #[.int .i64 (cI c).P, .int .i64 (cI c).M, .int .i64 (cI c).R, .int .i64 (cI c).S]) M') : aa Tryz.prog 14 #[.agg #[.int .i64 c.P, .int .i64 c.M, .int .i64 c.R, .int .i64 c.S]] M K Kp := by
 refine oS ?_
 refine aj h ?_
 clear h; intro k1 M h
 refine aj h ?_
 clear h; intro k3 M h
 refine aG h (aG h (aG h (aG h ?_)))
 refine kS (n := 5) rfl (by omega) (cy ⟨bH h, bH h, bH h, ?_⟩)
 refine kS (n := 5) rfl (by omega) (cy ⟨bH h, bH h, bH h, ?_⟩)
 refine kS (n := 5) rfl (by omega) (cy ⟨bH h, bH h, bH h, ?_⟩)
 refine kS (n := 12) rfl (by omega) (cy ⟨bH h, bH h, bH h, ?_⟩)
 have ok := yZ c
 have e1 : IntKind.wrap .i64 (1 + Int.tmod (IntKind.wrap .i64 (((Nat.bitwise and (BitVec.ofInt IntKind.i64.bits c.P).toNat (BitVec.ofInt IntKind.i64.bits 255).toNat) : Nat) : Int)) 5) = (cI c).P := cY (z := (cI c).P) (by omega) (by omega)
 have e2 : IntKind.wrap .i64 (1 + Int.tmod (IntKind.wrap .i64 (((Nat.bitwise and (BitVec.ofInt IntKind.i64.bits c.M).toNat (BitVec.ofInt IntKind.i64.bits 255).toNat) : Nat) : Int)) 5) = (cI c).M := cY (z := (cI c).M) (by omega) (by omega)
 have e3 : IntKind.wrap .i64 (2 + Int.tmod (IntKind.wrap .i64 (((Nat.bitwise and (BitVec.ofInt IntKind.i64.bits c.R).toNat (BitVec.ofInt IntKind.i64.bits 255).toNat) : Nat) : Int)) 5) = (cI c).R := cY (z := (cI c).R) (by omega) (by omega)
 have e4 : IntKind.wrap .i64 (1 + Int.tmod (IntKind.wrap .i64 (((Nat.bitwise and (BitVec.ofInt IntKind.i64.bits c.S).toNat (BitVec.ofInt IntKind.i64.bits 255).toNat) : Nat) : Int)) 12) = (cI c).S := cY (z := (cI c).S) (by omega) (by omega)
 rw [e1, e2, e3, e4]
 refine aq h ?_
 clear h; intro M h
 refine aq h ?_
 clear h; intro M h
 refine aq h ?_
 clear h; intro M h
 refine aq h ?_
 clear h; intro M h
 refine ⟨bH h, bH h, bH h, aG h (aG h (aG h (aG h ?_)))⟩
 exact k _ (h.sub bM)
end
def KH : List Value := [.int .i64 0, .int .i64 0, .int .i64 0, .int .i64 0, .int .u64 0]
inductive nU : List PanicEntry → Int → List Value → Prop
 | d1 : nU Kc 1 KH
 | d2 : nU (wP Kc) 1 KH
 | u1 (a q n k x : Int) : nU (VD a q n k x) 2 [.int .i64 a, .int .i64 q, .int .i64 n, .int .i64 k, .int .u64 x]
 | u2 (a q n k x : Int) : nU (wP (VD a q n k x)) 2 [.int .i64 a, .int .i64 q, .int .i64 n, .int .i64 k, .int .u64 x]
section
variable {R : Mem} {L L' L2 : List HP} {M : Mem} {K : Value → Mem → Prop} {Kp : List PanicEntry → Mem → Prop} {u0 : Value} {S : Mem → List HP → Prop} {D : Mem → List PanicEntry → List HP → Prop}
def CJ (R : Mem) (L : List HP) (u0 : Value) (S : Mem → List HP → Prop) (D : Mem → List PanicEntry → List HP → Prop) : Prop := ∀ (Q : HP) (M : Mem) (K : Value → Mem → Prop) (Kp : List PanicEntry → Mem → Prop), Hp R (Q :: L) M →
 (∀ R' L' M', S R' L' → Hp R' (Q :: L') M' → K (.tuple #[]) M') → (∀ R' l L' M', D R' l L' → Hp R' (Q :: L') M' → Kp l M') → g6 Cx u0 [] M K Kp
theorem zY {b1 b2 : Nat} (h : Hp R (pt b1 [.int .i64 0] 3 :: pt b2 KH 97 :: L) M) (hc : CJ R L u0 S D) (hd : ∀ R' l L', D R' l L' → ∃ e vs, nU l e vs)
  (k : ∀ R' L' M', S R' L' → Hp R' (pt b1 [.int .i64 0] 3 :: pt b2 KH 97 :: L') M' → K (.tuple #[]) M')
  (kd : ∀ R' l L' M' e vs, D R' l L' → nU l e vs → Hp R' (pt b1 [.int .i64 e] 3 :: pt b2 vs 97 :: L') M' → K (.tuple #[]) M') :
  aa Tryz.prog 116 #[u0, .pointer (some ⟨b1, 0, none⟩), .pointer (some ⟨b2, 0, none⟩)] M K Kp := by
 refine u6 ?_
 refine aj h ?_
 clear h
 intro k1 M h
 refine aj h ?_
 clear h
 intro k3 M h
 refine hc (sep [pt k3 [.pointer (some ⟨b2, 0, none⟩)] _, pt k1 [.pointer (some ⟨b1, 0, none⟩)] _, pt b1 [.int .i64 0] 3, pt b2 KH 97]) M _ _ (Hp.aR.2 h) ?_ ?_
 ·clear h
  intro R' L' M' hs h
  have h := Hp.aR.1 h
  exact ⟨rfl, JJ (k R' L' M' hs h.drop.drop)⟩
 ·clear h
  intro R' l L' M hs h
  replace h := Hp.aR.1 h
  obtain ⟨e, vs, hg⟩ := hd _ _ _ hs
  have XY := kd R' l L'
  simp only [List.cons_append, List.nil_append, KH] at h XY
  clear kd k hc hd
  cases hg with
  | d1 =>
   refine F5 ?_
   repeat (first|(refine aj h ?_;clear h;intro kb M h)|(refine aq h ?_;clear h;intro M h)|refine St.to h ?_|(apply Exists.intro;(repeat apply Exists.intro);refine And.intro rfl ?_)|refine au ?_|refine af ?_|refine ai ?_)
   exact XY _ _ _ hs .d1 (h.sub bM)
  | d2 =>
   refine DZ ?_
   repeat (first|(refine aj h ?_;clear h;intro kb M h)|(refine aq h ?_;clear h;intro M h)|refine St.to h ?_|(apply Exists.intro;(repeat apply Exists.intro);refine And.intro rfl ?_)|refine au ?_|refine af ?_|refine ai ?_)
   exact XY _ _ _ hs .d2 (h.sub bM)
  | u1 a q n k x =>
   refine zS ?_
   repeat (first|(refine aj h ?_;clear h;intro kb M h)|(refine aq h ?_;clear h;intro M h)|refine St.to h ?_|(apply Exists.intro;(repeat apply Exists.intro);refine And.intro rfl ?_)|refine au ?_|refine af ?_|refine ai ?_)
   exact XY _ _ _ hs (.u1 a q n k x) (h.sub bM)
  | u2 a q n k x =>
   refine yj ?_
   repeat (first|(refine aj h ?_;clear h;intro kb M h)|(refine aq h ?_;clear h;intro M h)|refine St.to h ?_|(apply Exists.intro;(repeat apply Exists.intro);refine And.intro rfl ?_)|refine au ?_|refine af ?_|refine ai ?_)
   exact XY _ _ _ hs (.u2 a q n k x) (h.sub bM)
theorem nU.shape {l : List PanicEntry} {e : Int} {vs : List Value} (h : nU l e vs) : (e = 1 ∨ e = 2) ∧ ∃ a q n k x : Int, vs = [.int .i64 a, .int .i64 q, .int .i64 n, .int .i64 k, .int .u64 x] := by
 cases h with
 | d1 => exact ⟨.inl rfl, 0, 0, 0, 0, 0, rfl⟩
 | d2 => exact ⟨.inl rfl, 0, 0, 0, 0, 0, rfl⟩
 | u1 a q n k x => exact ⟨.inr rfl, a, q, n, k, x, rfl⟩
 | u2 a q n k x => exact ⟨.inr rfl, a, q, n, k, x, rfl⟩
theorem CK (h : Hp R L M) (hc : CJ R L u0 S D) (hd : ∀ R' l L', D R' l L' → ∃ e vs, nU l e vs)
  (k : ∀ R' L' M', S R' L' → Hp R' L' M' → K (.tuple #[.int .i64 0, .agg #[.int .i64 0, .int .i64 0, .int .i64 0, .int .i64 0, .int .u64 0]]) M')
  (kd : ∀ R' l L' M' e a q n k x, D R' l L' → nU l e [.int .i64 a, .int .i64 q, .int .i64 n, .int .i64 k, .int .u64 x] → Hp R' L' M' → K (.tuple #[.int .i64 e, .agg #[.int .i64 a, .int .i64 q, .int .i64 n, .int .i64 k, .int .u64 x]]) M') :
  aa Tryz.prog 61 #[u0] M K Kp := by
 refine wI ?_
 refine aj h ?_
 clear h
 intro k1 M h
 refine aj h ?_
 clear h
 intro k3 M h
 refine aj h ?_
 clear h
 intro k5 M h
 repeat (refine aq h ?_; clear h; intro M h)
 refine zY (S := fun R' L2 => ∃ L', S R' L' ∧ L2 = pt k1 KH 97 :: L') (D := fun R' l L2 => ∃ L', D R' l L' ∧ L2 = pt k1 KH 97 :: L') (L := pt k1 KH 97 :: L) (h.sub bM) ?_ ?_ ?_ ?_
 ·intro Q M K Kp h YE k2
  refine hc (sep [Q, pt k1 KH 97]) M K Kp (Hp.aR.2 h) ?_ ?_
  ·intro R' L' M' hs h
   exact YE R' _ M' ⟨L', hs, rfl⟩ (Hp.aR.1 h)
  ·intro R' l L' M' hs h
   exact k2 R' l _ M' ⟨L', hs, rfl⟩ (Hp.aR.1 h)
 ·rintro R' l _ ⟨L', hs, _⟩
  exact hd _ _ _ hs
 ·rintro R' _ M ⟨L', hs, rfl⟩ h
  clear hc hd kd
  simp only [KH] at h
  refine ⟨rfl, ?_⟩
  repeat (first|(refine aj h ?_;clear h;intro kb M h)|(refine aq h ?_;clear h;intro M h)|refine St.to h ?_|(apply Exists.intro;(repeat apply Exists.intro);refine And.intro rfl ?_)|refine au ?_|refine af ?_|refine ai ?_)
  exact k _ _ _ hs (h.sub bM)
 ·rintro R' l _ M e vs ⟨L', hs, rfl⟩ hg h
  obtain ⟨_, a, q, n, kk, x, rfl⟩ := hg.shape
  clear hc hd k
  simp only [KH] at h
  refine ⟨rfl, ?_⟩
  repeat (first|(refine aj h ?_;clear h;intro kb M h)|(refine aq h ?_;clear h;intro M h)|refine St.to h ?_|(apply Exists.intro;(repeat apply Exists.intro);refine And.intro rfl ?_)|refine au ?_|refine af ?_|refine ai ?_)
  exact kd _ _ _ _ _ _ _ _ _ _ hs hg (h.sub bM)
theorem Kn {k k' : gm} {kind m : Int} {l : List PanicEntry} (h : k.next kind m = (k', .cz l)) : ∃ e vs, nU l e vs ∧ nU (wP l) e vs := by
 cases k with
 | ir t i =>
  unfold gm.next at h
  dsimp only at h
  split at h
  ·cases h; exact ⟨_, _, .d1, .d2⟩
  ·cases h
 | tape t i =>
  unfold gm.next at h
  dsimp only at h
  split at h
  ·cases h; exact ⟨_, _, .d1, .d2⟩
  ·split at h
   ·cases h; exact ⟨_, _, .u1 _ _ _ _ _, .u2 _ _ _ _ _⟩
   ·split at h
    ·cases h; exact ⟨_, _, .u1 _ _ _ _ _, .u2 _ _ _ _ _⟩
    ·cases h
theorem vu {x x' : iO} {kind n : Int} {l : List PanicEntry} (h : x.draw kind n = (x', .cz l)) : ∃ e vs, nU l e vs ∧ nU (wP l) e vs := by
 unfold iO.draw at h
 split at h
 ·cases h
 ·rename_i k' l' hn
  cases h
  exact Kn hn
theorem Nu {d d' : iO} {a : Option (Int × Int)} {l : List PanicEntry} (h : cZ d a = (d', .cz l)) : ∃ e vs, nU l e vs ∧ nU (wP l) e vs := by
 cases a with
 | none => cases h
 | some q => exact vu h
theorem Qp {z y : Sc} {o : gC} {l : List PanicEntry} (h : gL (z, o) = (y, .cz l)) : o = .cz l := by
 cases o with
 | ev e => cases h
 | cz l' => cases h; rfl
theorem Nv {p : cj} {x y : Sc} {l : List PanicEntry} (he : x.step p = some (y, .cz l)) : ∃ e vs, nU l e vs := by
 unfold Sc.step at he
 split at he
 ·split at he
  ·cases he
  ·split at he
   ·rename_i hd
    cases he
    obtain ⟨e, vs, h, _⟩ := vu hd
    exact ⟨e, vs, h⟩
   ·rename_i d' m hd
    simp only [Option.map_eq_some_iff] at he
    obtain ⟨⟨z, o⟩, ha, hi⟩ := he
    have ho := Qp hi
    subst ho
    clear hi hd
    unfold Sc.act at ha
    split at ha
    ·split at ha
     ·cases ha
     ·cases ha
    ·split at ha
     ·cases ha
     ·split at ha
      ·split at ha
       ·simp only [Option.some.injEq] at ha
        unfold Sc.find at ha
        dsimp only at ha
        split at ha
        ·cases ha
        ·split at ha
         ·split at ha
          ·rename_i hd
           cases ha
           obtain ⟨e, vs, h, _⟩ := vu hd
           exact ⟨e, vs, h⟩
          ·split at ha <;> cases ha
         ·cases ha
       ·cases ha
      ·unfold Sc.run at ha
       split at ha
       ·split at ha
        ·split at ha
         ·cases ha
         ·rename_i l' w rest hex
          cases ha
          obtain ⟨yH, _⟩ := Bj hex
          obtain ⟨e, vs, _, h⟩ := Nu (d' := _) (by rw [← yH])
          exact ⟨e, vs, h⟩
         ·unfold en at ha
          split at ha <;> cases ha
         ·unfold en at ha
          split at ha <;> cases ha
        ·cases ha
       ·cases ha
 ·cases he
end
theorem H9 : bu Tryz.prog 28 27 4 32 [.int .i64 0, .int .i64 0, .int .i64 0, .int .i64 0] := bu.mk' (zv := .agg #[.int .i64 0, .int .i64 0, .int .i64 0, .int .i64 0]) (by kernel_rfl) (by kernel_rfl) rfl (by omega)
section
variable {R : Mem} {L L' : List HP} {M : Mem} {K : Value → Mem → Prop} {Kp : List PanicEntry → Mem → Prop} {pa : PA} {p : cj}
theorem qmod (x : Int) {b m : Int} {q : Nat} (e : m = (q : Int)) (hm : 0 < q) (hb : 0 ≤ b) (XZ : b + m < 1000000) : ∃ n : Nat, b + Int.tmod (IntKind.wrap .i64 (((Nat.bitwise and (BitVec.ofInt IntKind.i64.bits x).toNat (BitVec.ofInt IntKind.i64.bits 255).toNat) : Nat) : Int)) m = (n : Int) ∧ b ≤ n ∧ (n : Int) < b + m := by
 obtain ⟨h0, h1⟩ := ud x e hm
 obtain ⟨n, hn⟩ := Int.eq_ofNat_of_zero_le (show 0 ≤ b + Int.tmod (IntKind.wrap .i64 (((Nat.bitwise and (BitVec.ofInt IntKind.i64.bits x).toNat (BitVec.ofInt IntKind.i64.bits 255).toNat) : Nat) : Int)) m by omega)
 exact ⟨n, hn, by omega, by omega⟩
theorem CL (x : Int) {b m : Int} {q : Nat} (e : m = (q : Int)) (hm : 0 < q) (hb : 0 ≤ b) (XZ : b + m < 1000000) : ∃ n : Nat, IntKind.wrap .i64 (b + Int.tmod (IntKind.wrap .i64 (((Nat.bitwise and (BitVec.ofInt IntKind.i64.bits x).toNat (BitVec.ofInt IntKind.i64.bits 255).toNat) : Nat) : Int)) m) = (n : Int) ∧ b ≤ n ∧ (n : Int) < b + m := by
 obtain ⟨n, hn, h1, h2⟩ := qmod x e hm hb XZ
 refine ⟨n, ?_, h1, h2⟩
 rw [cY (by omega) (by omega)]
 exact hn
end
theorem nh {b : Nat} : ∀ (n : Nat) (l : List Int), (∀ g ∈ l, 0 ≤ g ∧ g < (n : Int)) → (∀ g, l.count g ≤ b) → l.length ≤ b * n
 | 0, l, h, _ => by
  cases l with
  | nil => simp
  | cons a l => have := h a (by simp); omega
 | n + 1, l, h, hc => by
  have h1 : (l.filter (fun g => g != (n : Int))).length ≤ b * n := by
   refine nh n _ (fun g hg => ?_) (fun g => ?_)
   ·obtain ⟨hm, hne⟩ := List.mem_filter.1 hg
    have := h g hm
    simp at hne
    omega
   ·exact Nat.le_trans (List.Sublist.count_le _ List.filter_sublist) (hc g)
  have h2 : l.length = l.count (n : Int) + (l.filter (fun g => g != (n : Int))).length := by
   have := List.length_eq_countP_add_countP (l := l) (fun g => g == (n : Int))
   rw [this, List.count, List.countP_eq_length_filter (p := fun a => decide ¬(a == (n : Int)) = true)]
   congr 2
   apply List.filter_congr
   intro a _
   cases h : (a == (n : Int)) <;> simp_all
  have := hc (n : Int)
  rw [h2, Nat.mul_succ]; omega
theorem kT {α : Type} (f : α → Nat) : ∀ (l : List α) (k : Nat) (c d : α), l[k]? = some d → ((l.set k c).map f).sum + f d = (l.map f).sum + f c
 | [], k, c, d, h => by simp at h
 | a :: l, 0, c, d, h => by simp at h; subst h; simp; omega
 | a :: l, k + 1, c, d, h => by
  have := kT f l k c d (by simpa using h)
  simp only [List.set_cons_succ, List.map_cons, List.sum_cons]; omega
theorem y3 {α : Type} (f : α → Nat) : ∀ (l : List α), (l.map f).sum = 0 → ∀ a ∈ l, f a = 0
 | [], _, a, h => by cases h
 | b :: l, hs, a, h => by
  simp only [List.map_cons, List.sum_cons] at hs
  rcases List.mem_cons.1 h with rfl | h
  ·omega
  ·exact y3 f l (by omega) a h
theorem y4 {α : Type} (f : α → Nat) : ∀ (l : List α) (a : α), a ∈ l → f a ≤ (l.map f).sum
 | b :: l, a, h => by
  simp only [List.map_cons, List.sum_cons]
  rcases List.mem_cons.1 h with rfl | h
  ·omega
  ·have := y4 f l a h; omega
theorem pF {α : Type} (f : α → Nat) : ∀ (l : List α), (∀ a ∈ l, f a = 0) → (l.map f).sum = 0
 | [], _ => rfl
 | b :: l, h => by
  simp only [List.map_cons, List.sum_cons]
  rw [h b (by simp), pF f l fun a ha => h a (by simp [ha])]
def cD (c : aP) : List Int := c.snd.map Wt.g ++ c.dU.map Wt.g
def bU (cs : List aP) (g : Int) : Nat := (cs.map fun c => (cD c).count g).sum
def gr (ls : List Lk) (g : Int) : Nat := (ls.map fun l => l.waits.count g).sum
def CM (hl : List bq) (g : Int) : Nat := (hl.map bq.id).count g
def lZ (x : Wd) (g : Int) : Prop := (∀ c ∈ x.aC, g ∉ cD c) ∧ (∀ l ∈ x.aU, g ∉ l.waits) ∧ ∀ y ∈ x.hl, y.id ≠ g
theorem ue {cs : List aP} {g : Int} : bU cs g = 0 ↔ ∀ c ∈ cs, g ∉ cD c := by
 constructor
 ·intro h c hc
  exact List.count_eq_zero.1 (y3 _ cs h c hc)
 ·intro h
  exact pF _ cs fun c hc => List.count_eq_zero.2 (h c hc)
theorem xe {ls : List Lk} {g : Int} : gr ls g = 0 ↔ ∀ l ∈ ls, g ∉ l.waits := by
 constructor
 ·intro h c hc
  exact List.count_eq_zero.1 (y3 _ ls h c hc)
 ·intro h
  exact pF _ ls fun c hc => List.count_eq_zero.2 (h c hc)
def At (x : Wd) (g s : Int) : Prop := 0 ≤ g ∧ g < x.gs.length ∧ (ae x g).st = s
def jz (p : cj) (f : List dB) (i : dB) : Prop := 0 ≤ i.op ∧ i.op < 23 ∧ i.kZ ∧ (i.op = 7 → 0 ≤ i.a ∧ i.a < f.length) ∧ (i.op = 8 → 0 ≤ i.b ∧ i.b < f.length) ∧
 (i.op = 9 ∨ i.op = 11 → 0 ≤ i.a ∧ i.a < p.funcs.length ∧ bx i.b ∧ bx i.c) ∧ (i.op = 10 ∨ i.op = 17 ∨ i.op = 20 ∨ i.op = 21 → bx i.a) ∧
 (i.op = 13 ∨ i.op = 14 ∨ i.op = 15 → 0 ≤ i.a ∧ i.a < p.nY.length) ∧ (i.op = 13 ∨ i.op = 14 → bx i.b) ∧ (i.op = 14 ∨ i.op = 16 → bx i.c) ∧
 (i.op = 16 → 0 ≤ i.a ∧ 1 ≤ i.b ∧ i.a + i.b ≤ p.cases.length) ∧ (i.op = 18 ∨ i.op = 19 → 0 ≤ i.a ∧ i.a < p.aU) ∧ (i.op = 21 → 1 ≤ i.b ∧ i.b < 1099511627776)
structure cU (p : cj) : Prop where
 f1 : 0 < p.funcs.length
 ch : p.nY.length ≤ 8
 lk : 0 ≤ p.aU ∧ p.aU ≤ 8
 cs : p.cases.length ≤ 32
 cas : ∀ c ∈ p.cases, c.Ok p.nY.length ∧ bx c.bQ
 code : ∀ f ∈ p.funcs, 0 < f.length ∧ f.length ≤ 64 ∧ ∀ i ∈ f, jz p f i
def EF (p : cj) (f : fM) : Prop := 0 ≤ f.fn ∧ f.fn < p.funcs.length ∧ 0 ≤ f.pc ∧ f.pc ≤ 64 ∧ bx f.qh
structure nV (p : cj) (y : gT) : Prop where
 l1 : 0 < y.fs.length
 l2 : y.fs.length ≤ 16
 fr : ∀ f ∈ y.fs, EF p f
 wt : y.st = 2 → ∃ f ∈ p.funcs, jz p f y.wt
 st : 1 ≤ y.st ∧ y.st ≤ 4
structure WV (p : cj) (x : Wd) : Prop where
 n1 : 0 < x.gs.length
 n2 : x.gs.length ≤ 100
 EG : ∀ y ∈ x.gs, nV p y
 ch : x.aC.length = p.nY.length
 lk : (x.aU.length : Int) = p.aU
 buf : ∀ c ∈ x.aC, c.buf.length ≤ c.room ∧ c.room ≤ 16
 dU : ∀ c ∈ x.aC, ∀ v ∈ c.dU, At x v.g 2 ∧ ((ae x v.g).wt.op = 14 ∨ (ae x v.g).wt.op = 16 ∧ 0 ≤ v.cs ∧ v.cs < (ae x v.g).wt.b)
 snd : ∀ c ∈ x.aC, ∀ v ∈ c.snd, At x v.g 2 ∧ ((ae x v.g).wt.op = 13 ∨ (ae x v.g).wt.op = 16 ∧ 0 ≤ v.cs ∧ v.cs < (ae x v.g).wt.b)
 lw : ∀ l ∈ x.aU, ∀ g ∈ l.waits, At x g 2 ∧ (ae x g).wt.op = 18
 hl : ∀ y ∈ x.hl, At x y.id 3
 one : ∀ g, 0 ≤ g → (ae x g).wt.op ≠ 16 → bU x.aC g + gr x.aU g ≤ 1
 Cw : ∀ g, bU x.aC g ≤ 32
 h1 : ∀ g, CM x.hl g ≤ 1
 out : x.out.length ≤ 1000
section
variable {p : cj} {x : Wd} {g : Int}
theorem WV.Qq (h : WV p x) {c : aP} (hc : c ∈ x.aC) {q : Int} (hq : q ∈ cD c) : At x q 2 ∧ ((ae x q).wt.op = 13 ∨ (ae x q).wt.op = 14 ∨ (ae x q).wt.op = 16) := by
 unfold cD at hq
 rcases List.mem_append.1 hq with hq | hq
 ·obtain ⟨v, hv, rfl⟩ := List.mem_map.1 hq
  obtain ⟨a, b⟩ := h.snd c hc v hv
  exact ⟨a, by rcases b with b | b; exact .inl b; exact .inr (.inr b.1)⟩
 ·obtain ⟨v, hv, rfl⟩ := List.mem_map.1 hq
  obtain ⟨a, b⟩ := h.dU c hc v hv
  exact ⟨a, by rcases b with b | b; exact .inr (.inl b); exact .inr (.inr b.1)⟩
theorem WV.free (h : WV p x) (h2 : (ae x g).st ≠ 2) (h3 : (ae x g).st ≠ 3) : lZ x g :=
 ⟨fun c hc hg => h2 (h.Qq hc hg).1.2.2, fun l hl hg => h2 (h.lw l hl g hg).1.2.2, fun y hy e => h3 (by have := (h.hl y hy).2.2; rwa [e] at this)⟩
theorem WV.Ia (h : WV p x) {c : aP} (hc : c ∈ x.aC) : (cD c).length ≤ 3200 := by
 have h1 := nh (b := 32) x.gs.length (cD c) (fun q hq => ⟨(h.Qq hc hq).1.1, (h.Qq hc hq).1.2.1⟩) (fun q => Nat.le_trans (y4 (fun c => (cD c).count q) x.aC c hc) (h.Cw q))
 have := h.n2
 omega
theorem WV.US (h : WV p x) {l : Lk} (hl : l ∈ x.aU) : l.waits.length ≤ 100 := by
 have h1 := nh (b := 1) x.gs.length l.waits (fun q hq => ⟨(h.lw l hl q hq).1.1, (h.lw l hl q hq).1.2.1⟩) (fun q => by
  by_cases hq : q ∈ l.waits
  ·have := h.one q (h.lw l hl q hq).1.1 (by rw [(h.lw l hl q hq).2]; decide)
   have := y4 (fun l : Lk => l.waits.count q) x.aU l hl
   unfold gr at *
   omega
  ·rw [List.count_eq_zero.2 hq]; omega)
 have := h.n2
 omega
theorem WV.Ib (h : WV p x) : x.hl.length ≤ 100 := by
 have h1 := nh (b := 1) x.gs.length (x.hl.map bq.id) (fun q hq => by
  obtain ⟨y, hy, rfl⟩ := List.mem_map.1 hq
  exact ⟨(h.hl y hy).1, (h.hl y hy).2.1⟩) h.h1
 rw [List.length_map] at h1
 have := h.n2
 omega
theorem WV.sm (h : WV p x) (hp : cU p) (hr : x.ready.length ≤ 1000000) : x.Sm := by
 refine ⟨fun c hc => ?_, by have := h.ch; have := hp.ch; omega, by have := h.n2; omega, hr, by have := h.out; omega, fun l hl => by have := h.US hl; omega, by have := h.lk; have := hp.lk; omega, by have := h.Ib; omega⟩
 have h1 := h.Ia hc
 unfold cD at h1
 rw [List.length_append, List.length_map, List.length_map] at h1
 have := h.buf c hc
 exact ⟨by omega, by omega, by omega⟩
end
section
variable {p : cj} {x y : Wd} {g q k v : Int} {f : List dB} {i : dB}
theorem gM {z : gT} (hg : g < x.gs.length) (h0 : 0 ≤ g) : ae (x.bh g z) q = if q.toNat = g.toNat then z else ae x q := by
 unfold ae Wd.bh
 dsimp only
 by_cases e : q.toNat = g.toNat
 ·rw [if_pos e, e]
  simp [List.getD_eq_getElem?_getD, List.getElem?_set_self (show g.toNat < x.gs.length by omega)]
 ·rw [if_neg e, List.getD_eq_getElem?_getD, List.getD_eq_getElem?_getD, List.getElem?_set_ne (Ne.symm e)]
theorem vv (h0 : 0 ≤ g) (hg : g < x.gs.length) : ae x g ∈ x.gs := by
 unfold ae
 rw [List.getD_eq_getElem?_getD, List.getElem?_eq_getElem (by omega), Option.getD_some]
 exact List.getElem_mem _
theorem WV.congr (h : WV p x) (hl : y.gs.length = x.gs.length) (hst : ∀ q, (ae y q).st = (ae x q).st ∧ (ae y q).wt = (ae x q).wt) (hg : ∀ z ∈ y.gs, nV p z) (e1 : y.aC = x.aC) (e2 : y.aU = x.aU) (e3 : y.hl = x.hl) (e4 : y.out.length ≤ 1000) : WV p y := by
 have at_ : ∀ q s, At x q s → At y q s := fun q s ha => ⟨ha.1, by rw [hl]; exact ha.2.1, by rw [(hst q).1]; exact ha.2.2⟩
 refine ⟨by rw [hl]; exact h.n1, by rw [hl]; exact h.n2, hg, by rw [e1]; exact h.ch, by rw [e2]; exact h.lk, by rw [e1]; exact h.buf, ?_, ?_, ?_, ?_, ?_, by rw [e1]; exact h.Cw, by rw [e3]; exact h.h1, e4⟩
 ·intro c hc v hv
  rw [e1] at hc
  rw [(hst v.g).2]
  exact ⟨at_ _ _ (h.dU c hc v hv).1, (h.dU c hc v hv).2⟩
 ·intro c hc v hv
  rw [e1] at hc
  rw [(hst v.g).2]
  exact ⟨at_ _ _ (h.snd c hc v hv).1, (h.snd c hc v hv).2⟩
 ·intro l hl q hq
  rw [e2] at hl
  rw [(hst q).2]
  exact ⟨at_ _ _ (h.lw l hl q hq).1, (h.lw l hl q hq).2⟩
 ·intro z hz
  rw [e3] at hz
  exact at_ _ _ (h.hl z hz)
 ·intro q h0 hq
  rw [(hst q).2] at hq
  rw [e1, e2]
  exact h.one q h0 hq
theorem y5 {l : List gT} {n : Nat} {z w : gT} (h : w ∈ l.set n z) : w ∈ l ∨ w = z := List.mem_or_eq_of_mem_set h
theorem WV.bh (h : WV p x) (h0 : 0 ≤ g) (hg : g < x.gs.length) {z : gT} (hz : nV p z) (e1 : z.st = (ae x g).st) (e2 : z.wt = (ae x g).wt) : WV p (x.bh g z) := by
 refine h.congr (by simp [Wd.bh]) (fun q => ?_) (fun w hw => ?_) rfl rfl rfl h.out
 ·rw [gM hg h0]
  split
  ·rename_i e
   have : ae x q = ae x g := by unfold ae; rw [e]
   rw [this]; exact ⟨e1, e2⟩
  ·exact ⟨rfl, rfl⟩
 ·rcases y5 hw with hw | rfl
  ·exact h.EG w hw
  ·exact hz
theorem WV.ready (h : WV p x) {r : List Int} : WV p { x with ready := r } := h.congr rfl (fun _ => ⟨rfl, rfl⟩) h.EG rfl rfl rfl h.out
theorem WV.fin (h : WV p x) {e c : Int} : WV p { x with end_ := e, code := c } := h.congr rfl (fun _ => ⟨rfl, rfl⟩) h.EG rfl rfl rfl h.out
theorem WV.Ic (h : WV p x) (h0 : 0 ≤ g) (hg : g < x.gs.length) (hf : lZ x g) {z : gT} (hz : nV p z) : WV p (x.bh g z) := by
 have ne : ∀ q, 0 ≤ q → q ≠ g → ae (x.bh g z) q = ae x q := fun q q0 hq => by rw [gM hg h0, if_neg (by omega)]
 have at_ : ∀ q s, q ≠ g → At x q s → At (x.bh g z) q s := fun q s hq ha => ⟨ha.1, by simpa [Wd.bh] using ha.2.1, by rw [ne q ha.1 hq]; exact ha.2.2⟩
 refine ⟨by simpa [Wd.bh] using h.n1, by simpa [Wd.bh] using h.n2, fun w hw => ?_, h.ch, h.lk, h.buf, ?_, ?_, ?_, ?_, ?_, h.Cw, h.h1, h.out⟩
 ·rcases y5 hw with hw | rfl
  ·exact h.EG w hw
  ·exact hz
 ·intro c hc v hv
  have hne : v.g ≠ g := fun e => hf.1 c hc (by rw [← e]; exact List.mem_append_right _ (List.mem_map.2 ⟨v, hv, rfl⟩))
  obtain ⟨a, b⟩ := h.dU c hc v hv
  rw [ne _ a.1 hne]
  exact ⟨at_ _ _ hne a, b⟩
 ·intro c hc v hv
  have hne : v.g ≠ g := fun e => hf.1 c hc (by rw [← e]; exact List.mem_append_left _ (List.mem_map.2 ⟨v, hv, rfl⟩))
  obtain ⟨a, b⟩ := h.snd c hc v hv
  rw [ne _ a.1 hne]
  exact ⟨at_ _ _ hne a, b⟩
 ·intro l hl q hq
  have hne : q ≠ g := fun e => hf.2.1 l hl (by rw [← e]; exact hq)
  obtain ⟨a, b⟩ := h.lw l hl q hq
  rw [ne _ a.1 hne]
  exact ⟨at_ _ _ hne a, b⟩
 ·intro w hw
  have hne : w.id ≠ g := hf.2.2 w hw
  exact at_ _ _ hne (h.hl w hw)
 ·intro q q0 hq
  by_cases e : q = g
  ·subst e
   have a := ue.2 hf.1
   have b := xe.2 hf.2.1
   show bU x.aC q + gr x.aU q ≤ 1
   omega
  ·rw [ne q q0 e] at hq
   exact h.one q q0 hq
theorem nV.Nw {z : gT} (h : nV p z) {s : Int} (h1 : s ≠ 2) (h2 : 1 ≤ s ∧ s ≤ 4) : nV p { z with st := s } := ⟨h.l1, h.l2, h.fr, fun e => absurd e h1, h2⟩
theorem WV.dV (h : WV p x) (h0 : 0 ≤ g) (hg : g < x.gs.length) (hf : lZ x g) : WV p (x.dV g) :=
 WV.ready (h.Ic h0 hg hf ((h.EG _ (vv h0 hg)).Nw (by decide) (by decide)))
theorem WV.block (h : WV p x) (ha : At x g 1) (hf : f ∈ p.funcs) (hi : jz p f i) : WV p (x.block g i) := by
 have hz := h.EG _ (vv ha.1 ha.2.1)
 exact h.Ic ha.1 ha.2.1 (h.free (by rw [ha.2.2]; decide) (by rw [ha.2.2]; decide)) ⟨hz.l1, hz.l2, hz.fr, fun _ => ⟨f, hf, hi⟩, by show (1 : Int) ≤ 2 ∧ (2 : Int) ≤ 4; decide⟩
theorem iW {α : Type} {l : List α} {n : Nat} {a b : α} (h : b ∈ l.set n a) : b ∈ l ∨ b = a := List.mem_or_eq_of_mem_set h
theorem WV.less (h : WV p x) {c c' : aP} (hc : x.aC[k.toNat]? = some c) (hb : c'.buf.length ≤ c'.room ∧ c'.room ≤ 16) (hr : ∀ v ∈ c'.dU, v ∈ c.dU) (hs : ∀ v ∈ c'.snd, v ∈ c.snd) (hn : ∀ q, (cD c').count q ≤ (cD c).count q) : WV p (x.bX k c') := by
 have hm : c ∈ x.aC := List.mem_of_getElem? hc
 have Nx : ∀ q, bU (x.aC.set k.toNat c') q ≤ bU x.aC q := by
  intro q
  have := kT (fun c : aP => (cD c).count q) x.aC k.toNat c' c hc
  have := hn q
  unfold bU
  omega
 refine ⟨h.n1, h.n2, h.EG, by simpa [Wd.bX] using h.ch, h.lk, ?_, ?_, ?_, h.lw, h.hl, ?_, ?_, h.h1, h.out⟩
 ·intro d hd
  rcases iW hd with hd | rfl
  ·exact h.buf d hd
  ·exact hb
 ·intro d hd v hv
  rcases iW hd with hd | rfl
  ·exact h.dU d hd v hv
  ·exact h.dU c hm v (hr v hv)
 ·intro d hd v hv
  rcases iW hd with hd | rfl
  ·exact h.snd d hd v hv
  ·exact h.snd c hm v (hs v hv)
 ·intro q q0 hq
  have := h.one q q0 hq
  have := Nx q
  show bU (x.aC.set k.toNat c') q + gr x.aU q ≤ 1
  omega
 ·intro q
  exact Nat.le_trans (Nx q) (h.Cw q)
theorem WV.more (h : WV p x) {c c' : aP} {w : Wt} (hc : x.aC[k.toNat]? = some c) (hb : c'.buf.length ≤ c'.room ∧ c'.room ≤ 16)
  (hr : ∀ v ∈ c'.dU, v ∈ c.dU ∨ v = w ∧ At x w.g 2 ∧ ((ae x w.g).wt.op = 14 ∨ (ae x w.g).wt.op = 16 ∧ 0 ≤ w.cs ∧ w.cs < (ae x w.g).wt.b))
  (hs : ∀ v ∈ c'.snd, v ∈ c.snd ∨ v = w ∧ At x w.g 2 ∧ ((ae x w.g).wt.op = 13 ∨ (ae x w.g).wt.op = 16 ∧ 0 ≤ w.cs ∧ w.cs < (ae x w.g).wt.b))
  (hn : ∀ q, (cD c').count q ≤ (cD c).count q + (if q = w.g then 1 else 0)) (hz : (ae x w.g).wt.op ≠ 16 → bU x.aC w.g + gr x.aU w.g = 0) (h32 : bU x.aC w.g < 32) : WV p (x.bX k c') := by
 have hm : c ∈ x.aC := List.mem_of_getElem? hc
 have Nx : ∀ q, bU (x.aC.set k.toNat c') q ≤ bU x.aC q + (if q = w.g then 1 else 0) := by
  intro q
  have := kT (fun c : aP => (cD c).count q) x.aC k.toNat c' c hc
  have := hn q
  unfold bU
  omega
 refine ⟨h.n1, h.n2, h.EG, by simpa [Wd.bX] using h.ch, h.lk, ?_, ?_, ?_, h.lw, h.hl, ?_, ?_, h.h1, h.out⟩
 ·intro d hd
  rcases iW hd with hd | rfl
  ·exact h.buf d hd
  ·exact hb
 ·intro d hd v hv
  rcases iW hd with hd | rfl
  ·exact h.dU d hd v hv
  ·rcases hr v hv with hv | ⟨rfl, hv⟩
   ·exact h.dU c hm v hv
   ·exact hv
 ·intro d hd v hv
  rcases iW hd with hd | rfl
  ·exact h.snd d hd v hv
  ·rcases hs v hv with hv | ⟨rfl, hv⟩
   ·exact h.snd c hm v hv
   ·exact hv
 ·intro q q0 hq
  have a := Nx q
  show bU (x.aC.set k.toNat c') q + gr x.aU q ≤ 1
  by_cases e : q = w.g
  ·subst e
   have := hz hq
   rw [if_pos rfl] at a
   omega
  ·have := h.one q q0 hq
   rw [if_neg e] at a
   omega
 ·intro q
  have a := Nx q
  show bU (x.aC.set k.toNat c') q ≤ 32
  by_cases e : q = w.g
  ·subst e
   rw [if_pos rfl] at a
   omega
  ·have := h.Cw q
   rw [if_neg e] at a
   omega
end
section
variable {p : cj} {x y : Wd} {g q k n : Int} {f : List dB} {i : dB} {v : Wt}
theorem Ny {α : Type} (f g : α → Nat) : ∀ (l : List α), (∀ a ∈ l, f a ≤ g a) → (l.map f).sum ≤ (l.map g).sum
 | [], _ => Nat.le_refl _
 | b :: l, h => by
  simp only [List.map_cons, List.sum_cons]
  have := h b (by simp)
  have := Ny f g l fun a ha => h a (by simp [ha])
  omega
theorem y6 (c : aP) : cD (c.drop g) = (cD c).filter (fun q => q != g) := by
 unfold cD aP.drop wo
 simp only [List.filter_append, List.filter_map]
 rfl
theorem EH (cs : List aP) (q : Int) : bU (cs.map fun c => c.drop g) q ≤ bU cs q := by
 unfold bU
 rw [List.map_map]
 refine Ny _ _ cs fun c _ => ?_
 show (cD (c.drop g)).count q ≤ _
 rw [y6]
 exact List.Sublist.count_le _ List.filter_sublist
theorem WV.leave (h : WV p x) : WV p (x.leave g) := by
 refine ⟨h.n1, h.n2, h.EG, by simpa [Wd.leave] using h.ch, h.lk, ?_, ?_, ?_, h.lw, h.hl, ?_, ?_, h.h1, h.out⟩
 ·intro d hd
  obtain ⟨c, hc, rfl⟩ := List.mem_map.1 hd
  exact h.buf c hc
 ·intro d hd v hv
  obtain ⟨c, hc, rfl⟩ := List.mem_map.1 hd
  exact h.dU c hc v (List.mem_filter.1 hv).1
 ·intro d hd v hv
  obtain ⟨c, hc, rfl⟩ := List.mem_map.1 hd
  exact h.snd c hc v (List.mem_filter.1 hv).1
 ·intro q q0 hq
  have := EH (g := g) x.aC q
  have := h.one q q0 hq
  show bU (x.aC.map fun c => c.drop g) q + gr x.aU q ≤ 1
  omega
 ·intro q
  exact Nat.le_trans (EH x.aC q) (h.Cw q)
theorem GM (h : WV p x) (h3 : (ae x g).wt.op ≠ 18) (h2 : (ae x g).st = 2) : lZ (x.leave g) g := by
 refine ⟨fun d hd hg => ?_, fun l hl hg => h3 (h.lw l hl g hg).2, fun w hw e => ?_⟩
 ·obtain ⟨c, hc, rfl⟩ := List.mem_map.1 hd
  rw [y6] at hg
  have := (List.mem_filter.1 hg).2
  simp at this
 ·have := (h.hl w hw).2.2
  rw [e, h2] at this
  cases this
theorem EF.set {r : fM} (h : EF p r) (q v : Int) : EF p (r.set q v) := h
theorem nV.bP {z : gT} (h : nV p z) {r : fM} (hr : EF p r) : nV p (z.bP r) :=
 ⟨by simpa [gT.bP] using h.l1, by simpa [gT.bP] using h.l2, fun f hf => by
  rcases List.mem_or_eq_of_mem_set hf with hf | rfl
  ·exact h.fr f hf
  ·exact hr, h.wt, h.st⟩
theorem nV.top {z : gT} (h : nV p z) : EF p z.top := by
 unfold gT.top
 have := h.l1
 rw [List.getD_eq_getElem?_getD, List.getElem?_eq_getElem (by omega), Option.getD_some]
 exact h.fr _ (List.getElem_mem _)
theorem WV.jr (h : WV p x) (h0 : 0 ≤ g) (hg : g < x.gs.length) : nV p (ae x g) := h.EG _ (vv h0 hg)
theorem WV.bg (h : WV p x) (h0 : 0 ≤ g) (hg : g < x.gs.length) : WV p (x.bg g q n) :=
 h.bh h0 hg ((h.jr h0 hg).bP ((h.jr h0 hg).top.set q n)) rfl rfl
theorem Bm (h0 : 0 ≤ g) (hg : g < x.gs.length) {m : Int} : (ae (x.bg g q n) m).st = (ae x m).st ∧ (ae (x.bg g q n) m).wt = (ae x m).wt ∧ (ae (x.bg g q n) m).fs.length = (ae x m).fs.length := by
 unfold Wd.bg
 rw [gM hg h0]
 split
 ·rename_i e
  have : ae x m = ae x g := by unfold ae; rw [e]
  rw [this]
  exact ⟨rfl, rfl, by simp [gT.bP]⟩
 ·exact ⟨rfl, rfl, rfl⟩
theorem mb (h0 : 0 ≤ g) (hg : g < x.gs.length) {m : Int} (h1 : 0 ≤ m) (hne : m ≠ g) : ae (x.bg g q n) m = ae x m := by
 unfold Wd.bg
 rw [gM hg h0, if_neg (by omega)]
theorem WV.aW (h : WV p x) (h0 : 0 ≤ g) (hg : g < x.gs.length) : aW x g := ⟨h0, hg, (h.jr h0 hg).l1, by have := (h.jr h0 hg).l2; omega⟩
theorem Ko (hp : cU p) {a : Int} (h0 : 0 ≤ a) (h1 : a < p.cases.length) : oE p a ∈ p.cases := by
 unfold oE
 rw [List.getD_eq_getElem?_getD, List.getElem?_eq_getElem (by omega), Option.getD_some]
 exact List.getElem_mem _
theorem WV.oF (h : WV p x) (hp : cU p) (ha : At x v.g 2) (hw : (ae x v.g).wt.op = 14 ∨ (ae x v.g).wt.op = 16 ∧ 0 ≤ v.cs ∧ v.cs < (ae x v.g).wt.b) : oF p x v := by
 refine ⟨h.aW ha.1 ha.2.1, ?_⟩
 obtain ⟨f, hf, hi⟩ := (h.jr ha.1 ha.2.1).wt ha.2.2
 obtain ⟨_, _, _, _, _, _, _, _, i13, i14, i16, _⟩ := hi
 split
 ·rename_i e
  rcases hw with hw | ⟨_, c0, c1⟩
  ·rw [e] at hw; cases hw
  ·obtain ⟨a0, a1, a2⟩ := i16 e
   refine ⟨by omega, by omega, by have := hp.cs; omega, (hp.cas _ (Ko hp (by omega) (by omega))).2, i14 (.inr e)⟩
 ·rename_i e
  rcases hw with hw | ⟨hw, _⟩
  ·exact ⟨i13 (.inr hw), i14 (.inl hw)⟩
  ·exact absurd hw e
theorem WV.vU (h : WV p x) (ha : At x v.g 2) : vU x v := by
 refine ⟨h.aW ha.1 ha.2.1, fun e => ?_⟩
 obtain ⟨f, hf, hi⟩ := (h.jr ha.1 ha.2.1).wt ha.2.2
 obtain ⟨_, _, _, _, _, _, _, _, _, i14, _⟩ := hi
 exact i14 (.inr e)
theorem lZ.bQ (h : lZ x g) : lZ (x.bg q k n) g := h
theorem bJ {m : Int} : (x.bg g q m).gs.length = x.gs.length := by simp [Wd.bg, Wd.bh]
theorem me : (x.dV g).gs.length = x.gs.length := by simp [Wd.dV, Wd.bh]
theorem qb (h0 : 0 ≤ g) (hg : g < x.gs.length) {m : Int} (h1 : 0 ≤ m) (hne : m ≠ g) : ae (x.dV g) m = ae x m := by
 show ae (x.bh g _) m = _
 rw [gM hg h0, if_neg (by omega)]
theorem uf (h0 : 0 ≤ g) (hg : g < x.gs.length) : (ae (x.dV g) g).st = 1 := by
 show (ae (x.bh g _) g).st = _
 rw [gM hg h0, if_pos rfl]
theorem WV.fE (h : WV p x) (ha : At x g 2) (RV : (ae x g).wt.op ≠ 18) : WV p (x.fE g k) ∧ lZ (x.fE g k) g := by
 obtain ⟨h0, hg, h2⟩ := ha
 unfold Wd.fE
 have r2 := h.bg (q := (ae x g).wt.c) (n := k) h0 hg
 have e2 := Bm (x := x) (q := (ae x g).wt.c) (n := k) h0 hg (m := g)
 exact ⟨r2.leave, GM r2 (by rw [e2.2.1]; exact RV) (by rw [e2.1]; exact h2)⟩
theorem fX : (x.fE g k).gs.length = x.gs.length := by simp [Wd.fE, Wd.leave, bJ]
theorem Bn (h0 : 0 ≤ g) (hg : g < x.gs.length) {m : Int} (h1 : 0 ≤ m) (hne : m ≠ g) : ae (x.fE g k) m = ae x m := by
 show ae (x.bg g _ _) m = _
 exact mb h0 hg h1 hne
theorem WV.received (h : WV p x) (ha : At x v.g 2) (RV : (ae x v.g).wt.op ≠ 18) (hf : (ae x v.g).wt.op ≠ 16 → lZ x v.g) {s : Int} : WV p (x.received p v s) := by
 have X0 := ha
 obtain ⟨h0, hg, h2⟩ := X0
 unfold Wd.received
 dsimp only
 split
 ·have r1 := h.bg (q := (oE p ((ae x v.g).wt.a + v.cs)).bQ) (n := v.v) h0 hg
  have e1 := Bm (x := x) (q := (oE p ((ae x v.g).wt.a + v.cs)).bQ) (n := v.v) h0 hg (m := v.g)
  have l1 := bJ (x := x) (g := v.g) (q := (oE p ((ae x v.g).wt.a + v.cs)).bQ) (m := v.v)
  obtain ⟨r2, f2⟩ := r1.fE (k := v.cs) ⟨h0, by rw [l1]; exact hg, by rw [e1.1]; exact h2⟩ (by rw [e1.2.1]; exact RV)
  exact r2.dV h0 (by rw [fX, l1]; exact hg) f2
 ·rename_i e
  have r1 := h.bg (q := (ae x v.g).wt.b) (n := v.v) h0 hg
  have r2 := r1.bg (g := v.g) (q := (ae x v.g).wt.c) (n := s) h0 (by rw [bJ]; exact hg)
  exact r2.dV h0 (by rw [bJ, bJ]; exact hg) (hf e)
theorem ug {s : Int} : (x.received p v s).gs.length = x.gs.length := by
 unfold Wd.received
 dsimp only
 split
 ·rw [me, fX, bJ]
 ·rw [me, bJ, bJ]
theorem we (h0 : 0 ≤ v.g) (hg : v.g < x.gs.length) {s m : Int} (h1 : 0 ≤ m) (hne : m ≠ v.g) : ae (x.received p v s) m = ae x m := by
 unfold Wd.received
 dsimp only
 split
 ·rw [qb h0 (by rw [fX, bJ]; exact hg) h1 hne, Bn h0 (by rw [bJ]; exact hg) h1 hne, mb h0 hg h1 hne]
 ·rw [qb h0 (by rw [bJ, bJ]; exact hg) h1 hne, mb h0 (by rw [bJ]; exact hg) h1 hne, mb h0 hg h1 hne]
theorem kU (h0 : 0 ≤ v.g) (hg : v.g < x.gs.length) {s : Int} : (ae (x.received p v s) v.g).st = 1 ∧ (x.received p v s).ready = x.ready ++ [v.g] := by
 unfold Wd.received
 dsimp only
 split
 ·exact ⟨uf h0 (by rw [fX, bJ]; exact hg), rfl⟩
 ·exact ⟨uf h0 (by rw [bJ, bJ]; exact hg), rfl⟩
theorem WV.sent (h : WV p x) (ha : At x v.g 2) (RV : (ae x v.g).wt.op ≠ 18) (hf : (ae x v.g).wt.op ≠ 16 → lZ x v.g) : WV p (x.sent v) := by
 have X0 := ha
 obtain ⟨h0, hg, h2⟩ := X0
 unfold Wd.sent
 split
 ·obtain ⟨r2, f2⟩ := h.fE (k := v.cs) ha RV
  exact r2.dV h0 (by rw [fX]; exact hg) f2
 ·rename_i e
  exact h.dV h0 hg (hf e)
theorem Nz : (x.sent v).gs.length = x.gs.length := by
 unfold Wd.sent
 split
 ·rw [me, fX]
 ·rw [me]
theorem Qr (h0 : 0 ≤ v.g) (hg : v.g < x.gs.length) {m : Int} (h1 : 0 ≤ m) (hne : m ≠ v.g) : ae (x.sent v) m = ae x m := by
 unfold Wd.sent
 split
 ·rw [qb h0 (by rw [fX]; exact hg) h1 hne, Bn h0 hg h1 hne]
 ·rw [qb h0 hg h1 hne]
theorem Ie (h0 : 0 ≤ v.g) (hg : v.g < x.gs.length) : (ae (x.sent v) v.g).st = 1 ∧ (x.sent v).ready = x.ready ++ [v.g] := by
 unfold Wd.sent
 split
 ·exact ⟨uf h0 (by rw [fX]; exact hg), rfl⟩
 ·exact ⟨uf h0 hg, rfl⟩
theorem EI (hk : tO x k) : ∃ c, x.aC[k.toNat]? = some c ∧ dk x.aC k = c := by
 obtain ⟨k0, k1⟩ := hk
 obtain ⟨c, hc⟩ := aO (l := x.aC) (i := k.toNat) (by omega)
 exact ⟨c, hc, by simp [dk, hc]⟩
theorem CN (h : WV p x) {c c' : aP} (hc : x.aC[k.toNat]? = some c) (h0 : 0 ≤ g) (h2 : (ae x g).st = 2) (tL : (ae x g).wt.op ≠ 16) (hn : (cD c').count g + 1 ≤ (cD c).count g) : lZ (x.bX k c') g := by
 have a := h.one g h0 tL
 have b := kT (fun c : aP => (cD c).count g) x.aC k.toNat c' c hc
 have e1 : bU (x.aC.set k.toNat c') g = 0 := by unfold bU at *; omega
 have e2 : gr x.aU g = 0 := by
  have := y4 (fun c : aP => (cD c).count g) x.aC c (List.mem_of_getElem? hc)
  unfold bU at a
  omega
 refine ⟨ue.1 e1, xe.1 e2, fun w hw e => ?_⟩
 have := (h.hl w hw).2.2
 rw [e, h2] at this
 cases this
end
def Wk (x y : Wd) : Prop := y.gs.length = x.gs.length ∧ ∃ l : List Int, y.ready = x.ready ++ l ∧ l.Nodup ∧ (∀ q ∈ l, 0 ≤ q ∧ q < x.gs.length ∧ (ae x q).st ≠ 1 ∧ (ae y q).st = 1) ∧ ∀ q, 0 ≤ q → q ∉ l → ae y q = ae x q
section
variable {p : cj} {x y z : Wd} {g q k n : Int} {f : List dB} {i : dB} {v : Wt}
theorem Wk.refl (x : Wd) : Wk x x := ⟨rfl, [], by simp, List.nodup_nil, (fun q h => by cases h), fun q _ _ => rfl⟩
theorem Wk.same (h1 : y.gs = x.gs) (h2 : y.ready = x.ready) : Wk x y := ⟨by rw [h1], [], by simp [h2], List.nodup_nil, fun q h => by (cases h), fun q _ _ => by unfold ae; rw [h1]⟩
theorem Wk.trans (h : Wk x y) (h' : Wk y z) : Wk x z := by
 obtain ⟨a1, l, a2, a3, a4, a5⟩ := h
 obtain ⟨b1, m, b2, b3, b4, b5⟩ := h'
 refine ⟨by rw [b1, a1], l ++ m, by rw [b2, a2, List.append_assoc], ?_, ?_, ?_⟩
 ·refine List.nodup_append.2 ⟨a3, b3, fun q hq r hr e => ?_⟩
  subst e
  exact (b4 q hr).2.2.1 (a4 q hq).2.2.2
 ·intro q hq
  rcases List.mem_append.1 hq with hq | hq
  ·obtain ⟨c1, c2, c3, c4⟩ := a4 q hq
   refine ⟨c1, c2, c3, ?_⟩
   by_cases hm : q ∈ m
   ·exact (b4 q hm).2.2.2
   ·rw [b5 q c1 hm]; exact c4
  ·obtain ⟨c1, c2, c3, c4⟩ := b4 q hq
   by_cases hl : q ∈ l
   ·exact absurd (a4 q hl).2.2.2 c3
   ·exact ⟨c1, by rw [← a1]; exact c2, by rw [← a5 q c1 hl]; exact c3, c4⟩
 ·intro q q0 hq
  rw [List.mem_append] at hq
  rw [b5 q q0 (fun h => hq (.inr h)), a5 q q0 (fun h => hq (.inl h))]
theorem Wk.keep (h : Wk x y) (h0 : 0 ≤ q) (h1 : (ae x q).st = 1) : ae y q = ae x q := by
 obtain ⟨_, l, _, _, a4, a5⟩ := h
 exact a5 q h0 fun hq => (a4 q hq).2.2.1 h1
theorem Wk.received (h0 : 0 ≤ v.g) (hg : v.g < x.gs.length) (h1 : (ae x v.g).st ≠ 1) {s : Int} : Wk x (x.received p v s) :=
 ⟨ug, [v.g], (kU h0 hg).2, by simp, fun q hq => by
  simp only [List.mem_singleton] at hq; subst hq
  exact ⟨h0, hg, h1, (kU h0 hg).1⟩, fun q q0 hq => we h0 hg q0 (by simpa using hq)⟩
theorem Wk.sent (h0 : 0 ≤ v.g) (hg : v.g < x.gs.length) (h1 : (ae x v.g).st ≠ 1) : Wk x (x.sent v) :=
 ⟨Nz, [v.g], (Ie h0 hg).2, by simp, fun q hq => by
  simp only [List.mem_singleton] at hq; subst hq
  exact ⟨h0, hg, h1, (Ie h0 hg).1⟩, fun q q0 hq => Qr h0 hg q0 (by simpa using hq)⟩
theorem Wk.dV (h0 : 0 ≤ g) (hg : g < x.gs.length) (h1 : (ae x g).st ≠ 1) : Wk x (x.dV g) :=
 ⟨me, [g], rfl, by simp, fun q hq => by
  simp only [List.mem_singleton] at hq; subst hq
  exact ⟨h0, hg, h1, uf h0 hg⟩, fun q q0 hq => qb h0 hg q0 (by simpa using hq)⟩
theorem Wk.bX {c : aP} : Wk x (x.bX k c) := Wk.same rfl rfl
theorem pG (h : WV p x) {c : aP} (hc : c ∈ x.aC) : c.buf.length ≤ 16 ∧ c.snd.length ≤ 3200 ∧ c.dU.length ≤ 3200 := by
 have h1 := h.Ia hc
 unfold cD at h1
 rw [List.length_append, List.length_map, List.length_map] at h1
 have := h.buf c hc
 omega
def UT (p : cj) (x : Wd) : Out (Wd × Bool) → Prop
 | .dx _ y => WV p y ∧ y.gs = x.gs ∧ y.ready = x.ready
 | .on (y, true) => WV p y ∧ Wk x y
 | .on (y, false) => y = x
 | .cz _ _ => False
theorem di {α : Type} : ∀ (l : List α) (n : Nat) (a : α), l[n]? = some a → l.set n a = l
 | [], _, _, _ => rfl
 | b :: l, 0, a, h => by simp at h; subst h; rfl
 | b :: l, n + 1, a, h => by rw [List.set_cons_succ, di l n a (by simpa using h)]
theorem ni {c : aP} (hc : x.aC[k.toNat]? = some c) : x.bX k c = x := by
 unfold Wd.bX
 rw [di _ _ _ hc]
theorem WV.put (h : WV p x) (hp : cU p) (hk : tO x k) : ny p x k n ∧ UT p x (x.put p k n) := by
 obtain ⟨c, hc, e⟩ := EI hk
 have hm := List.mem_of_getElem? hc
 obtain ⟨s1, s2, s3⟩ := pG h hm
 have hb := h.buf c hm
 have hr := h.dU c hm
 unfold ny Wd.put
 rw [e]
 refine ⟨⟨hk, ?_, ?_⟩, ?_⟩
 ·unfold aP.send
  split
  ·intro h; cases h
  ·split
   ·rename_i w r hw
    intro _
    obtain ⟨a, b⟩ := hr w (by rw [hw]; simp)
    exact h.oF (v := ⟨w.g, w.cs, n⟩) hp a b
   ·split <;> (intro h; cases h)
 ·have : c.Small 3200 := ⟨by omega, s2, s3⟩
  exact (this.send n).mono (by omega)
 ·unfold aP.send
  split
  ·dsimp only
   rw [if_pos rfl, ni hc]
   exact ⟨h, rfl, rfl⟩
  ·split
   ·rename_i w r hw
    dsimp only
    obtain ⟨a, b⟩ := hr w (by rw [hw]; simp)
    have hl : WV p (x.bX k { c with dU := r }) := h.less hc hb (fun v hv => by rw [hw]; exact List.mem_cons_of_mem _ hv) (fun v hv => hv) (fun q => by
     unfold cD; rw [hw]; simp only [List.map_cons, List.count_append, List.count_cons]; omega)
    have hne : (ae x w.g).wt.op ≠ 18 := by rcases b with b | b; rw [b]; decide; rw [b.1]; decide
    rw [if_neg (by decide), if_pos rfl]
    refine ⟨hl.received (v := ⟨w.g, w.cs, n⟩) a hne (fun tL => ?_), Wk.bX.trans (Wk.received (x := x.bX k { c with dU := r }) (v := ⟨w.g, w.cs, n⟩) a.1 a.2.1 (by show (ae x w.g).st ≠ 1; rw [a.2.2]; decide))⟩
    exact CN h hc a.1 a.2.2 tL (by unfold cD; rw [hw]; simp only [List.map_cons, List.count_append, List.count_cons, beq_self_eq_true, if_true]; omega)
   ·rename_i hw
    split
    ·dsimp only
     rw [if_neg (by decide), if_neg (by decide)]
     exact ⟨h.less hc ⟨by simp; omega, hb.2⟩ (fun v hv => hv) (fun v hv => hv) (fun q => Nat.le_refl _), Wk.bX⟩
    ·dsimp only
     rw [if_neg (by decide), if_neg (by decide), ni hc]
     exact rfl
theorem WV.get (h : WV p x) (hp : cU p) (hk : tO x k) : tP x k ∧ WV p (x.get k).1 ∧ Wk x (x.get k).1 ∧ ((x.get k).2.2.2 = false → (x.get k).1 = x) := by
 obtain ⟨c, hc, e⟩ := EI hk
 have hm := List.mem_of_getElem? hc
 obtain ⟨s1, s2, s3⟩ := pG h hm
 have hb := h.buf c hm
 have hs := h.snd c hm
 unfold tP Wd.get
 rw [e]
 obtain ⟨room, buf, snd, dU, closed⟩ := c
 cases snd with
 | cons w r =>
  obtain ⟨a, b⟩ := hs w (by simp)
  obtain ⟨v, l, hv⟩ : ∃ v l, buf ++ [w.v] = v :: l := by
   cases buf with
   | nil => exact ⟨_, _, rfl⟩
   | cons q t => exact ⟨q, t ++ [w.v], rfl⟩
  have hlen : l.length = buf.length := by
   have := congrArg List.length hv
   simp at this; omega
  have er : aP.recv ⟨room, buf, w :: r, dU, closed⟩ = (⟨room, l, r, dU, closed⟩, v, true, w, true, 0) := by
   unfold aP.recv aP.all
   dsimp only
   rw [hv]
   rfl
  rw [er]
  dsimp only
  have hl : WV p (x.bX k ⟨room, l, r, dU, closed⟩) := h.less hc (by rw [hlen]; exact hb) (fun v hv => hv) (fun v hv => List.mem_cons_of_mem _ hv) (fun q => by
   unfold cD; simp only [List.map_cons, List.cons_append, List.count_cons]; omega)
  have hne : (ae x w.g).wt.op ≠ 18 := by rcases b with b | b; rw [b]; decide; rw [b.1]; decide
  rw [if_pos rfl, if_pos rfl]
  refine ⟨⟨hk, fun _ => h.vU a, ⟨by dsimp only at *; omega, by simp only [List.length_cons] at s2; dsimp only; omega, by dsimp only at *; omega⟩⟩, hl.sent a hne (fun tL => ?_), Wk.bX.trans (Wk.sent (x := x.bX k ⟨room, l, r, dU, closed⟩) a.1 a.2.1 (by show (ae x w.g).st ≠ 1; rw [a.2.2]; decide)), (fun h => by cases h)⟩
  exact CN h hc a.1 a.2.2 tL (by unfold cD; simp only [List.map_cons, List.cons_append, List.count_cons, beq_self_eq_true, if_true]; omega)
 | nil =>
  cases buf with
  | cons q t =>
   have er : aP.recv ⟨room, q :: t, [], dU, closed⟩ = (⟨room, t, [], dU, closed⟩, q, true, .zero, false, 0) := rfl
   rw [er]
   dsimp only
   simp only [Bool.false_eq_true, if_false, if_true]
   simp only [List.length_cons] at s1 hb
   exact ⟨⟨hk, (fun h => by cases h), ⟨by dsimp only; omega, by dsimp only at *; omega, by dsimp only at *; omega⟩⟩, h.less hc ⟨by dsimp only; omega, hb.2⟩ (fun v hv => hv) (fun v hv => hv) (fun q => Nat.le_refl _), Wk.bX, (fun h => by cases h)⟩
  | nil =>
   have er : aP.recv ⟨room, [], [], dU, closed⟩ = (⟨room, [], [], dU, closed⟩, 0, false, .zero, false, if closed then 0 else 5) := rfl
   rw [er]
   dsimp only
   simp only [Bool.false_eq_true, if_false, ni hc]
   exact ⟨⟨hk, (fun h => by cases h), ⟨by dsimp only at *; omega, by dsimp only at *; omega, by dsimp only at *; omega⟩⟩, h, Wk.refl _, fun _ => trivial⟩
end
section
variable {p : cj} {x y z : Wd} {g q k n : Int} {f : List dB} {i : dB} {v : Wt}
def UU (x : Wd) (v : Wt) : Prop := 0 ≤ v.g ∧ v.g < x.gs.length ∧ ((ae x v.g).st = 2 → (ae x v.g).wt.op = 14 ∧ lZ x v.g ∨ (ae x v.g).wt.op = 16 ∧ 0 ≤ v.cs ∧ v.cs < (ae x v.g).wt.b)
def y7 (x y : Wd) : Prop := (∀ d ∈ y.aC, ∃ c ∈ x.aC, ∀ q ∈ cD d, q ∈ cD c) ∧ y.aU = x.aU ∧ y.hl = x.hl
theorem y7.refl (x : Wd) : y7 x x := ⟨fun d hd => ⟨d, hd, fun _ h => h⟩, rfl, rfl⟩
theorem y7.free (h : y7 x y) (hf : lZ x g) : lZ y g := by
 obtain ⟨a, b, c⟩ := h
 refine ⟨fun d hd hg => ?_, by rw [b]; exact hf.2.1, by rw [c]; exact hf.2.2⟩
 obtain ⟨e, he, hs⟩ := a d hd
 exact hf.1 e he (hs g hg)
theorem y7.leave : y7 x (x.leave g) := ⟨fun d hd => by
 obtain ⟨c, hc, rfl⟩ := List.mem_map.1 hd
 exact ⟨c, hc, fun q hq => by rw [y6] at hq; exact (List.mem_filter.1 hq).1⟩, rfl, rfl⟩
theorem y7.received {s : Int} : y7 x (x.received p v s) := by
 unfold Wd.received
 dsimp only
 split
 ·exact y7.leave (x := (x.bg v.g (oE p ((ae x v.g).wt.a + v.cs)).bQ v.v).bg v.g _ _)
 ·exact y7.refl x
theorem vz (hp : cU p) : ∀ (l : List Wt) (x : Wd), WV p x → x.ready.length + l.length ≤ 1000000 → (∀ v ∈ l, UU x v) → va p x l ∧ WV p (l.foldl (dm p) x) ∧ Wk x (l.foldl (dm p) x)
 | [], x, h, _, _ => ⟨trivial, h, Wk.refl x⟩
 | v :: l, x, h, hr, ha => by
  obtain ⟨h0, hg, h2⟩ := ha v (by simp)
  have jx : x.ready.length ≤ 1000000 := by simp only [List.length_cons] at hr; omega
  by_cases e : (ae x v.g).st = 2
  ·have EJ : At x v.g 2 := ⟨h0, hg, e⟩
   have hne : (ae x v.g).wt.op ≠ 18 := by rcases h2 e with b | b; rw [b.1]; decide; rw [b.1]; decide
   have hw := h.received (v := { v with v := 0 }) EJ hne (fun tL => by
    rcases h2 e with b | b
    ·exact b.2
    ·exact absurd b.1 tL) (s := 0)
   have hk : Wk x (x.received p { v with v := 0 } 0) := Wk.received (v := { v with v := 0 }) h0 hg (by rw [e]; decide)
   have es : dm p x v = x.received p { v with v := 0 } 0 := by unfold dm; rw [if_pos e]
   have hrd : (x.received p { v with v := 0 } 0).ready = x.ready ++ [v.g] := (kU (v := { v with v := 0 }) h0 hg).2
   obtain ⟨r1, r2, r3⟩ := vz hp l (x.received p { v with v := 0 } 0) hw (by rw [hrd]; simp only [List.length_append, List.length_cons, List.length_nil] at *; omega) (fun w VK => by
    obtain ⟨b0, b1, b2⟩ := ha w (List.mem_cons_of_mem _ VK)
    refine ⟨b0, by rw [ug]; exact b1, fun VG => ?_⟩
    by_cases ew : w.g = v.g
    ·rw [ew, (kU (v := { v with v := 0 }) h0 hg).1] at VG; cases VG
    ·rw [we (v := { v with v := 0 }) h0 hg b0 ew] at VG ⊢
     rcases b2 VG with c | c
     ·exact .inl ⟨c.1, y7.received.free c.2⟩
     ·exact .inr c)
   refine ⟨⟨h.sm hp jx, h0, hg, fun _ => h.oF (v := { v with v := 0 }) hp EJ ?_, by rw [es]; exact r1⟩, by rw [List.foldl_cons, es]; exact r2, by rw [List.foldl_cons, es]; exact hk.trans r3⟩
   rcases h2 e with b | b
   ·exact .inl b.1
   ·exact .inr b
  ·have es : dm p x v = x := by unfold dm; rw [if_neg e]
   obtain ⟨r1, r2, r3⟩ := vz hp l x h (by simp only [List.length_cons] at hr; omega) (fun w VK => ha w (List.mem_cons_of_mem _ VK))
   exact ⟨⟨h.sm hp jx, h0, hg, fun VG => absurd VG e, by rw [es]; exact r1⟩, by rw [List.foldl_cons, es]; exact r2, by rw [List.foldl_cons, es]; exact r3⟩
end
theorem Ig {l : List bq} {i : Nat} (h : i < l.length) : m9 l i = l[i] := by
 unfold m9; rw [List.getD_eq_getElem?_getD, List.getElem?_eq_getElem h]; rfl
theorem sw {l : List bq} {i j : Nat} (hi : i < l.length) (hj : j < l.length) : (ef l i j).Perm l := by
 unfold ef
 rw [Ig hi, Ig hj]
 exact List.set_set_perm hi hj
theorem y8 : ∀ (f i : Nat) (l : List bq), i < l.length → (J0 f i l).Perm l
 | 0, _, l, _ => List.Perm.refl l
 | f + 1, i, l, h => by
  unfold J0
  split
  ·exact (y8 f _ _ (by rw [eO]; omega)).trans (sw h (by omega))
  ·exact List.Perm.refl l
theorem y9 : ∀ (f i : Nat) (l : List bq), i < l.length → (nA f i l).Perm l
 | 0, _, l, _ => List.Perm.refl l
 | f + 1, i, l, h => by
  unfold nA
  split
  ·exact List.Perm.refl l
  ·have := (Bd h).1
   exact (y9 f _ _ (by rw [eO]; exact this)).trans (sw h this)
theorem za {l : List bq} {x : bq} : (qX l x).Perm (l ++ [x]) := y8 _ _ _ (by simp)
theorem CO {l : List bq} {i : Nat} (h : i < l.length) : l.Perm (m9 l i :: dK l i) := by
 have hn : l.length - 1 < l.length := by omega
 have h1 : (ef l i (l.length - 1)).Perm l := sw h hn
 have HF : (ef l i (l.length - 1))[l.length - 1]? = some (m9 l i) := by
  unfold ef
  rw [List.getElem?_set_self (by rw [List.length_set]; exact hn)]
 have h2 : ef l i (l.length - 1) = (ef l i (l.length - 1)).take (l.length - 1) ++ [m9 l i] := by
  have e : ef l i (l.length - 1) = (ef l i (l.length - 1)).take (l.length - 1 + 1) := by
   rw [List.take_of_length_le (by rw [eO]; omega)]
  conv => lhs; rw [e]
  rw [List.take_add_one, HF]
  rfl
 have h3 : l.Perm (m9 l i :: (ef l i (l.length - 1)).take (l.length - 1)) := by
  refine h1.symm.trans ?_
  rw [h2]
  have : (List.take (l.length - 1) (ef l i (l.length - 1)) ++ [m9 l i]).take (l.length - 1) = (ef l i (l.length - 1)).take (l.length - 1) := by rw [← h2]
  rw [this]
  exact List.perm_append_comm
 unfold dK
 split
 ·rename_i hlt
  have hlen : ((ef l i (l.length - 1)).take (l.length - 1)).length = l.length - 1 := by rw [List.length_take, eO]; omega
  refine h3.trans (List.Perm.cons _ ?_)
  exact ((y8 _ _ _ (by rw [iN, hlen]; exact hlt)).trans (y9 _ _ _ (by rw [hlen]; exact hlt))).symm
 ·exact h3
theorem zb : ∀ (f : Nat) (l : List bq) (now : Int), l.Perm ((dn f l now).2 ++ (dn f l now).1)
 | 0, l, _ => by simp [dn]
 | f + 1, l, now => by
  unfold dn
  split
  ·rename_i h
   refine (CO h.1).trans ?_
   dsimp only
   exact List.Perm.cons _ (zb f _ now)
  ·simp
def gN (g : Int) (x y : Wd) : Prop := y.ready.Nodup ∧ g ∉ y.ready ∧ (∀ q ∈ y.ready, 0 ≤ q ∧ q < y.gs.length ∧ ¬ At x q 1 ∧ (ae y q).st = 1) ∧
 (∀ q, 0 ≤ q → q ≠ g → q ∉ y.ready → ae y q = ae x q) ∧ x.gs.length ≤ y.gs.length ∧ ∀ q : Int, x.gs.length ≤ q → q < y.gs.length → q ∈ y.ready
section
variable {p : cj} {x y z : Wd} {g q k n : Int} {f : List dB} {i : dB} {v : Wt}
theorem gN.refl (hr : x.ready = []) : gN g x x := by
 refine ⟨by rw [hr]; exact List.nodup_nil, by rw [hr]; simp, fun q hq => ?_, fun _ _ _ _ => rfl, Nat.le_refl _, fun q a b => by omega⟩
 rw [hr] at hq; cases hq
theorem gN.of (h : Wk x y) (hr : x.ready = []) (hg : At x g 1) : gN g x y := by
 obtain ⟨a1, l, a2, a3, a4, a5⟩ := h
 rw [hr, List.nil_append] at a2
 rw [gN, a2]
 refine ⟨a3, fun hm => (a4 g hm).2.2.1 hg.2.2, fun q hq => ?_, fun q q0 _ hn => a5 q q0 hn, by omega, fun q b c => by omega⟩
 obtain ⟨b1, b2, b3, b4⟩ := a4 q hq
 exact ⟨b1, by omega, fun ha => b3 ha.2.2, b4⟩
theorem gN.Ih (h : gN g x y) (h1 : z.ready = y.ready) (h2 : z.gs.length = y.gs.length) (h3 : ∀ q, 0 ≤ q → q ≠ g → ae z q = ae y q) : gN g x z := by
 obtain ⟨a1, a2, a3, a4, a5, a6⟩ := h
 rw [gN, h1, h2]
 refine ⟨a1, a2, fun q hq => ?_, fun q q0 hne hn => by rw [h3 q q0 hne]; exact a4 q q0 hne hn, a5, a6⟩
 have hne : q ≠ g := fun e => a2 (e ▸ hq)
 obtain ⟨b1, b2, b3, b4⟩ := a3 q hq
 exact ⟨b1, b2, b3, by rw [h3 q b1 hne]; exact b4⟩
theorem gN.pre (h : gN g y z) (h2 : y.gs.length = x.gs.length) (h3 : ∀ q, 0 ≤ q → q ≠ g → ae y q = ae x q) : gN g x z := by
 obtain ⟨a1, a2, a3, a4, a5, a6⟩ := h
 refine ⟨a1, a2, fun q hq => ?_, fun q q0 hne hn => by rw [a4 q q0 hne hn, h3 q q0 hne], by omega, fun q a b => a6 q (by omega) b⟩
 have hne : q ≠ g := fun e => a2 (e ▸ hq)
 obtain ⟨b1, b2, b3, b4⟩ := a3 q hq
 exact ⟨b1, b2, fun ha => b3 ⟨ha.1, by rw [h2]; exact ha.2.1, by rw [h3 q b1 hne]; exact ha.2.2⟩, b4⟩
theorem gN.bQ (h : gN g x y) (h0 : 0 ≤ g) (hg : g < y.gs.length) : gN g x (y.bg g q n) := h.Ih rfl bJ fun m m0 hne => mb h0 hg m0 hne
theorem qc {w : gT} (h0 : 0 ≤ g) (hg : g < x.gs.length) {m : Int} (m0 : 0 ≤ m) (hne : m ≠ g) : ae (x.bh g w) m = ae x m := by
 rw [gM hg h0, if_neg (by omega)]
theorem gN.bh {w : gT} (h : gN g x y) (h0 : 0 ≤ g) (hg : g < y.gs.length) : gN g x (y.bh g w) := h.Ih rfl (by simp [Wd.bh]) fun m m0 hne => qc h0 hg m0 hne
def gD (p : cj) (g : Int) (x : Wd) : Out Wd → Prop
 | .dx _ y => WV p y ∧ gN g x y
 | .on y => WV p y ∧ gN g x y
 | .cz _ _ => False
theorem gD.lt {r : Out Wd} (h : gD p g x r) (hg : At x g 1) : g < r.fin.gs.length := by
 cases r with
 | on y => have := h.2.2.2.2.2.1; have := hg.2.1; show g < y.gs.length; omega
 | dx n y => have := h.2.2.2.2.2.1; have := hg.2.1; show g < y.gs.length; omega
 | cz l y => exact h.elim
theorem lZ.wS (h : lZ x g) : bU x.aC g = 0 ∧ gr x.aU g = 0 ∧ CM x.hl g = 0 :=
 ⟨ue.2 h.1, xe.2 h.2.1, List.count_eq_zero.2 fun hm => by
  obtain ⟨y, hy, e⟩ := List.mem_map.1 hm
  exact h.2.2 y hy e⟩
theorem At.free (hg : At x g 1) (h : WV p x) : lZ x g := h.free (by rw [hg.2.2]; decide) (by rw [hg.2.2]; decide)
theorem Qs (h : WV p x) (hg : At x g 1) (hi : jz p f i) (h9 : i.op = 9) (hr : x.ready = []) : (aW x g ∧ bx i.b) ∧ gD p g x (x.call g i) := by
 obtain ⟨_, _, _, _, _, i9, _⟩ := hi
 obtain ⟨a0, a1, b1, c1⟩ := i9 (.inl h9)
 have hz := h.jr hg.1 hg.2.1
 refine ⟨⟨h.aW hg.1 hg.2.1, b1⟩, ?_⟩
 unfold Wd.call
 split
 ·exact ⟨h, gN.refl hr⟩
 ·rename_i hn
  refine ⟨h.bh hg.1 hg.2.1 ⟨by simp, by simp; omega, fun r hr => ?_, hz.wt, hz.st⟩ rfl rfl, (gN.refl hr).bh hg.1 hg.2.1⟩
  rcases List.mem_append.1 hr with hr | hr
  ·exact hz.fr r hr
  ·simp only [List.mem_singleton] at hr; subst hr
   exact ⟨a0, a1, Int.le_refl 0, (by show (0 : Int) ≤ 64; decide), c1⟩
theorem Qt (h : WV p x) (hp : cU p) (hg : At x g 1) (hi : jz p f i) (h20 : i.op = 20) (hr : x.ready = []) : (aW x g ∧ bx i.a ∧ x.Sm) ∧ gD p g x (x.emit g i) := by
 obtain ⟨_, _, _, _, _, _, i10, _⟩ := hi
 refine ⟨⟨h.aW hg.1 hg.2.1, i10 (.inr (.inr (.inl h20))), h.sm hp (by rw [hr]; decide)⟩, ?_⟩
 unfold Wd.emit
 split
 ·exact ⟨h, gN.refl hr⟩
 ·rename_i hn
  exact ⟨h.congr rfl (fun _ => ⟨rfl, rfl⟩) h.EG rfl rfl rfl (by simp; omega), (gN.refl hr).Ih rfl rfl fun _ _ _ => rfl⟩
theorem Qu (h : WV p x) (hg : At x g 1) (hi : jz p f i) (h10 : i.op = 10) (hr : x.ready = []) : (aW x g ∧ bx i.a ∧ bx (ae x g).top.qh) ∧ gD p g x (.on (x.back g i)) := by
 obtain ⟨_, _, _, _, _, _, i10, _⟩ := hi
 have hz := h.jr hg.1 hg.2.1
 refine ⟨⟨h.aW hg.1 hg.2.1, i10 (.inl h10), hz.top.2.2.2.2⟩, ?_⟩
 have hf := hg.free h
 unfold Wd.back
 split
 ·rename_i h2
  refine ⟨h.bh hg.1 hg.2.1 ⟨by simp [gT.back]; omega, by have := hz.l2; simp [gT.back]; omega, fun r hr => ?_, hz.wt, hz.st⟩ rfl rfl, (gN.refl hr).bh hg.1 hg.2.1⟩
  rcases List.mem_or_eq_of_mem_set hr with hr | rfl
  ·exact hz.fr r (List.mem_of_mem_take hr)
  ·refine EF.set ?_ _ _
   rw [List.getD_eq_getElem?_getD, List.getElem?_eq_getElem (by omega), Option.getD_some]
   exact hz.fr _ (List.getElem_mem _)
 ·have hd : WV p (x.bh g { ae x g with st := 4 }) := h.Ic hg.1 hg.2.1 hf (hz.Nw (by decide) (by decide))
  have RW : gN g x (x.bh g { ae x g with st := 4 }) := (gN.refl hr).bh hg.1 hg.2.1
  split
  ·exact ⟨hd.congr rfl (fun _ => ⟨rfl, rfl⟩) hd.EG rfl rfl rfl hd.out, RW.Ih rfl rfl fun _ _ _ => rfl⟩
  ·exact ⟨hd, RW⟩
theorem Qv (h : WV p x) (hp : cU p) (hg : At x g 1) (hf : f ∈ p.funcs) (hi : jz p f i) (RX : i.op = 13) (hr : x.ready = []) :
  ((aW x g ∧ bx i.b ∧ ny p x i.a (aZ x g i.b) ∧ tY x g i (x.put p i.a (aZ x g i.b))) ∧ x.Sm) ∧ gD p g x (x.send p g i) := by
 have hi' := hi
 obtain ⟨_, _, _, _, _, _, _, i13, NA, _⟩ := hi'
 obtain ⟨a0, a1⟩ := i13 (.inl RX)
 have hk : tO x i.a := ⟨a0, by rw [h.ch]; exact a1⟩
 obtain ⟨p1, p2⟩ := h.put (n := aZ x g i.b) hp hk
 have Kb := h.aW hg.1 hg.2.1
 have hs := h.sm hp (by rw [hr]; decide)
 have hfr := hg.free h
 obtain ⟨c, hc, ec⟩ := EI hk
 have hm := List.mem_of_getElem? hc
 obtain ⟨s1, s2, s3⟩ := pG h hm
 unfold Wd.send
 generalize jh : x.put p i.a (aZ x g i.b) = r at p2
 match r, p2 with
 | .dx n y, p2 =>
  exact ⟨⟨⟨Kb, NA (.inl RX), p1, trivial⟩, hs⟩, p2.1, gN.of (Wk.same p2.2.1 p2.2.2) hr hg⟩
 | .on (y, true), p2 =>
  exact ⟨⟨⟨Kb, NA (.inl RX), p1, trivial⟩, hs⟩, p2.1, gN.of p2.2 hr hg⟩
 | .on (y, false), p2 =>
  have p3 : y = x := p2
  subst p3
  refine ⟨⟨⟨Kb, NA (.inl RX), p1, Kb, rfl, hk, by rw [ec]; exact ⟨by omega, by omega, by omega⟩⟩, hs⟩, ?_, ?_⟩
  ·have hb := h.block hg hf hi
   have eg : ae (y.block g i) g = { ae y g with st := 2, wt := i } := gh hg.1 hg.2.1
   show WV p ((y.block g i).bX i.a { dk y.aC i.a with snd := (dk y.aC i.a).snd ++ [⟨g, 0, aZ y g i.b⟩] })
   rw [ec]
   refine hb.more (c := c) (w := ⟨g, 0, aZ y g i.b⟩) hc (h.buf c hm) (fun v hv => .inl hv) (fun v hv => ?_) (fun q => ?_) (fun _ => ?_) ?_
   ·rcases List.mem_append.1 hv with hv | hv
    ·exact .inl hv
    ·refine .inr ⟨by simpa using hv, ⟨hg.1, by simpa [Wd.block, Wd.bh] using hg.2.1, by rw [eg]⟩, .inl (by rw [eg]; exact RX)⟩
   ·unfold cD
    simp only [List.map_append, List.map_cons, List.map_nil, List.count_append, List.count_cons, List.count_nil]
    by_cases e : q = g
    ·subst e; simp; omega
    ·rw [if_neg e]
     have : (g == q) = false := by simp; exact fun h => e h.symm
     simp [this]
   ·have := hfr.wS
    show bU y.aC g + gr y.aU g = 0
    omega
   ·have := hfr.wS
    show bU y.aC g < 32
    omega
  ·exact (gN.refl hr).Ih rfl (by simp [Wd.block, Wd.D7, Wd.bh, Wd.bX]) fun m m0 hne => by
    show ae (y.bh g _) m = _
    exact qc hg.1 hg.2.1 m0 hne
 | .cz l y, p2 => exact p2.elim
end
section
variable {p : cj} {x y z : Wd} {g q k n : Int} {f : List dB} {i : dB} {v : Wt}
theorem j8 (l : List Int) (q g : Int) : (l ++ [g]).count q ≤ l.count q + (if q = g then 1 else 0) := by
 rw [List.count_append, List.count_cons, List.count_nil]
 by_cases e : q = g
 ·subst e; simp
 ·rw [if_neg e]
  have : (g == q) = false := by simp; exact fun h => e h.symm
  simp [this]
theorem Qw (h : WV p x) (hp : cU p) (hg : At x g 1) (hf : f ∈ p.funcs) (hi : jz p f i) (YJ : i.op = 14) (hr : x.ready = []) :
  (vb x g i ∧ x.Sm) ∧ gD p g x (.on (x.recv g i)) := by
 have hi' := hi
 obtain ⟨_, _, _, _, _, _, _, i13, NA, i14, _⟩ := hi'
 obtain ⟨a0, a1⟩ := i13 (.inr (.inl YJ))
 have hk : tO x i.a := ⟨a0, by rw [h.ch]; exact a1⟩
 obtain ⟨p1, p2, p3, p4⟩ := h.get hp hk
 have Kb := h.aW hg.1 hg.2.1
 have hs := h.sm hp (by rw [hr]; decide)
 have hfr := hg.free h
 obtain ⟨c, hc, ec⟩ := EI hk
 have hm := List.mem_of_getElem? hc
 obtain ⟨s1, s2, s3⟩ := pG h hm
 have ek := p3.keep hg.1 hg.2.2
 have el := p3.1
 refine ⟨⟨⟨Kb, NA (.inr YJ), i14 (.inl YJ), p1, p2.aW hg.1 (by rw [el]; exact hg.2.1), by rw [ek], fun e => ?_⟩, hs⟩, ?_⟩
 ·rw [p4 e]
  exact ⟨hk, by rw [ec]; exact ⟨by omega, by omega, by omega⟩⟩
 ·unfold Wd.recv
  have RW : gN g x (x.get i.a).1 := gN.of p3 hr hg
  split
  ·have r1 := p2.bg (g := g) (q := i.b) (n := (x.get i.a).2.1) hg.1 (by rw [el]; exact hg.2.1)
   refine ⟨r1.bg hg.1 (by rw [bJ, el]; exact hg.2.1), (RW.bQ hg.1 (by rw [el]; exact hg.2.1)).bQ hg.1 (by rw [bJ, el]; exact hg.2.1)⟩
  ·rename_i e
   rw [p4 (by simpa using e)]
   have hb := h.block hg hf hi
   have eg : ae (x.block g i) g = { ae x g with st := 2, wt := i } := gh hg.1 hg.2.1
   refine ⟨?_, ?_⟩
   ·show WV p ((x.block g i).bX i.a { dk x.aC i.a with dU := (dk x.aC i.a).dU ++ [⟨g, 0, 0⟩] })
    rw [ec]
    refine hb.more (c := c) (w := ⟨g, 0, 0⟩) hc (h.buf c hm) (fun v hv => ?_) (fun v hv => .inl hv) (fun q => ?_) (fun _ => ?_) ?_
    ·rcases List.mem_append.1 hv with hv | hv
     ·exact .inl hv
     ·exact .inr ⟨by simpa using hv, ⟨hg.1, by simpa [Wd.block, Wd.bh] using hg.2.1, by rw [eg]⟩, .inl (by rw [eg]; exact YJ)⟩
    ·unfold cD
     rw [List.map_append, ← List.append_assoc]
     exact j8 _ _ _
    ·have := hfr.wS
     show bU x.aC g + gr x.aU g = 0
     omega
    ·have := hfr.wS
     show bU x.aC g < 32
     omega
   ·exact (gN.refl hr).Ih rfl (by simp [Wd.block, Wd.D8, Wd.bh, Wd.bX]) fun m m0 hne => by
     show ae (x.bh g _) m = _
     exact qc hg.1 hg.2.1 m0 hne
theorem Qx (h : WV p x) (hp : cU p) (hg : At x g 1) (hi : jz p f i) (h15 : i.op = 15) (hr : x.ready = []) :
  (m7 p x i ∧ x.Sm) ∧ gD p g x (x.shut p i) := by
 have hi' := hi
 obtain ⟨_, _, _, _, _, _, _, i13, _⟩ := hi'
 obtain ⟨a0, a1⟩ := i13 (.inr (.inr h15))
 have hk : tO x i.a := ⟨a0, by rw [h.ch]; exact a1⟩
 have hs := h.sm hp (by rw [hr]; decide)
 obtain ⟨c, hc, ec⟩ := EI hk
 have hm := List.mem_of_getElem? hc
 obtain ⟨s1, s2, s3⟩ := pG h hm
 have hb := h.buf c hm
 have hrc := h.dU c hm
 unfold m7 Wd.shut
 rw [ec]
 obtain ⟨room, buf, snd, dU, closed⟩ := c
 cases closed with
 | true =>
  refine ⟨⟨⟨hk, by dsimp only at *; omega, fun e => by simp [aP.close] at e⟩, hs⟩, ?_⟩
  simp only [aP.close, if_true]
  rw [ni hc]
  exact ⟨h, gN.refl hr⟩
 | false =>
  have UJ : WV p (x.bX i.a ⟨room, buf, [], [], true⟩) := h.less hc hb (fun v hv => by cases hv) (fun v hv => by cases hv) (fun q => by simp [cD])
  have NB := vz hp dU (x.bX i.a ⟨room, buf, [], [], true⟩) UJ (by show x.ready.length + dU.length ≤ 1000000; rw [hr]; dsimp only [List.length_nil] at *; omega) (fun v hv => by
   obtain ⟨a, b⟩ := hrc v hv
   refine ⟨a.1, a.2.1, fun _ => ?_⟩
   rcases b with b | b
   ·refine .inl ⟨b, CN h hc a.1 a.2.2 (by rw [b]; decide) ?_⟩
    have : 0 < List.count v.g (cD ⟨room, buf, snd, dU, false⟩) := List.count_pos_iff.2 (List.mem_append_right _ (List.mem_map.2 ⟨v, hv, rfl⟩))
    show List.count v.g (cD ⟨room, buf, [], [], true⟩) + 1 ≤ _
    simp only [cD, List.map_nil, List.append_nil, List.count_nil] at *
    omega
   ·exact .inr b)
  refine ⟨⟨⟨hk, by dsimp only at *; omega, fun _ _ => ?_⟩, hs⟩, ?_⟩
  ·simp only [aP.close, Bool.false_eq_true, if_false]
   exact NB.1
  ·simp only [aP.close, Bool.false_eq_true, if_false]
   rw [if_neg (by decide)]
   split
   ·exact ⟨UJ, (gN.refl hr).Ih rfl rfl fun _ _ _ => rfl⟩
   ·exact ⟨NB.2.1, gN.of (Wk.bX.trans NB.2.2) hr hg⟩
theorem NC (h : WV p x) (hp : cU p) (hg : At x g 1) (hi : jz p f i) (h17 : i.op = 17) (hr : x.ready = []) :
  (aW x g ∧ bx i.a ∧ x.hl.length < 1000000) ∧ gD p g x (.on (x.sleep g i)) := by
 obtain ⟨_, _, _, _, _, _, i10, _⟩ := hi
 refine ⟨⟨h.aW hg.1 hg.2.1, i10 (.inr (.inl h17)), by have := h.Ib; omega⟩, ?_⟩
 unfold Wd.sleep
 split
 ·have hf := hg.free h
  have hz := h.jr hg.1 hg.2.1
  have h1 := h.Ic hg.1 hg.2.1 hf (hz.Nw (s := 3) (by decide) (by decide))
  have RW : gN g x (x.bh g { ae x g with st := 3 }) := (gN.refl hr).bh hg.1 hg.2.1
  refine ⟨⟨h1.n1, h1.n2, h1.EG, h1.ch, h1.lk, h1.buf, h1.dU, h1.snd, h1.lw, fun w hw => ?_, h1.one, h1.Cw, fun q => ?_, h1.out⟩, RW.Ih rfl rfl fun _ _ _ => rfl⟩
  ·have FM := za.mem_iff.1 hw
   rcases List.mem_append.1 FM with FM | FM
   ·exact h1.hl w FM
   ·simp only [List.mem_singleton] at FM; subst FM
    refine ⟨hg.1, by simpa [Wd.bh] using hg.2.1, ?_⟩
    show (ae (x.bh g { ae x g with st := 3 }) g).st = 3
    rw [gh hg.1 hg.2.1]
  ·show CM (qX x.hl _) q ≤ 1
   unfold CM
   rw [(za.map bq.id).count_eq, List.map_append, List.map_cons, List.map_nil]
   have a := j8 (x.hl.map bq.id) q g
   have b := h.h1 q
   unfold CM at b
   by_cases e : q = g
   ·subst e
    have := hf.wS.2.2
    unfold CM at this
    rw [if_pos rfl] at a
    dsimp only at *
    omega
   ·rw [if_neg e] at a
    dsimp only at *
    omega
 ·exact ⟨h, gN.refl hr⟩
theorem RY (hk : CC x k) : ∃ c, x.aU[k.toNat]? = some c ∧ nT x k = c := by
 obtain ⟨k0, k1⟩ := hk
 obtain ⟨c, hc⟩ := aO (l := x.aU) (i := k.toNat) (by omega)
 exact ⟨c, hc, by simp [nT, hc]⟩
theorem WV.GN (h : WV p x) {c c' : Lk} (hc : x.aU[k.toNat]? = some c) (hr : ∀ v ∈ c'.waits, v ∈ c.waits) (hn : ∀ q, c'.waits.count q ≤ c.waits.count q) : WV p (x.fV k c') := by
 have hm : c ∈ x.aU := List.mem_of_getElem? hc
 refine ⟨h.n1, h.n2, h.EG, h.ch, by simpa [Wd.fV] using h.lk, h.buf, h.dU, h.snd, fun d hd v hv => ?_, h.hl, fun q q0 hq => ?_, h.Cw, h.h1, h.out⟩
 ·rcases iW hd with hd | rfl
  ·exact h.lw d hd v hv
  ·exact h.lw c hm v (hr v hv)
 ·have a := h.one q q0 hq
  have b := kT (fun l : Lk => l.waits.count q) x.aU k.toNat c' c hc
  have := hn q
  show bU x.aC q + gr (x.aU.set k.toNat c') q ≤ 1
  unfold gr at *
  omega
theorem Qy (h : WV p x) (hp : cU p) (hg : At x g 1) (hf : f ∈ p.funcs) (hi : jz p f i) (RV : i.op = 18) (hr : x.ready = []) :
  (aW x g ∧ CC x i.a ∧ x.Sm) ∧ gD p g x (.on (x.lock g i)) := by
 have hi' := hi
 obtain ⟨_, _, _, _, _, _, _, _, _, _, _, i18, _⟩ := hi'
 obtain ⟨a0, a1⟩ := i18 (.inl RV)
 have hk : CC x i.a := ⟨a0, by rw [h.lk]; exact a1⟩
 refine ⟨⟨h.aW hg.1 hg.2.1, hk, h.sm hp (by rw [hr]; decide)⟩, ?_⟩
 obtain ⟨c, hc, ec⟩ := RY hk
 have hm := List.mem_of_getElem? hc
 have hfr := hg.free h
 unfold Wd.lock
 rw [ec]
 unfold Lk.take
 split
 ·dsimp only
  rw [if_pos rfl]
  exact ⟨h.GN hc (fun v hv => hv) (fun q => Nat.le_refl _), (gN.refl hr).Ih rfl rfl fun _ _ _ => rfl⟩
 ·dsimp only
  rw [if_neg (by decide)]
  have hb := h.block hg hf hi
  have eg : ae (x.block g i) g = { ae x g with st := 2, wt := i } := gh hg.1 hg.2.1
  refine ⟨?_, ?_⟩
  ·show WV p ((x.block g i).fV i.a ⟨c.owner, c.waits ++ [g]⟩)
   refine ⟨hb.n1, hb.n2, hb.EG, hb.ch, by simpa [Wd.fV] using hb.lk, hb.buf, hb.dU, hb.snd, fun d hd v hv => ?_, hb.hl, fun q q0 hq => ?_, hb.Cw, hb.h1, hb.out⟩
   ·rcases iW hd with hd | rfl
    ·exact hb.lw d hd v hv
    ·rcases List.mem_append.1 hv with hv | hv
     ·exact hb.lw c hm v hv
     ·simp only [List.mem_singleton] at hv; subst hv
      exact ⟨⟨hg.1, by simpa [Wd.fV, Wd.block, Wd.bh] using hg.2.1, by show (ae (x.block v i) v).st = 2; rw [eg]⟩, by show (ae (x.block v i) v).wt.op = 18; rw [eg]; exact RV⟩
   ·have a := hb.one q q0 hq
    have b := kT (fun l : Lk => l.waits.count q) x.aU i.a.toNat ⟨c.owner, c.waits ++ [g]⟩ c hc
    have d := j8 c.waits q g
    show bU x.aC q + gr (x.aU.set i.a.toNat _) q ≤ 1
    have a' : bU x.aC q + gr x.aU q ≤ 1 := a
    by_cases e : q = g
    ·subst e
     have := hfr.wS
     rw [if_pos rfl] at d
     unfold gr at *
     dsimp only at *
     omega
    ·rw [if_neg e] at d
     unfold gr at *
     dsimp only at *
     omega
  ·exact (gN.refl hr).Ih rfl (by simp [Wd.block, Wd.fV, Wd.bh]) fun m m0 hne => by
    show ae (x.bh g _) m = _
    exact qc hg.1 hg.2.1 m0 hne
theorem Kr (h : WV p x) (hp : cU p) (hg : At x g 1) (hi : jz p f i) (h19 : i.op = 19) (hr : x.ready = []) :
  (lX x g i ∧ x.Sm) ∧ gD p g x (x.unlock g i) := by
 have hi' := hi
 obtain ⟨_, _, _, _, _, _, _, _, _, _, _, i18, _⟩ := hi'
 obtain ⟨a0, a1⟩ := i18 (.inr h19)
 have hk : CC x i.a := ⟨a0, by rw [h.lk]; exact a1⟩
 have hs := h.sm hp (by rw [hr]; decide)
 obtain ⟨c, hc, ec⟩ := RY hk
 have hm := List.mem_of_getElem? hc
 have hw := h.lw c hm
 unfold lX Wd.unlock
 rw [ec]
 unfold Lk.qM
 split
 ·refine ⟨⟨⟨hk, fun e => absurd rfl e⟩, hs⟩, ?_⟩
  dsimp only
  rw [if_pos (by decide)]
  have e : x.fV i.a c = x := by unfold Wd.fV; rw [di _ _ _ hc]
  rw [e]
  exact ⟨h, gN.refl hr⟩
 ·obtain ⟨o, ws⟩ := c
  cases ws with
  | nil =>
   refine ⟨⟨⟨hk, fun e => absurd rfl e⟩, hs⟩, ?_⟩
   split
   ·rename_i e; exact absurd rfl e
   ·split
    ·rename_i e; exact absurd rfl e
    ·exact ⟨h.GN (c' := ⟨-1, []⟩) hc (fun v hv => by cases hv) (fun q => by simp), (gN.refl hr).Ih rfl rfl fun _ _ _ => rfl⟩
  | cons w ws =>
   obtain ⟨a, b⟩ := hw w (by simp)
   refine ⟨⟨⟨hk, fun _ => ⟨a.1, a.2.1⟩⟩, hs⟩, ?_⟩
   have hne : w ≠ -1 := by have := a.1; omega
   have hl : WV p (x.fV i.a ⟨w, ws⟩) := h.GN hc (fun v hv => List.mem_cons_of_mem _ hv) (fun q => by simp only [List.count_cons]; omega)
   have hfr : lZ (x.fV i.a ⟨w, ws⟩) w := by
    have o1 := h.one w a.1 (by rw [b]; decide)
    have s := kT (fun l : Lk => l.waits.count w) x.aU i.a.toNat ⟨w, ws⟩ ⟨o, w :: ws⟩ hc
    simp only [List.count_cons, beq_self_eq_true, if_true] at s
    have e1 : gr (x.aU.set i.a.toNat ⟨w, ws⟩) w = 0 := by unfold gr at *; omega
    have e2 : bU x.aC w = 0 := by
     have := y4 (fun l : Lk => l.waits.count w) x.aU ⟨o, w :: ws⟩ hm
     simp only [List.count_cons, beq_self_eq_true, if_true] at this
     unfold gr at *; omega
    refine ⟨ue.1 e2, xe.1 e1, fun y hy e => ?_⟩
    have := (h.hl y hy).2.2
    rw [e, a.2.2] at this
    cases this
   have hres : gD p g x (.on ((x.fV i.a ⟨w, ws⟩).dV w)) := ⟨hl.dV a.1 a.2.1 hfr, gN.of (Wk.trans (Wk.same rfl rfl) (Wk.dV (x := x.fV i.a ⟨w, ws⟩) a.1 a.2.1 (by show (ae x w).st ≠ 1; rw [a.2.2]; decide))) hr hg⟩
   split
   ·rename_i e; exact absurd rfl e
   ·split
    ·exact hres
    ·rename_i e; exact absurd hne e
end
section
variable {p : cj} {x y z : Wd} {g q k n : Int} {f : List dB} {i : dB} {v : Wt}
theorem jS {w : gT} (h0 : 0 ≤ q) (hq : q < x.gs.length) : ae { x with gs := x.gs ++ [w] } q = ae x q := by
 unfold ae
 dsimp only
 rw [List.getD_eq_getElem?_getD, List.getD_eq_getElem?_getD, List.getElem?_append_left (by omega)]
theorem Bo {w : gT} : ae { x with gs := x.gs ++ [w] } (x.gs.length : Int) = w := by
 unfold ae
 dsimp only
 rw [Int.toNat_natCast, List.getD_eq_getElem?_getD, List.getElem?_append_right (Nat.le_refl _)]
 simp
theorem WV.spawn (h : WV p x) (hn : x.gs.length < 100) {w : gT} (hw : nV p w) : WV p { x with gs := x.gs ++ [w] } := by
 have at_ : ∀ q s, At x q s → At { x with gs := x.gs ++ [w] } q s := fun q s ha => ⟨ha.1, by have := ha.2.1; simp; omega, by rw [jS ha.1 ha.2.1]; exact ha.2.2⟩
 refine ⟨by simp, by simp; omega, fun z hz => ?_, h.ch, h.lk, h.buf, fun c hc v hv => ?_, fun c hc v hv => ?_, fun l hl q hq => ?_, fun z hz => at_ _ _ (h.hl z hz), fun q q0 hq => ?_, h.Cw, h.h1, h.out⟩
 ·rcases List.mem_append.1 hz with hz | hz
  ·exact h.EG z hz
  ·simp only [List.mem_singleton] at hz; subst hz; exact hw
 ·obtain ⟨a, b⟩ := h.dU c hc v hv
  rw [jS a.1 a.2.1]
  exact ⟨at_ _ _ a, b⟩
 ·obtain ⟨a, b⟩ := h.snd c hc v hv
  rw [jS a.1 a.2.1]
  exact ⟨at_ _ _ a, b⟩
 ·obtain ⟨a, b⟩ := h.lw l hl q hq
  rw [jS a.1 a.2.1]
  exact ⟨at_ _ _ a, b⟩
 ·by_cases hlt : q < x.gs.length
  ·rw [jS q0 hlt] at hq
   exact h.one q q0 hq
  ·refine h.one q q0 ?_
   unfold ae
   rw [List.getD_eq_getElem?_getD, List.getElem?_eq_none (by omega)]
   decide
theorem ND {w : gT} : Wd.dV { x with gs := x.gs ++ [{ w with st := 0 }] } (x.gs.length : Int) = { x with gs := x.gs ++ [{ w with st := 1 }], ready := x.ready ++ [(x.gs.length : Int)] } := by
 unfold Wd.dV Wd.bh
 rw [Bo]
 simp [List.set_append_right]
theorem NF (h : WV p x) (hp : cU p) (hg : At x g 1) (hi : jz p f i) (h11 : i.op = 11) (hr : x.ready = []) : (aW x g ∧ bx i.b ∧ bx i.c ∧ x.Sm) ∧ gD p g x (x.spawn g i) := by
 obtain ⟨_, _, _, _, _, i9, _⟩ := hi
 obtain ⟨a0, a1, b1, c1⟩ := i9 (.inr h11)
 refine ⟨⟨h.aW hg.1 hg.2.1, b1, c1, h.sm hp (by rw [hr]; decide)⟩, ?_⟩
 unfold Wd.spawn
 split
 ·exact ⟨h, gN.refl hr⟩
 ·rename_i hn
  rw [ND (w := ⟨0, [fM.begin i.a (aZ x g i.b)], .zero⟩)]
  have hw : nV p ⟨1, [fM.begin i.a (aZ x g i.b)], .zero⟩ := ⟨by simp, by simp, fun r hr => by
   simp only [List.mem_singleton] at hr; subst hr
   exact ⟨a0, a1, Int.le_refl 0, (by show (0 : Int) ≤ 64; decide), by show bx 0; decide⟩, (fun e => by cases e), by show (1 : Int) ≤ 1 ∧ (1 : Int) ≤ 4; decide⟩
  have h1 := (h.spawn (by omega) hw).ready (r := x.ready ++ [(x.gs.length : Int)])
  have hlen : g < (x.gs ++ [(⟨1, [fM.begin i.a (aZ x g i.b)], .zero⟩ : gT)]).length := by have := hg.2.1; simp; omega
  refine ⟨h1.bg hg.1 hlen, ?_⟩
  have RW : gN g x { x with gs := x.gs ++ [⟨1, [fM.begin i.a (aZ x g i.b)], .zero⟩], ready := x.ready ++ [(x.gs.length : Int)] } := by
   rw [gN, hr]
   simp only [List.nil_append, List.length_append, List.length_cons, List.length_nil]
   refine ⟨by simp, by have := hg.2.1; simp; omega, fun q hq => ?_, fun q q0 _ hn => ?_, by omega, fun q a b => by simp; omega⟩
   ·simp only [List.mem_singleton] at hq; subst hq
    exact ⟨by omega, by omega, fun ha => by have := ha.2.1; omega, by show (ae { x with gs := x.gs ++ [_] } _).st = 1; rw [Bo]⟩
   ·show ae { x with gs := x.gs ++ [_] } q = ae x q
    by_cases hlt : q < x.gs.length
    ·exact jS q0 hlt
    ·simp only [List.mem_singleton] at hn
     unfold ae
     dsimp only
     rw [List.getD_eq_getElem?_getD, List.getD_eq_getElem?_getD, List.getElem?_eq_none (by simp; omega), List.getElem?_eq_none (by omega)]
  exact RW.bQ hg.1 hlen
theorem Ii (h : WV p x) (hg : At x g 2) (tL : (ae x g).wt.op = 16) (hf : lZ x g) {fa : List Int} {cases : List pS} (hc : ∀ c ∈ cases, c.Ok x.aC.length) (hb : (cases.length : Int) ≤ (ae x g).wt.b) (h32 : cases.length ≤ 32) :
  ∀ j, j ≤ cases.length → WV p { x with aC := dH g fa cases x.aC j } ∧ bU (dH g fa cases x.aC j) g ≤ j
 | 0, _ => ⟨h, by show bU x.aC g ≤ 0; have := hf.wS; omega⟩
 | j + 1, hj => by
  obtain ⟨ih, ic⟩ := Ii h hg tL hf (fa := fa) hc hb h32 j (by omega)
  obtain ⟨c, CW⟩ := aO (l := cases) (i := j) (by omega)
  have ok := hc c (List.mem_of_getElem? CW)
  unfold dH
  rw [CW]
  dsimp only
  unfold jF
  generalize hcs : dH g fa cases x.aC j = cs at ih ic
  have hlen : cs.length = x.aC.length := by
   have a := ih.ch
   have b := h.ch
   dsimp only at a
   omega
  have key : ∀ d : aP, (c.way = 0 ∨ c.way = 1) → dk cs c.ch = d → ∀ d' : aP, d'.buf = d.buf → d'.room = d.room →
    ((∀ v ∈ d'.dU, v ∈ d.dU ∨ v = ⟨g, j, 0⟩) ∧ d'.snd = d.snd ∨ (∀ v ∈ d'.snd, v ∈ d.snd ∨ v = ⟨g, j, fa.getD c.bQ.toNat 0⟩) ∧ d'.dU = d.dU) →
    (∀ q, (cD d').count q ≤ (cD d).count q + (if q = g then 1 else 0)) →
    WV p { x with aC := cs.set c.ch.toNat d' } ∧ bU (cs.set c.ch.toNat d') g ≤ j + 1 := by
   intro d UW hd d' e1 e2 e3 hn
   obtain ⟨k0, k1, _⟩ := ok.2.2 (by rcases UW with e | e <;> rw [e] <;> decide)
   obtain ⟨d2, UE⟩ := aO (l := cs) (i := c.ch.toNat) (by omega)
   have : d2 = d := by rw [← hd]; simp [dk, UE]
   subst this
   have hm : d2 ∈ cs := List.mem_of_getElem? UE
   have X1 := ih.buf d2 hm
   refine ⟨?_, ?_⟩
   ·rcases e3 with ⟨e3, e4⟩ | ⟨e3, e4⟩
    ·exact ih.more (k := c.ch) (w := ⟨g, j, 0⟩) UE (by rw [e1, e2]; exact X1) (fun v hv => by
      rcases e3 v hv with e | e
      ·exact .inl e
      ·exact .inr ⟨e, hg, .inr ⟨tL, by dsimp only; omega, by dsimp only; show (j : Int) < (ae x g).wt.b; omega⟩⟩) (fun v hv => .inl (by rw [← e4]; exact hv)) hn (fun e => absurd tL e) (by show bU cs g < 32; omega)
    ·exact ih.more (k := c.ch) (w := ⟨g, j, fa.getD c.bQ.toNat 0⟩) UE (by rw [e1, e2]; exact X1) (fun v hv => .inl (by rw [← e4]; exact hv)) (fun v hv => by
      rcases e3 v hv with e | e
      ·exact .inl e
      ·exact .inr ⟨e, hg, .inr ⟨tL, by dsimp only; omega, by dsimp only; show (j : Int) < (ae x g).wt.b; omega⟩⟩) hn (fun e => absurd tL e) (by show bU cs g < 32; omega)
   ·have a := kT (fun c : aP => (cD c).count g) cs c.ch.toNat d' d2 UE
    have b := hn g
    rw [if_pos rfl] at b
    unfold bU at *
    omega
  split
  ·rename_i hw
   refine key _ (.inl hw) rfl _ rfl rfl (.inl ⟨fun v hv => ?_, rfl⟩) (fun q => ?_)
   ·rcases List.mem_append.1 hv with hv | hv
    ·exact .inl hv
    ·exact .inr (by simpa using hv)
   ·unfold cD
    rw [List.map_append, ← List.append_assoc]
    exact j8 _ _ _
  ·split
   ·rename_i hw
    refine key _ (.inr hw) rfl _ rfl rfl (.inr ⟨fun v hv => ?_, rfl⟩) (fun q => ?_)
    ·rcases List.mem_append.1 hv with hv | hv
     ·exact .inl hv
     ·exact .inr (by simpa using hv)
    ·unfold cD
     have := j8 ((dk cs c.ch).snd.map Wt.g) q g
     simp only [List.map_append, List.map_cons, List.map_nil, List.count_append] at *
     omega
   ·exact ⟨ih, by omega⟩
end
section
variable {p : cj} {x y z : Wd} {g q k n : Int} {f : List dB} {i : dB} {v : Wt} {d : jf}
theorem nV.Qz {w : gT} (h : nV p w) (zV : w.top.pc + 1 ≤ 64) : nV p (w.bP w.top.next) :=
 h.bP ⟨h.top.1, h.top.2.1, by have := h.top.2.2.1; show 0 ≤ w.top.pc + 1; omega, zV, h.top.2.2.2.2⟩
theorem WV.next (h : WV p x) (hg : At x g 1) (zV : (ae x g).top.pc + 1 ≤ 64) : WV p (x.next g) ∧ At (x.next g) g 1 ∧ (x.next g).gs.length = x.gs.length ∧ (∀ q, 0 ≤ q → q ≠ g → ae (x.next g) q = ae x q) ∧ (ae (x.next g) g).fs.length = (ae x g).fs.length := by
 have hz := (h.jr hg.1 hg.2.1).Qz zV
 have e : ae (x.next g) g = (ae x g).bP (ae x g).top.next := gh hg.1 hg.2.1
 refine ⟨h.bh hg.1 hg.2.1 hz rfl rfl, ⟨hg.1, by simpa [Wd.next, Wd.bh] using hg.2.1, by rw [e]; exact hg.2.2⟩, by simp [Wd.next, Wd.bh], fun q q0 hne => qc hg.1 hg.2.1 q0 hne, by rw [e]; simp [gT.bP]⟩
theorem Bp {c : pS} (h : c ∈ aB p i) : c ∈ p.cases := List.mem_of_mem_drop (List.mem_of_mem_take h)
theorem EK {cases : List pS} {cs : List aP} (h : k ∈ enabled cases cs) : ∃ (j : Nat) (c : pS), k = (j : Int) ∧ j < cases.length ∧ cases[j]? = some c ∧ can cs c = true := by
 unfold enabled BZ at h
 obtain ⟨j, hj, rfl⟩ := List.mem_map.1 h
 obtain ⟨h1, h2⟩ := List.mem_filter.1 hj
 rw [List.mem_range] at h1
 obtain ⟨c, hc⟩ := aO (l := cases) (i := j) (by omega)
 unfold LZ at h2
 rw [hc] at h2
 exact ⟨j, c, rfl, h1, hc, h2⟩
theorem Ks (h : WV p x) (hp : cU p) (hg : At x g 1) (hf : f ∈ p.funcs) (hi : jz p f i) (tL : i.op = 16) (hr : x.ready = []) (zV : (ae x g).top.pc + 1 ≤ 64)
  (hd : ∀ v, d = .num v → enabled (aB p i) x.aC ≠ [] → 0 ≤ v ∧ v < (enabled (aB p i) x.aC).length) :
  lY p x g i d = true ∧ (gD p g x (x.choose p g i d) ∨ ∃ l, d = .cz l ∧ x.choose p g i d = .cz l x) := by
 have hi' := hi
 obtain ⟨_, _, _, _, _, _, _, _, _, i14, i16, _⟩ := hi'
 have hc := i14 (.inr tL)
 obtain ⟨a0, b1, ab⟩ := i16 tL
 have hcs := hp.cs
 have Kb := h.aW hg.1 hg.2.1
 have hs := h.sm hp (by rw [hr]; decide)
 obtain ⟨n1, n2, n3, n4, n5⟩ := h.next hg zV
 have Qd := (h.jr hg.1 hg.2.1).top.2.2.1
 have UJ : (aB p i).length = i.b.toNat := by
  unfold aB
  rw [List.length_take, List.length_drop]; omega
 have UX : ∀ c ∈ aB p i, c.Ok x.aC.length := fun c hc => by rw [h.ch]; exact (hp.cas c (Bp hc)).1
 have hne1 : (x.next g).aC = x.aC := rfl
 have RZ : ∀ k, k ∈ enabled (aB p i) x.aC → yL p x g i k ∧ gD p g x (x.oZ p g i k) := by
  intro k hk
  obtain ⟨j, c, rfl, hj, CW, hcan⟩ := EK hk
  have hm : c ∈ aB p i := List.mem_of_getElem? CW
  have VH := (hp.cas c (Bp hm)).2
  have hok := UX c hm
  have ec : (aB p i).getD (j : Int).toNat ⟨0, 0, 0⟩ = c := by rw [Int.toNat_natCast, List.getD_eq_getElem?_getD, CW]; rfl
  have UW : c.way = 0 ∨ c.way = 1 := by
   unfold can at hcan
   split at hcan
   ·rename_i e; exact .inl e
   ·split at hcan
    ·rename_i e; exact .inr e
    ·cases hcan
  obtain ⟨k0, k1, _⟩ := hok.2.2 (by rcases UW with e | e <;> rw [e] <;> decide)
  have NG : tO (x.next g) c.ch := ⟨k0, k1⟩
  unfold yL Wd.oZ
  rw [ec]
  dsimp only
  by_cases hw : c.way = 1
  ·rw [if_pos hw, if_pos hw]
   obtain ⟨p1, p2⟩ := n1.put (n := aZ (x.next g) g c.bQ) hp NG
   generalize (x.next g).put p c.ch (aZ (x.next g) g c.bQ) = r at p2
   match r, p2 with
   | .dx n y, p2 => exact ⟨⟨by omega, by omega, VH, p1, trivial⟩, p2.1, (gN.of (Wk.same p2.2.1 p2.2.2) hr n2).pre n3 n4⟩
   | .on (y, true), p2 =>
    have ek := p2.2.keep hg.1 n2.2.2
    have el : g < y.gs.length := by rw [p2.2.1, n3]; exact hg.2.1
    exact ⟨⟨by omega, by omega, VH, p1, p2.1.aW hg.1 el, by rw [ek, n5]⟩, p2.1.bg hg.1 el, ((gN.of p2.2 hr n2).pre n3 n4).bQ hg.1 el⟩
   | .on (y, false), p2 =>
    have p3 : y = x.next g := p2
    subst p3
    have el : g < (x.next g).gs.length := by rw [n3]; exact hg.2.1
    exact ⟨⟨by omega, by omega, VH, p1, n1.aW hg.1 el, n5⟩, n1.bg hg.1 el, ((gN.refl (x := x.next g) hr).pre n3 n4).bQ hg.1 el⟩
   | .cz l y, p2 => exact p2.elim
  ·rw [if_neg hw, if_neg hw]
   obtain ⟨p1, p2, p3, _⟩ := n1.get hp NG
   have ek := p3.keep hg.1 n2.2.2
   have el : g < ((x.next g).get c.ch).1.gs.length := by rw [p3.1, n3]; exact hg.2.1
   have r1 := p2.bg (g := g) (q := c.bQ) (n := ((x.next g).get c.ch).2.1) hg.1 el
   exact ⟨⟨by omega, by omega, VH, p1, p2.aW hg.1 el, by rw [ek, n5]⟩, r1.bg hg.1 (by rw [bJ]; exact el), (((gN.of p3 hr n2).pre n3 n4).bQ hg.1 el).bQ hg.1 (by rw [bJ]; exact el)⟩
 refine ⟨?_, ?_⟩
 ·unfold lY
  rw [Bool.and_eq_true]
  refine ⟨decide_eq_true ⟨Kb, ⟨a0, by omega, ab, by omega⟩, hc, hs, by omega, Qd, UX⟩, ?_⟩
  cases d with
  | cz l => rfl
  | num v =>
   dsimp only
   cases he : enabled (aB p i) x.aC with
   | nil => rfl
   | cons q t =>
    rw [List.isEmpty_cons, Bool.false_or]
    obtain ⟨v0, v1⟩ := hd v rfl (by rw [he]; simp)
    rw [he] at v1
    refine decide_eq_true ⟨v0, v1, (RZ _ ?_).1⟩
    rw [he, List.getD_eq_getElem?_getD, List.getElem?_eq_getElem (by omega), Option.getD_some]
    exact List.getElem_mem _
 ·unfold Wd.choose
  split
  ·refine .inl ?_
   unfold Wd.sq
   dsimp only
   split
   ·exact ⟨n1.bg hg.1 (by rw [n3]; exact hg.2.1), ((gN.refl (x := x.next g) hr).pre n3 n4).bQ hg.1 (by rw [n3]; exact hg.2.1)⟩
   ·have hb := n1.block n2 hf hi
    have eg : ae ((x.next g).block g i) g = { ae (x.next g) g with st := 2, wt := i } := gh hg.1 (by rw [n3]; exact hg.2.1)
    have hfr := n2.free n1
    have hw := (Ii (x := (x.next g).block g i) hb ⟨hg.1, by simpa [Wd.block, Wd.bh, n3] using hg.2.1, by rw [eg]⟩ (by rw [eg]; exact tL) hfr (fa := tW (ae (x.next g) g).top) (cases := aB p i) UX (by rw [eg, UJ]; show ((i.b.toNat : Nat) : Int) ≤ i.b; omega) (by omega) (aB p i).length (Nat.le_refl _)).1
    refine ⟨hw, ((gN.refl (x := x.next g) hr).pre n3 n4).Ih rfl (by simp [Wd.block, Wd.bh]) fun m m0 hne => ?_⟩
    show ae ((x.next g).bh g _) m = _
    exact qc hg.1 (by rw [n3]; exact hg.2.1) m0 hne
  ·rename_i hne
   cases d with
   | num v =>
    refine .inl (RZ _ ?_).2
    obtain ⟨v0, v1⟩ := hd v rfl hne
    rw [List.getD_eq_getElem?_getD, List.getElem?_eq_getElem (by omega), Option.getD_some]
    exact List.getElem_mem _
   | cz l => exact .inr ⟨l, rfl, rfl⟩
theorem zc (h : WV p x) (hp : cU p) (h0 : 0 ≤ g) (hd : ∀ v kd n, d = .num v → asks p { x with ready := [] } g = some (kd, n) → 0 ≤ v ∧ v < n) :
  ∃ r rest, o6 p x g d = some (r, rest) ∧ (gD p g { x with ready := [] } r ∧ (vZ { x with ready := [] } g ∨ r = .on { x with ready := [] } ∧ rest = true) ∨ ∃ l, d = .cz l ∧ r = .cz l { x with ready := [] } ∧ rest = false ∧ vZ { x with ready := [] } g ∧ asks p { x with ready := [] } g ≠ none) := by
 have h := h.ready (r := [])
 generalize hx : ({ x with ready := [] } : Wd) = x' at h hd
 have hr : x'.ready = [] := by rw [← hx]
 unfold o6
 rw [hx]
 dsimp only
 split
 ·rename_i NH
  have hg : At x' g 1 := ⟨NH.1, NH.2.1, NH.2.2.2⟩
  have hz := h.jr hg.1 hg.2.1
  obtain ⟨t1, t2, t3, t4, t5⟩ := hz.top
  rw [if_pos ⟨h.aW hg.1 hg.2.1, t1, t3, by omega⟩]
  obtain ⟨code, iF⟩ := aO (l := p.funcs) (i := (ae x' g).top.fn.toNat) (by omega)
  rw [iF]
  dsimp only
  have hf : code ∈ p.funcs := List.mem_of_getElem? iF
  obtain ⟨c1, c2, c3⟩ := hp.code code hf
  cases UY : code[(ae x' g).top.pc.toNat]? with
  | none => exact ⟨_, _, rfl, .inl ⟨⟨h, gN.refl hr⟩, .inl NH⟩⟩
  | some i =>
   dsimp only
   have hi : jz p code i := c3 i (List.mem_of_getElem? UY)
   have hi' := hi
   obtain ⟨o0, o1, o2, o7, o8, o9, o10, o13, o13b, o14, o16, o18, o21⟩ := hi'
   have Yg := (List.getElem?_eq_some_iff.1 UY).1
   have zV : (ae x' g).top.pc + 1 ≤ 64 := by omega
   obtain ⟨n1, n2, n3, n4, n5⟩ := h.next hg zV
   have tU : (x'.next g).ready = [] := hr
   have jq : asks p x' g = if i.op = 21 then some (4, i.b) else if i.op = 16 then (if enabled (aB p i) x'.aC = [] then none else some (3, (enabled (aB p i) x'.aC).length)) else none := by
    unfold asks Ew
    rw [if_pos NH, iF]
    dsimp only
    rw [UY]
   have fin : ∀ {r : Out Wd}, gD p g (x'.next g) r → gD p g x' r := by
    intro r hres
    cases r with
    | on y => exact ⟨hres.1, hres.2.pre n3 n4⟩
    | dx n y => exact ⟨hres.1, hres.2.pre n3 n4⟩
    | cz l y => exact hres.elim
   split
   ·rename_i h8
    try rw [if_pos o2]
    refine ⟨_, _, rfl, .inl ⟨⟨h.bh hg.1 hg.2.1 (hz.bP ?_) rfl rfl, (gN.refl hr).bh hg.1 hg.2.1⟩, .inl NH⟩⟩
    unfold fM.pure
    have base : EF p (ae x' g).top.next := ⟨t1, t2, by show 0 ≤ (ae x' g).top.pc + 1; omega, zV, t5⟩
    split; exact base
    split; exact base.set _ _
    split; exact base.set _ _
    split; exact base.set _ _
    split; exact base.set _ _
    split; exact base.set _ _
    split; exact base.set _ _
    split
    ·rename_i e
     exact ⟨t1, t2, (o7 e).1, by have := (o7 e).2; show i.a ≤ 64; omega, t5⟩
    ·split
     ·have := o8 (by omega)
      exact ⟨t1, t2, this.1, by show i.b ≤ 64; omega, t5⟩
     ·exact base
   ·rename_i h8
    split
    ·rename_i tL
     have hw := Ks (d := d) h hp hg hf hi tL hr zV (fun v hv hne => by
      refine hd v 3 _ hv ?_
      rw [jq, if_neg (by omega), if_pos tL, if_neg hne])
     rw [if_pos hw.1]
     rcases hw.2 with FM | ⟨l, BR, FM⟩
     ·rw [if_pos (FM.lt hg)]
      exact ⟨_, _, rfl, .inl ⟨FM, .inl NH⟩⟩
     ·rw [FM, if_pos (show g < (Out.fin (.cz l x')).gs.length from hg.2.1)]
      refine ⟨_, _, rfl, .inr ⟨l, BR, rfl, rfl, NH, ?_⟩⟩
      rw [jq, if_neg (by omega), if_pos tL]
      split
      ·rename_i e
       unfold Wd.choose at FM
       rw [if_pos e] at FM
       cases FM
      ·simp
    ·rename_i tL
     split
     ·rename_i XA
      rw [if_pos (o10 (.inr (.inr (.inr XA))))]
      cases d with
      | num v =>
       have hl : g < (x'.next g).gs.length := by rw [n3]; exact hg.2.1
       have hres : gD p g x' (x'.rand g i (.num v)) := ⟨n1.bg hg.1 hl, ((gN.refl (x := x'.next g) hr).pre n3 n4).bQ hg.1 hl⟩
       rw [if_pos (hres.lt hg)]
       exact ⟨_, _, rfl, .inl ⟨hres, .inl NH⟩⟩
      | cz l =>
       rw [if_pos (show g < (Out.fin (x'.rand g i (.cz l))).gs.length from hg.2.1)]
       exact ⟨_, _, rfl, .inr ⟨l, rfl, rfl, rfl, NH, by rw [jq, if_pos XA]; simp⟩⟩
     ·rename_i XA
      have go : ∀ r, lq p (x'.next g) g i = some r → gD p g (x'.next g) r → ∃ r rest, (match lq p (x'.next g) g i with
        | none => none
        | some r => if g < r.fin.gs.length then some (r, Gr i.op r) else none) = some (r, rest) ∧ (gD p g x' r ∧ (vZ x' g ∨ r = .on x' ∧ rest = true) ∨ ∃ l, d = .cz l ∧ r = .cz l x' ∧ rest = false ∧ vZ x' g ∧ asks p x' g ≠ none) := by
       intro r Nf hres
       rw [Nf]
       dsimp only
       rw [if_pos (hres.lt n2)]
       exact ⟨_, _, rfl, .inl ⟨fin hres, .inl NH⟩⟩
      have hop : i.op = 9 ∨ i.op = 10 ∨ i.op = 11 ∨ i.op = 12 ∨ i.op = 13 ∨ i.op = 14 ∨ i.op = 15 ∨ i.op = 17 ∨ i.op = 18 ∨ i.op = 19 ∨ i.op = 20 ∨ i.op = 22 := by omega
      rcases hop with e | e | e | e | e | e | e | e | e | e | e | e
      ·have w := Qs n1 n2 hi e tU
       refine go _ ?_ w.2
       unfold lq
       rw [e]; simp only [Int.reduceEq, if_false, if_true]
       rw [if_pos w.1]
      ·have w := Qu n1 n2 hi e tU
       refine go _ ?_ w.2
       unfold lq
       rw [e]; simp only [if_true]
       rw [if_pos w.1]
      ·have w := NF n1 hp n2 hi e tU
       refine go _ ?_ w.2
       unfold lq
       rw [e]; simp only [Int.reduceEq, if_false, if_true]
       rw [if_pos w.1]
      ·refine go (.on (x'.next g)) ?_ ⟨n1, gN.refl tU⟩
       unfold lq
       rw [e]; simp only [Int.reduceEq, if_false, if_true]
      ·have w := Qv n1 hp n2 hf hi e tU
       refine go _ ?_ w.2
       unfold lq
       rw [e]; simp only [Int.reduceEq, if_false, if_true]
       rw [if_pos w.1]
      ·have w := Qw n1 hp n2 hf hi e tU
       refine go _ ?_ w.2
       unfold lq
       rw [e]; simp only [Int.reduceEq, if_false, if_true]
       rw [if_pos w.1]
      ·have w := Qx n1 hp n2 hi e tU
       refine go _ ?_ w.2
       unfold lq
       rw [e]; simp only [Int.reduceEq, if_false, if_true]
       rw [if_pos w.1]
      ·have w := NC n1 hp n2 hi e tU
       refine go _ ?_ w.2
       unfold lq
       rw [e]; simp only [Int.reduceEq, if_false, if_true]
       rw [if_pos w.1]
      ·have w := Qy n1 hp n2 hf hi e tU
       refine go _ ?_ w.2
       unfold lq
       rw [e]; simp only [Int.reduceEq, if_false, if_true]
       rw [if_pos w.1]
      ·have w := Kr n1 hp n2 hi e tU
       refine go _ ?_ w.2
       unfold lq
       rw [e]; simp only [Int.reduceEq, if_false, if_true]
       rw [if_pos w.1]
      ·have w := Qt n1 hp n2 hi e tU
       refine go _ ?_ w.2
       unfold lq
       rw [e]; simp only [Int.reduceEq, if_false, if_true]
       rw [if_pos w.1]
      ·refine go (.dx i.a (x'.next g)) ?_ ⟨n1, gN.refl tU⟩
       unfold lq
       rw [e]; simp only [Int.reduceEq, if_false, if_true]
 ·exact ⟨_, _, rfl, .inl ⟨⟨h, gN.refl hr⟩, .inr ⟨rfl, rfl⟩⟩⟩
theorem CP {w : Wd} {k n : Int} (hp : cU p) (h : asks p w g = some (k, n)) : 1 ≤ n ∧ n < 1099511627776 := by
 unfold asks at h
 split at h
 ·split at h
  ·cases h
  ·rename_i ins hi
   have hio : ∃ f ∈ p.funcs, ins ∈ f := by
    unfold Ew at hi
    split at hi
    ·cases hi
    ·rename_i code hc
     exact ⟨code, List.mem_of_getElem? hc, List.mem_of_getElem? hi⟩
   obtain ⟨f, hf, hm⟩ := hio
   have hok := (hp.code f hf).2.2 ins hm
   split at h
   ·rename_i e
    simp only [Option.some.injEq, Prod.mk.injEq] at h
    have := hok.2.2.2.2.2.2.2.2.2.2.2.2 e
    omega
   ·split at h
    ·split at h
     ·cases h
     ·rename_i hne
      simp only [Option.some.injEq, Prod.mk.injEq] at h
      have h1 : (enabled (aB p ins) w.aC).length ≤ (aB p ins).length := DI _ _ _
      have h2 : (aB p ins).length ≤ p.cases.length := by
       unfold aB
       rw [List.length_take, List.length_drop]; omega
      have := hp.cs
      have h3 : 0 < (enabled (aB p ins) w.aC).length := by
       rcases hl : enabled (aB p ins) w.aC with _ | ⟨q, t⟩
       ·exact absurd hl hne
       ·simp
      omega
    ·cases h
 ·cases h
end
section
variable {p : cj} {x y z : Wd} {g q k n : Int}
theorem Bq : ∀ (l : List Int) (x : Wd), WV p x → l.Nodup → (∀ q ∈ l, 0 ≤ q ∧ q < x.gs.length ∧ (ae x q).st ≠ 1 ∧ lZ x q) → WV p (l.foldl Wd.dV x) ∧ Wk x (l.foldl Wd.dV x) ∧ (l.foldl Wd.dV x).ready = x.ready ++ l
 | [], x, h, _, _ => ⟨h, Wk.refl x, by simp⟩
 | q :: l, x, h, hn, ha => by
  obtain ⟨q0, q1, q2, q3⟩ := ha q (by simp)
  obtain ⟨PT, wq⟩ := List.nodup_cons.1 hn
  obtain ⟨r1, r2, r3⟩ := Bq l (x.dV q) (h.dV q0 q1 q3) wq (fun m hm => by
   obtain ⟨m0, m1, m2, m3⟩ := ha m (List.mem_cons_of_mem _ hm)
   have hne : m ≠ q := fun e => PT (e ▸ hm)
   exact ⟨m0, by rw [me]; exact m1, by rw [qb q0 q1 m0 hne]; exact m2, m3⟩)
  refine ⟨r1, (Wk.dV q0 q1 q2).trans r2, ?_⟩
  rw [List.foldl_cons, r3]
  show (x.ready ++ [q]) ++ l = _
  simp
def HI (x : Wd) : List Int := (dn x.hl.length x.hl (IntKind.wrap .u64 (x.clock + 1))).2.map bq.id
theorem Ij (he : x.end_ = 0) : x.tick = (HI x).foldl Wd.dV { x with clock := IntKind.wrap .u64 (x.clock + 1), hl := (dn x.hl.length x.hl (IntKind.wrap .u64 (x.clock + 1))).1, ready := [] } := by
 unfold Wd.tick
 rw [if_neg (by rw [he]; decide)]
 rfl
theorem Ik (h : WV p x) : (∀ y ∈ (dn x.hl.length x.hl (IntKind.wrap .u64 (x.clock + 1))).2, 0 ≤ y.id ∧ y.id < x.gs.length) ∧ WV p x.tick ∧ Wk { x with ready := [] } x.tick ∧ x.tick.ready.length ≤ 100 := by
 generalize hr : dn x.hl.length x.hl (IntKind.wrap .u64 (x.clock + 1)) = r
 have hp : x.hl.Perm (r.2 ++ r.1) := by rw [← hr]; exact zb _ _ _
 have m2 : ∀ y ∈ r.2, y ∈ x.hl := fun y hy => hp.mem_iff.2 (List.mem_append_left _ hy)
 have m1 : ∀ y ∈ r.1, y ∈ x.hl := fun y hy => hp.mem_iff.2 (List.mem_append_right _ hy)
 have hc : ∀ q, (r.2.map bq.id).count q + (r.1.map bq.id).count q ≤ 1 := fun q => by
  have a := h.h1 q
  unfold CM at a
  rw [(hp.map bq.id).count_eq, List.map_append, List.count_append] at a
  exact a
 refine ⟨fun y hy => ⟨(h.hl y (m2 y hy)).1, (h.hl y (m2 y hy)).2.1⟩, ?_⟩
 by_cases he : x.end_ = 0
 ·rw [Ij he]
  unfold HI
  rw [hr]
  have h1 : WV p { x with clock := IntKind.wrap .u64 (x.clock + 1), hl := r.1, ready := [] } :=
   ⟨h.n1, h.n2, h.EG, h.ch, h.lk, h.buf, h.dU, h.snd, h.lw, fun y hy => h.hl y (m1 y hy), h.one, h.Cw, fun q => by have := hc q; unfold CM; dsimp only; omega, h.out⟩
  have hnd : (r.2.map bq.id).Nodup := List.nodup_iff_count.2 fun q => by have := hc q; omega
  obtain ⟨r1, r2, r3⟩ := Bq (r.2.map bq.id) { x with clock := IntKind.wrap .u64 (x.clock + 1), hl := r.1, ready := [] } h1 hnd (fun q hq => by
   obtain ⟨y, hy, rfl⟩ := List.mem_map.1 hq
   have a := h.hl y (m2 y hy)
   refine ⟨a.1, a.2.1, by show (ae x y.id).st ≠ 1; rw [a.2.2]; decide, fun c VA hg => ?_, fun l hl hg => ?_, fun w hw e => ?_⟩
   ·have := (h.Qq VA hg).1.2.2
    rw [a.2.2] at this; cases this
   ·have := (h.lw l hl _ hg).1.2.2
    rw [a.2.2] at this; cases this
   ·have b := hc y.id
    have c1 : 0 < (r.2.map bq.id).count y.id := List.count_pos_iff.2 hq
    have c2 : 0 < (r.1.map bq.id).count y.id := List.count_pos_iff.2 (List.mem_map.2 ⟨w, hw, e⟩)
    omega)
  refine ⟨r1, Wk.trans (Wk.same rfl rfl) r2, ?_⟩
  rw [r3]
  have a := h.Ib
  have b := hp.length_eq
  simp only [List.length_append, List.length_map, List.nil_append] at *
  omega
 ·have e : x.tick = { x with ready := [] } := by unfold Wd.tick; rw [if_pos he]
  rw [e]
  exact ⟨h.ready, Wk.refl _, by simp⟩
theorem UZ (hp : cU p) : WV p (Wd.new p) := by
 have e : ∀ q, ae (Wd.new p) q = if q.toNat = 0 then ⟨1, [fM.begin 0 0], .zero⟩ else ⟨0, [], .zero⟩ := by
  intro q
  unfold ae Wd.new
  dsimp only
  split
  ·rename_i e; rw [e]; rfl
  ·rename_i e
   rw [List.getD_eq_getElem?_getD, List.getElem?_eq_none (by simp; omega)]; rfl
 have w5 : ∀ c ∈ (Wd.new p).aC, ∃ n, c = aP.new n := fun c hc => by
  obtain ⟨n, _, rfl⟩ := List.mem_map.1 hc
  exact ⟨n, rfl⟩
 have hlk : ∀ l ∈ (Wd.new p).aU, l.waits = [] := fun l hl => by
  have := List.eq_of_mem_replicate hl
  rw [this]
 have z1 : ∀ q, bU (Wd.new p).aC q = 0 := fun q => pF _ _ fun c hc => by
  obtain ⟨n, rfl⟩ := w5 c hc
  rfl
 have z2 : ∀ q, gr (Wd.new p).aU q = 0 := fun q => pF _ _ fun l hl => by rw [hlk l hl]; rfl
 refine ⟨by simp [Wd.new], by simp [Wd.new], fun y hy => ?_, by simp [Wd.new], by (simp [Wd.new]; have := hp.lk.1; omega), fun c hc => ?_, fun c hc v hv => ?_, fun c hc v hv => ?_, fun l hl q hq => ?_, fun y hy => by simp [Wd.new] at hy, fun q _ _ => by rw [z1, z2]; omega, fun q => by rw [z1]; omega, fun q => by simp [CM, Wd.new], by simp [Wd.new]⟩
 ·simp only [Wd.new, List.mem_singleton] at hy
  subst hy
  refine ⟨by simp, by simp, fun r hr => ?_, (fun e => by cases e), by show (1 : Int) ≤ 1 ∧ (1 : Int) ≤ 4; decide⟩
  simp only [List.mem_singleton] at hr; subst hr
  exact ⟨Int.le_refl 0, by have := hp.f1; show (0 : Int) < _; omega, Int.le_refl 0, (by show (0 : Int) ≤ 64; decide), by show bx 0; decide⟩
 ·obtain ⟨n, rfl⟩ := w5 c hc
  exact ⟨Nat.zero_le _, LC n⟩
 ·obtain ⟨n, rfl⟩ := w5 c hc
  cases hv
 ·obtain ⟨n, rfl⟩ := w5 c hc
  cases hv
 ·rw [hlk l hl] at hq; cases hq
end
def js (ps : List c9) (a : Int) : Nat := ((ps.map c9.q).flatMap Loc.all).count a
def zZ (ms : List tZ) (a : Int) : Nat := (ms.flatMap fun m => je m.g).count a
def jt (x : Sc) (a : Int) : Nat := js x.ps a + x.gl.count a + zZ x.ms a
def QA (q : Loc) : Prop := q.l.length ≤ q.room ∧ q.room ≤ 1024 ∧ 0 < q.room
def MV (P : Nat) (m : tZ) : Prop := (m.p = -1 ∧ m.g = -1 ∧ m.left = 0) ∨ (0 ≤ m.p ∧ m.p < P ∧ -1 ≤ m.g ∧ 0 ≤ m.left ∧ m.left ≤ 1024 ∧ (0 ≤ m.g → 1 ≤ m.left))
structure SV (p : cj) (N : Nat) (x : Sc) : Prop where
 w : WV p x.w
 one : ∀ a, At x.w a 1 → jt x a = 1
 zero : ∀ a, ¬ At x.w a 1 → jt x a = 0
 cP : x.c.P = x.ps.length
 cM : x.c.M = x.ms.length
 P1 : 1 ≤ x.ps.length ∧ x.ps.length ≤ 64
 M1 : 1 ≤ x.ms.length ∧ x.ms.length ≤ 64
 cS : 1 ≤ x.c.S ∧ x.c.S ≤ 1024
 room : ∀ pr ∈ x.ps, QA pr.q
 dy : ∀ pr ∈ x.ps, 0 ≤ pr.turns ∧ pr.turns ≤ N
 ms : ∀ m ∈ x.ms, MV x.ps.length m
 eD : ∀ (i : Nat) m, x.ms[i]? = some m → m.p ≠ -1 → (ax x m.p).eD = i
 st : 0 ≤ x.steps ∧ x.steps ≤ N
 tk : x.d.taken.length ≤ 3 * N
 k : x.d.k.Ok
section
variable {p : cj} {N : Nat} {x y z : Sc} {m i g a : Int}
theorem pH {ps : List c9} {j : Nat} {pr RO : c9} (h : ps[j]? = some pr) : js (ps.set j RO) a + pr.q.all.count a = js ps a + RO.q.all.count a := by
 unfold js
 rw [List.map_set]
 exact PV a (by rw [List.getElem?_map, h]; rfl)
theorem zd : ∀ {ms : List tZ} {j : Nat} {mc kV : tZ}, ms[j]? = some mc → zZ (ms.set j kV) a + (je mc.g).count a = zZ ms a + (je kV.g).count a
 | [], _, _, _, h => by simp at h
 | z :: ms, 0, mc, kV, h => by
  simp only [List.getElem?_cons_zero, Option.some.injEq] at h; subst h
  simp only [zZ, List.set_cons_zero, List.flatMap_cons, List.count_append]; omega
 | z :: ms, j + 1, mc, kV, h => by
  have := zd (ms := ms) (kV := kV) (j := j) (by simpa using h)
  simp only [zZ, List.set_cons_succ, List.flatMap_cons, List.count_append] at *; omega
theorem nj {α : Type} (f : α → List Int) : ∀ (l : List α) (b : α), b ∈ l → (f b).count a ≤ (l.flatMap f).count a
 | c :: l, b, h => by
  simp only [List.flatMap_cons, List.count_append]
  rcases List.mem_cons.1 h with rfl | h
  ·omega
  ·have := nj f l b h; omega
theorem SV.le1 (h : SV p N x) : jt x a ≤ 1 := by
 by_cases e : At x.w a 1
 ·rw [h.one a e]; omega
 ·rw [h.zero a e]; omega
theorem SV.at_ (h : SV p N x) (hc : 0 < jt x a) : At x.w a 1 := Classical.byContradiction fun e => by rw [h.zero a e] at hc; omega
theorem SV.R5 (h : SV p N x) : ∀ v ∈ x.gl, 0 ≤ v := fun v hv => (h.at_ (a := v) (by have : 0 < x.gl.count v := List.count_pos_iff.2 hv; unfold jt; omega)).1
theorem SV.NI (h : SV p N x) {pr : c9} (hp : pr ∈ x.ps) : pr.q.Pos := by
 have gz : ∀ v ∈ pr.q.all, 0 ≤ v := fun v hv => (h.at_ (a := v) (by
  have h1 := nj (a := v) Loc.all (x.ps.map c9.q) pr.q (List.mem_map.2 ⟨pr, hp, rfl⟩)
  have : 0 < pr.q.all.count v := List.count_pos_iff.2 hv
  unfold jt js; omega)).1
 refine ⟨?_, fun v hv => gz v (by unfold Loc.all; simp [hv])⟩
 by_cases hn : pr.q.next = -1
 ·omega
 ·have := gz pr.q.next (by unfold Loc.all; rw [if_neg hn]; simp)
  omega
theorem SV.U0 (h : SV p N x) : x.gl.length ≤ 100 := by
 have h1 := nh (b := 1) x.w.gs.length x.gl (fun v hv => by
  have := h.at_ (a := v) (by have : 0 < x.gl.count v := List.count_pos_iff.2 hv; unfold jt; omega)
  exact ⟨this.1, this.2.1⟩) (fun v => by have := h.le1 (a := v); unfold jt at this; omega)
 have := h.w.n2
 omega
theorem SV.mg (h : SV p N x) {mc : tZ} (hm : mc ∈ x.ms) (h0 : 0 ≤ mc.g) : At x.w mc.g 1 := h.at_ (by
 have h1 := nj (a := mc.g) (fun m : tZ => je m.g) x.ms mc hm
 have : (je mc.g).count mc.g = 1 := by rw [ij h0]; simp
 unfold jt zZ; omega)
theorem fY (h0 : 0 ≤ m) (hm : m < x.ms.length) : x.ms[m.toNat]? = some (av x m) := by
 obtain ⟨y, hy⟩ := aO (l := x.ms) (i := m.toNat) (by omega)
 rw [hy]; simp [av, hy]
theorem lz (h0 : 0 ≤ i) (hi : i < x.ps.length) : x.ps[i.toNat]? = some (ax x i) := by
 obtain ⟨y, hy⟩ := aO (l := x.ps) (i := i.toNat) (by omega)
 rw [hy]; simp [ax, hy]
def cF : c9 := ⟨⟨-1, 0, []⟩, 0, -1⟩
theorem SV.go (h : SV p N x) (m0 : 0 ≤ m) (m1 : m < x.ms.length) (i0 : 0 ≤ i) (i1 : i < x.ps.length) (ps' : List c9) (kV : tZ) (CH : List Int) (d' : iO)
  (hl : ps'.length = x.ps.length) (hr : ∀ pr ∈ ps', QA pr.q ∧ 0 ≤ pr.turns ∧ pr.turns ≤ N + 1) (hb : ∀ j : Nat, j ≠ i.toNat → (ps'.getD j cF).eD = (x.ps.getD j cF).eD)
  (hbi : kV.p = -1 ∨ kV.p = i ∧ (ps'.getD i.toNat cF).eD = m) (hold : (av x m).p = i ∨ (ax x i).eD = -1) (ze : MV x.ps.length kV)
  (hc : ∀ a, js ps' a + CH.count a + (je kV.g).count a = js x.ps a + x.gl.count a + (je (av x m).g).count a) (hd : d'.taken.length ≤ 3 * N + 3) (hk : d'.k.Ok) :
  SV p (N + 1) { x with ps := ps', ms := x.ms.set m.toNat kV, gl := CH, d := d' } := by
 have ji := fY m0 m1
 have hS : ∀ a, jt { x with ps := ps', ms := x.ms.set m.toNat kV, gl := CH, d := d' } a = jt x a := fun a => by
  have e1 := zd (a := a) (kV := kV) ji
  have e2 := hc a
  unfold jt
  dsimp only
  omega
 refine ⟨h.w, fun a ha => by rw [hS]; exact h.one a ha, fun a ha => by rw [hS]; exact h.zero a ha, by rw [hl]; exact h.cP, by simpa using h.cM, by rw [hl]; exact h.P1, by simpa using h.M1, h.cS, fun pr hp => (hr pr hp).1, fun pr hp => (by have := (hr pr hp).2; omega), fun mc QB => ?_, fun j mc hj hne => ?_, by have := h.st; dsimp only; omega, by dsimp only; omega, hk⟩
 ·rw [hl]
  rcases iW QB with QB | rfl
  ·exact h.ms mc QB
  ·exact ze
 ·by_cases e : j = m.toNat
  ·subst e
   rw [List.getElem?_set_self (by omega)] at hj
   simp only [Option.some.injEq] at hj
   subst hj
   rcases hbi with hbi | ⟨e1, e2⟩
   ·exact absurd hbi hne
   ·show (ps'.getD kV.p.toNat cF).eD = _
    rw [e1, e2]; omega
  ·rw [List.getElem?_set_ne (Ne.symm e)] at hj
   have hby := h.eD j mc hj hne
   have hmv2 := h.ms mc (List.mem_of_getElem? hj)
   have YK : mc.p.toNat ≠ i.toNat := by
    intro e2
    have e3 : mc.p = i := by rcases hmv2 with hh | hh; exact absurd hh.1 hne; omega
    rw [e3] at hby
    rcases hold with e4 | e4
    ·have := h.eD m.toNat (av x m) ji (by rw [e4]; omega)
     rw [e4, hby] at this
     omega
    ·rw [e4] at hby; omega
   show (ps'.getD mc.p.toNat cF).eD = _
   rw [hb _ YK]
   exact hby
end
section
variable {p : cj} {N : Nat} {x y z : Sc} {m i g a : Int}
theorem QC {q : Loc} (h : ∀ v ∈ q.all, 0 ≤ v) : q.Pos := by
 refine ⟨?_, fun v hv => h v (by unfold Loc.all; simp [hv])⟩
 by_cases hn : q.next = -1
 ·omega
 ·have := h q.next (by unfold Loc.all; rw [if_neg hn]; simp)
  omega
theorem QD {q : Loc} (h : q.Pos) : ∀ v ∈ q.all, 0 ≤ v := by
 intro v hv
 unfold Loc.all at hv
 rcases List.mem_append.1 hv with hv | hv
 ·split at hv
  ·cases hv
  ·simp only [List.mem_singleton] at hv; subst hv; have := h.1; omega
 ·exact h.2 v hv
theorem Il {q : Loc} {t : Int} {gl : List Int} (hq : q.Pos) (hb : QA q) (hg : ∀ v ∈ gl, 0 ≤ v) :
  QA (fJ q t gl).1 ∧ (∀ a, (fJ q t gl).1.all.count a + (fJ q t gl).2.1.count a + (je (fJ q t gl).2.2.1).count a = q.all.count a + gl.count a) ∧
   ((fJ q t gl).2.2.2 = true → 0 ≤ (fJ q t gl).2.2.1) ∧ ((fJ q t gl).2.2.2 = false → (fJ q t gl).2.2.1 = -1) := by
 have c1 := Eh q gl
 have b1 := PW hb gl
 unfold fJ
 generalize q.dy gl = r at c1 b1
 obtain ⟨q1, g1, n1⟩ := r
 dsimp only at c1 b1 ⊢
 have nn : ∀ v, 0 < q.all.count v + gl.count v → 0 ≤ v := fun v hv => by
  by_cases e : v ∈ gl
  ·exact hg v e
  ·rw [List.count_eq_zero.2 e] at hv
   exact QD hq v (List.count_pos_iff.1 (by omega))
 have p1 : q1.Pos := QC fun v hv => nn v (by have : 0 < q1.all.count v := List.count_pos_iff.2 hv; have := c1 v; omega)
 have JZ : ∀ v ∈ g1, 0 ≤ v := fun v hv => nn v (by have : 0 < g1.count v := List.count_pos_iff.2 hv; have := c1 v; omega)
 split
 ·rename_i hh
  cases g1 with
  | nil => simp at hh
  | cons v l =>
   refine ⟨b1, fun a => ?_, fun _ => JZ v (by simp), fun e => by cases e⟩
   have := c1 a
   simp only [List.drop_succ_cons, List.drop_zero, List.headD_cons]
   rw [ij (JZ v (by simp))]
   simp only [List.count_cons, List.count_nil] at *
   omega
 ·split
  ·rename_i hh
   have hgp := HN p1
   have h0 : 0 ≤ q1.get.2 := by
    rcases hgp with ⟨e1, e2, _⟩ | ⟨_, h0⟩
    ·unfold ng at hh
     rw [e1, e2] at hh
     cases hh
    ·exact h0
   refine ⟨MU b1, fun a => ?_, fun _ => h0, fun e => by cases e⟩
   have := c1 a
   have := HM q1 p1 a
   dsimp only
   omega
  ·rename_i hh
   have e1 : q1.next = -1 ∧ q1.l = [] := by
    unfold ng at hh
    simp only [Bool.or_eq_true, bne_iff_ne, ne_eq, Bool.not_eq_true', List.isEmpty_eq_false_iff, not_or, Decidable.not_not] at hh
    exact hh
   have eg : q1.get = (q1, -1) := by
    unfold Loc.get
    rw [if_neg (by rw [e1.1]; decide), e1.2]
   rw [eg]
   dsimp only
   have c2 := JP q1 g1 JZ 0
   refine ⟨MW b1 _ _, fun a => ?_, fun e => ?_, fun e => ?_⟩
   ·have := c1 a
    have := c2 a
    omega
   ·rcases AY (x := q1) JZ 0 with ⟨e2, _⟩ | ⟨_, h0⟩
    ·rw [e2] at e; cases e
    ·exact h0
   ·rcases AY (x := q1) JZ 0 with ⟨_, h0⟩ | ⟨e2, _⟩
    ·exact h0
    ·cases g1 with
     | nil => exact absurd rfl e2
     | cons v l => cases e
theorem SV.mono {N' : Nat} (h : SV p N x) (hn : N ≤ N') : SV p N' x :=
 ⟨h.w, h.one, h.zero, h.cP, h.cM, h.P1, h.M1, h.cS, h.room, fun pr hp => by have := h.dy pr hp; omega, h.ms, h.eD, by have := h.st; omega, by have := h.tk; omega, h.k⟩
theorem SV.inc (h : SV p (N + 1) y) (hs : 0 ≤ y.steps ∧ y.steps ≤ N) : SV p (N + 1) { y with steps := y.steps + 1 } :=
 ⟨h.w, h.one, h.zero, h.cP, h.cM, h.P1, h.M1, h.cS, h.room, h.dy, h.ms, h.eD, by dsimp only; omega, h.tk, h.k⟩
theorem SV.draw {d' : iO} (h : SV p N x) (hd : d'.taken.length ≤ 3 * N + 3) (hk : d'.k.Ok) : SV p (N + 1) { x with d := d' } :=
 ⟨h.w, h.one, h.zero, h.cP, h.cM, h.P1, h.M1, h.cS, h.room, fun pr hp => by have := h.dy pr hp; omega, h.ms, h.eD, by have := h.st; dsimp only; omega, by dsimp only; omega, hk⟩
theorem bB {l : List c9} {n : Nat} {b : c9} (h : n < l.length) : (l.set n b).getD n cF = b := by simp [List.getD_eq_getElem?_getD, List.getElem?_set_self h]
theorem getD_set_ne {l : List c9} {n j : Nat} {b : c9} (h : j ≠ n) : (l.set n b).getD j cF = l.getD j cF := by simp [List.getD_eq_getElem?_getD, List.getElem?_set_ne (Ne.symm h)]
theorem SV.hold {d' : iO} (h : SV p N x) (m0 : 0 ≤ m) (m1 : m < x.ms.length) (hm : (av x m).p = -1) (hd : d'.taken.length ≤ 3 * N + 3) (hk : d'.k.Ok) : SV p (N + 1) (Sc.hold { x with d := d' } m).1 ∧ (Sc.hold { x with d := d' } m).1.steps = x.steps := by
 unfold Sc.hold
 dsimp only
 have ji := fY m0 m1
 split
 ·rename_i n hn
  obtain ⟨hlt, hb, _⟩ := List.findIdx?_eq_some_iff_getElem.1 hn
  have jh := lz (x := x) (i := (n : Int)) (by omega) (by omega)
  rw [Int.toNat_natCast] at jh
  have eb : (ax x (n : Int)).eD = -1 := by
   rw [List.getElem?_eq_getElem hlt, Option.some.injEq] at jh
   rw [← jh]; simpa using hb
  have ze := h.ms _ (List.mem_of_getElem? ji)
  have hg : (av x m).g = -1 ∧ (av x m).left = 0 := by rcases ze with e | e; exact e.2; omega
  refine ⟨?_, rfl⟩
  refine h.go (i := (n : Int)) m0 m1 (by omega) (by omega) (x.ps.set n { ax x (n : Int) with eD := m }) { av x m with p := (n : Int) } x.gl d' (by simp) (fun pr hp => ?_) (fun j hj => ?_) (.inr ⟨rfl, ?_⟩) (.inr eb) (.inr ⟨by dsimp only; omega, by dsimp only; omega, by dsimp only; omega, by dsimp only; omega, by dsimp only; omega, by dsimp only; omega⟩) (fun a => ?_) hd hk
  ·rcases List.mem_or_eq_of_mem_set hp with hp | rfl
   ·exact ⟨h.room pr hp, by have := h.dy pr hp; omega⟩
   ·have hm := List.mem_of_getElem? jh
    exact ⟨h.room (ax x (n : Int)) hm, by have := h.dy _ hm; dsimp only; omega⟩
  ·rw [Int.toNat_natCast] at hj
   rw [getD_set_ne hj]
  ·rw [Int.toNat_natCast, bB hlt]
  ·have := pH (a := a) (RO := { ax x (n : Int) with eD := m }) jh
   dsimp only at *
   omega
 ·exact ⟨h.draw hd hk, rfl⟩
theorem SV.tick {d' : iO} (h : SV p N x) (hd : d'.taken.length ≤ 3 * N + 3) (hk : d'.k.Ok) : yS { x with d := d' } ∧ SV p (N + 1) (Sc.tick { x with d := d' }).1 ∧ (Sc.tick { x with d := d' }).1.steps = x.steps := by
 obtain ⟨t1, t2, t3, t4⟩ := Ik h.w
 have hg := h.U0
 refine ⟨⟨by have := h.w.Ib; dsimp only; omega, t1, by dsimp only; omega⟩, ?_, rfl⟩
 unfold Sc.tick
 dsimp only
 obtain ⟨a1, l, a2, a3, a4, a5⟩ := t3
 rw [List.nil_append] at a2
 rw [a2]
 have hS : ∀ a, jt { x with w := x.w.tick, gl := x.gl ++ l, d := d' } a = jt x a + l.count a := fun a => by
  unfold jt; dsimp only; rw [List.count_append]; omega
 have hA : ∀ a, At x.w.tick a 1 ↔ At x.w a 1 ∨ a ∈ l := fun a => by
  constructor
  ·rintro ⟨b1, b2, b3⟩
   by_cases e : a ∈ l
   ·exact .inr e
   ·refine .inl ⟨b1, by rw [a1] at b2; exact b2, ?_⟩
    rw [a5 a b1 e] at b3; exact b3
  ·rintro (⟨b1, b2, b3⟩ | e)
   ·by_cases e : a ∈ l
    ·exact ⟨b1, by rw [a1]; exact b2, (a4 a e).2.2.2⟩
    ·exact ⟨b1, by rw [a1]; exact b2, by rw [a5 a b1 e]; exact b3⟩
   ·obtain ⟨c1, c2, c3, c4⟩ := a4 a e
    exact ⟨c1, by rw [a1]; exact c2, c4⟩
 have hn : ∀ a, a ∈ l → ¬ At x.w a 1 := fun a e hh => (a4 a e).2.2.1 hh.2.2
 refine ⟨t2, fun a ha => ?_, fun a ha => ?_, h.cP, h.cM, h.P1, h.M1, h.cS, h.room, fun pr hp => by have := h.dy pr hp; omega, h.ms, h.eD, by have := h.st; dsimp only; omega, by dsimp only; omega, hk⟩
 ·rw [hS]
  rcases (hA a).1 ha with e | e
  ·rw [h.one a e, List.count_eq_zero.2 (fun hm => hn a hm e)]
  ·rw [h.zero a (hn a e), Nat.le_antisymm (List.nodup_iff_count.1 a3 a) (List.count_pos_iff.2 e)]
 ·rw [hS, h.zero a (fun e => ha ((hA a).2 (.inl e))), List.count_eq_zero.2 (fun e => ha ((hA a).2 (.inr e)))]
end
section
variable {p : cj} {N : Nat} {x y z : Sc} {m i g a kind : Int}
theorem SV.aT {fA : List c9} {zy : List Int} {dz : iO} {t : Bool} (h : SV p N x) (m0 : 0 ≤ m) (m1 : m < x.ms.length) (hmp : (av x m).p = i) (i0 : 0 ≤ i) (i1 : i < x.ps.length) (hg : (av x m).g = -1)
  (hl : fA.length = x.ps.length) (hr : ∀ pr ∈ fA, QA pr.q ∧ 0 ≤ pr.turns ∧ pr.turns ≤ N) (hb : ∀ j : Nat, (fA.getD j cF).eD = (x.ps.getD j cF).eD)
  (hc : ∀ a, js fA a + zy.count a + (je g).count a = js x.ps a + x.gl.count a) (hok : t = true → 0 ≤ g) (hno : t = false → je g = []) (hd : dz.taken.length ≤ 3 * N + 3) (hk : dz.k.Ok) :
  SV p (N + 1) (Sc.aT { x with ps := fA, gl := zy, d := dz } m i kind g t).1 ∧ (Sc.aT { x with ps := fA, gl := zy, d := dz } m i kind g t).1.steps = x.steps := by
 have ji := fY m0 m1
 have e0 : je (av x m).g = [] := by rw [hg]; rfl
 have YK : fA[i.toNat]? = some (fA.getD i.toNat cF) := by
  rw [List.getD_eq_getElem?_getD, List.getElem?_eq_getElem (by omega)]; rfl
 have hmem := List.mem_of_getElem? YK
 have hby : (x.ps.getD i.toNat cF).eD = m := by
  have := h.eD m.toNat (av x m) ji (by rw [hmp]; omega)
  rw [hmp] at this
  show (ax x i).eD = m
  rw [this]; omega
 have yn : ∀ b : c9, b.q = (fA.getD i.toNat cF).q → ∀ a, js (fA.set i.toNat b) a = js fA a := fun b e a => by
  have := pH (a := a) (RO := b) YK
  rw [e] at this
  omega
 unfold Sc.aT
 cases t with
 | true =>
  rw [if_pos rfl]
  refine ⟨?_, rfl⟩
  have ze := h.ms _ (List.mem_of_getElem? ji)
  refine h.go (i := i) m0 m1 i0 i1 (fA.set i.toNat { fA.getD i.toNat cF with turns := (fA.getD i.toNat cF).turns + 1 }) ⟨(av x m).p, g, x.c.S⟩ zy dz (by simp [hl]) (fun pr hp => ?_) (fun j hj => by rw [getD_set_ne hj]; exact hb j) (.inr ⟨hmp, ?_⟩) (.inl hmp) (.inr ⟨by dsimp only; omega, by dsimp only; omega, by dsimp only; have := hok rfl; omega, by have := h.cS; dsimp only; omega, by have := h.cS; dsimp only; omega, fun _ => by have := h.cS; dsimp only; omega⟩) (fun a => ?_) hd hk
  ·rcases List.mem_or_eq_of_mem_set hp with hp | rfl
   ·have := hr pr hp; exact ⟨this.1, by omega⟩
   ·have := hr _ hmem; exact ⟨this.1, by dsimp only; omega⟩
  ·rw [bB (by omega)]
   exact (hb _).trans hby
  ·rw [yn { fA.getD i.toNat cF with turns := (fA.getD i.toNat cF).turns + 1 } rfl, e0]
   have := hc a
   simp only [List.count_nil]
   omega
 | false =>
  rw [if_neg (by decide)]
  refine ⟨?_, rfl⟩
  refine h.go (i := i) m0 m1 i0 i1 (fA.set i.toNat { fA.getD i.toNat cF with eD := -1 }) ⟨-1, -1, 0⟩ zy dz (by simp [hl]) (fun pr hp => ?_) (fun j hj => by rw [getD_set_ne hj]; exact hb j) (.inl rfl) (.inl hmp) (.inl ⟨rfl, rfl, rfl⟩) (fun a => ?_) hd hk
  ·rcases List.mem_or_eq_of_mem_set hp with hp | rfl
   ·have := hr pr hp; exact ⟨this.1, by omega⟩
   ·have := hr _ hmem; exact ⟨this.1, by dsimp only; omega⟩
  ·rw [yn { fA.getD i.toNat cF with eD := -1 } rfl, e0]
   have := hc a
   rw [hno rfl] at this
   simp only [List.count_nil] at *
   have e1 : je (-1) = [] := rfl
   rw [e1, List.count_nil]
   omega
theorem uh {d : iO} {k n : Int} (hk : d.k.Ok) : (d.draw k n).1.taken.length ≤ d.taken.length + 1 := by
 generalize iU : d.draw k n = r
 obtain ⟨d', o⟩ := r
 cases o with
 | num v =>
  have := (ei hk iU).2.2
  dsimp only
  rw [this]; simp
 | cz l =>
  have := (pE iU).1
  dsimp only
  rw [this]; omega
theorem SV.find {d' : iO} (h : SV p N x) (m0 : 0 ≤ m) (m1 : m < x.ms.length) (hp : (av x m).p ≠ -1) (hg : (av x m).g = -1) (hN : N ≤ 10000000) (hd : d'.taken.length ≤ 3 * N + 1) (hk : d'.k.Ok) :
  vr { x with d := d' } m ∧ SV p (N + 1) (Sc.find { x with d := d' } m).1 ∧ (Sc.find { x with d := d' } m).1.steps = x.steps := by
 have ji := fY m0 m1
 have ze := h.ms _ (List.mem_of_getElem? ji)
 have hr : 0 ≤ (av x m).p ∧ (av x m).p < x.ps.length ∧ 0 ≤ (av x m).left ∧ (av x m).left ≤ 1024 := by
  rcases ze with e | e
  ·exact absurd e.1 hp
  ·omega
 obtain ⟨i0, i1, l0, l1⟩ := hr
 have jh := lz i0 i1
 have R6 := List.mem_of_getElem? jh
 have ht := h.dy _ R6
 have hroom := h.room _ R6
 have hpos := h.NI R6
 have e0 : je (av x m).g = [] := by rw [hg]; rfl
 have hcP := h.cP
 have hP1 := h.P1
 refine ⟨⟨m0, m1, i0, i1, by have := h.U0; dsimp only; omega, ht.1, by have := ht.2; show (ax x (av x m).p).turns < 1000000000; omega, by dsimp only; omega, by dsimp only; omega, by dsimp only; omega⟩, ?_⟩
 have own := Il (t := (ax x (av x m).p).turns) hpos hroom h.R5
 unfold Sc.find
 dsimp only
 have em : av { x with d := d' } m = av x m := rfl
 have ep : ∀ j, ax { x with d := d' } j = ax x j := fun _ => rfl
 rw [em]
 simp only [ep]
 generalize hi : (av x m).p = i at *
 have yn : ∀ b : c9, ∀ a, js (x.ps.set i.toNat b) a + (ax x i).q.all.count a = js x.ps a + b.q.all.count a := fun b a => pH jh
 split
 ·rename_i hn
  refine ⟨?_, rfl⟩
  have hgp := HN hpos
  have h0 : 0 ≤ (ax x i).q.get.2 := by
   rcases hgp with ⟨e1, _⟩ | ⟨_, h0⟩
   ·exact absurd e1 hn.2
   ·exact h0
  have hby : (ax x i).eD = m := by
   have := h.eD m.toNat (av x m) ji (by rw [hi]; omega)
   rw [hi] at this
   rw [this]; omega
  refine h.go (i := i) m0 m1 i0 i1 (x.ps.set i.toNat { ax x i with q := (ax x i).q.get.1 }) ⟨i, (ax x i).q.get.2, (av x m).left⟩ x.gl d' (by simp) (fun pr hp => ?_) (fun j hj => by rw [getD_set_ne hj]) (.inr ⟨rfl, by rw [bB (by omega)]; exact hby⟩) (.inl hi) (.inr ⟨by dsimp only; omega, by dsimp only; omega, by dsimp only; omega, l0, l1, fun _ => by have := hn.1; dsimp only; omega⟩) (fun a => ?_) (by omega) hk
  ·rcases List.mem_or_eq_of_mem_set hp with hp | rfl
   ·exact ⟨h.room pr hp, by have := h.dy pr hp; omega⟩
   ·exact ⟨MU hroom, by dsimp only; omega⟩
  ·have a1 := yn { ax x i with q := (ax x i).q.get.1 } a
   have a2 := HM _ hpos a
   rw [e0]
   simp only [List.count_nil] at *
   try dsimp only at *
   omega
 ·
  have hown : Sc.own { x with d := d' } i = ({ x with ps := x.ps.set i.toNat { ax x i with q := (fJ (ax x i).q (ax x i).turns x.gl).1 }, gl := (fJ (ax x i).q (ax x i).turns x.gl).2.1, d := d' }, (fJ (ax x i).q (ax x i).turns x.gl).2.2.1, (fJ (ax x i).q (ax x i).turns x.gl).2.2.2) := rfl
  rw [hown]
  generalize fJ (ax x i).q (ax x i).turns x.gl = r at own
  obtain ⟨q1, g1, v1, has⟩ := r
  obtain ⟨o1, o2, o3, o4⟩ := own
  dsimp only at o1 o2 o3 o4 ⊢
  have U1 : ∀ pr ∈ x.ps.set i.toNat { ax x i with q := q1 }, QA pr.q ∧ 0 ≤ pr.turns ∧ pr.turns ≤ N := fun pr hp => by
   rcases List.mem_or_eq_of_mem_set hp with hp | rfl
   ·exact ⟨h.room pr hp, h.dy pr hp⟩
   ·exact ⟨o1, ht⟩
  have QE : ∀ j : Nat, ((x.ps.set i.toNat { ax x i with q := q1 }).getD j cF).eD = (x.ps.getD j cF).eD := fun j => by
   by_cases e : j = i.toNat
   ·subst e
    rw [bB (by omega)]
    rfl
   ·rw [getD_set_ne e]
  have XG : ∀ a, js (x.ps.set i.toNat { ax x i with q := q1 }) a + g1.count a + (je v1).count a = js x.ps a + x.gl.count a := fun a => by
   have a1 := yn { ax x i with q := q1 } a
   have a2 := o2 a
   dsimp only at *
   omega
  split
  ·rename_i hh
   have ev1 : je v1 = [] := by rw [o4 hh.1]; rfl
   have BR := uh (k := 2) (n := x.c.P) hk
   have yX := kQ (kind := 2) (n := x.c.P) hk
   split
   ·rename_i d2 l iU
    rw [iU] at BR yX
    refine ⟨?_, rfl⟩
    have : SV p (N + 1) { x with ps := x.ps.set i.toNat { ax x i with q := q1 }, ms := x.ms.set m.toNat (av x m), gl := g1, d := d2 } :=
     h.go (i := i) m0 m1 i0 i1 _ (av x m) g1 d2 (by simp) (fun pr hp => by have := U1 pr hp; exact ⟨this.1, by omega⟩) (fun j hj => QE j) (.inr ⟨hi, by
      rw [QE]
      have := h.eD m.toNat (av x m) ji (by rw [hi]; omega)
      rw [hi] at this
      show (ax x i).eD = m
      rw [this]; omega⟩) (.inl hi) ze (fun a => by have := XG a; rw [ev1] at this; simp only [List.count_nil] at this; exact congrArg (· + (je (av x m).g).count a) this) (by dsimp only at BR; omega) yX
    rw [di _ _ _ ji] at this
    exact this
   ·rename_i d2 v iU
    rw [iU] at BR yX
    have OD := ei hk iU
    have OJ : gn x.c.P = x.c.P := by unfold gn; rw [if_neg (by omega)]
    rw [OJ] at OD
    dsimp only at BR yX ⊢
    split
    ·exact h.aT (g := -1) m0 m1 hi i0 i1 hg (by simp) U1 QE (fun a => by have := XG a; rw [ev1] at this; exact this) (fun e => by cases e) (fun _ => rfl) (by omega) yX
    ·rename_i XO
     have hne : v.toNat ≠ i.toNat := by omega
     have epi : ax { x with ps := x.ps.set i.toNat { ax x i with q := q1 }, gl := g1, d := d2 } i = { ax x i with q := q1 } := bB (by omega)
     have epv : ax { x with ps := x.ps.set i.toNat { ax x i with q := q1 }, gl := g1, d := d2 } v = ax x v := getD_set_ne hne
     have GH := lz (x := x) (i := v) OD.1 (by omega)
     have R7 := List.mem_of_getElem? GH
     have NJ := h.NI R7
     have GO := h.room _ R7
     have hst := JQ q1 (ax x v).q NJ o1.1
     have YL := MX o1 GO
     have hsp := AZ (x := q1) NJ o1.1
     rw [epi, epv]
     dsimp only
     generalize q1.cT (ax x v).q = s at hst YL hsp
     obtain ⟨s1, s2, s3⟩ := s
     dsimp only at hst YL hsp ⊢
     have hz : Sc.bO (Sc.bO { x with ps := x.ps.set i.toNat { ax x i with q := q1 }, gl := g1, d := d2 } i { ax x i with q := s1 }) v { ax x v with q := s2 } = { x with ps := (x.ps.set i.toNat { ax x i with q := s1 }).set v.toNat { ax x v with q := s2 }, gl := g1, d := d2 } := by
      unfold Sc.bO
      dsimp only
      rw [List.set_set]
     rw [hz]
     refine h.aT (g := s3) m0 m1 hi i0 i1 hg (by simp) (fun pr hp => ?_) (fun j => ?_) (fun a => ?_) (fun e => ?_) (fun e => ?_) (by omega) yX
     ·rcases List.mem_or_eq_of_mem_set hp with hp | rfl
      ·rcases List.mem_or_eq_of_mem_set hp with hp | rfl
       ·exact ⟨h.room pr hp, h.dy pr hp⟩
       ·exact ⟨YL.1, ht⟩
      ·exact ⟨YL.2, h.dy (ax x v) R7⟩
     ·by_cases e : j = v.toNat
      ·subst e
       rw [bB (by simp; omega)]
       rfl
      ·rw [getD_set_ne e]
       by_cases e2 : j = i.toNat
       ·subst e2
        rw [bB (by omega)]
        rfl
       ·rw [getD_set_ne e2]
     ·have a1 := yn { ax x i with q := s1 } a
      have a2 := pH (ps := x.ps.set i.toNat { ax x i with q := s1 }) (a := a) (RO := { ax x v with q := s2 }) (j := v.toNat) (pr := ax x v) (by rw [List.getElem?_set_ne (Ne.symm hne)]; exact GH)
      have a3 := hst a
      have a4 := o2 a
      rw [ev1] at a4
      simp only [List.count_nil] at a4
      dsimp only at *
      omega
     ·unfold fz at e
      rcases hsp with ⟨e1, e2⟩ | ⟨_, e2⟩
      ·rw [e1] at e
       have h1 := NJ.1
       simp at e
       omega
      ·exact e2
     ·unfold fz at e
      simp only [Bool.or_eq_false_iff, bne_eq_false_iff_eq] at e
      rw [e.1]; rfl
  ·rename_i hh
   exact h.aT (g := v1) m0 m1 hi i0 i1 hg (by simp) U1 QE XG o3 (fun e => by rw [o4 e]; rfl) (by omega) hk
end
section
variable {p : cj} {N : Nat} {x y z : Sc} {m i g a kind : Int}
theorem vA : ∀ (l : List Int) (z : Sc), 0 ≤ (av z m).p → (av z m).p < z.ps.length → (∀ v ∈ l, 0 ≤ v) → (∀ pr ∈ z.ps, QA pr.q) →
  (∀ a, js (l.foldl (aD m) z).ps a + (l.foldl (aD m) z).gl.count a = js z.ps a + z.gl.count a + l.count a) ∧
  (∀ pr ∈ (l.foldl (aD m) z).ps, QA pr.q) ∧ (∀ j : Nat, ((l.foldl (aD m) z).ps.getD j cF).eD = (z.ps.getD j cF).eD ∧ ((l.foldl (aD m) z).ps.getD j cF).turns = (z.ps.getD j cF).turns)
 | [], z, _, _, _, hr => ⟨fun a => by simp, hr, fun j => ⟨rfl, rfl⟩⟩
 | r :: l, z, h0, h1, hv, hr => by
  have jh := lz (x := z) h0 h1
  have hps : (aD m z r).ps.length = z.ps.length := by simp [aD, Sc.bO]
  have ji : av (aD m z r) m = av z m := rfl
  have X3 := hr _ (List.mem_of_getElem? jh)
  have Nf : ∀ pr ∈ (aD m z r).ps, QA pr.q := fun pr hp => by
   rcases List.mem_or_eq_of_mem_set hp with hp | rfl
   ·exact hr pr hp
   ·exact MT X3 _ _
  obtain ⟨a1, a2, a3⟩ := vA l (aD m z r) (by rw [ji]; exact h0) (by rw [ji, hps]; exact h1) (fun v hm => hv v (List.mem_cons_of_mem _ hm)) Nf
  rw [List.foldl_cons]
  refine ⟨fun a => ?_, a2, fun j => ?_⟩
  ·have b1 := a1 a
   have b2 := JO (ax z (av z m).p).q r (by have := hv r (by simp); omega) z.gl a
   have b3 := pH (a := a) (RO := { ax z (av z m).p with q := ((ax z (av z m).p).q.ready r z.gl).1 }) jh
   have b4 : js (aD m z r).ps a = js (z.ps.set (av z m).p.toNat { ax z (av z m).p with q := ((ax z (av z m).p).q.ready r z.gl).1 }) a := rfl
   have b5 : (aD m z r).gl = ((ax z (av z m).p).q.ready r z.gl).2.1 := rfl
   rw [b4, b5] at b1
   simp only [List.count_cons, List.count_nil] at *
   try dsimp only at *
   omega
  ·obtain ⟨c1, c2⟩ := a3 j
   rw [c1, c2]
   show ((z.ps.set (av z m).p.toNat _).getD j cF).eD = _ ∧ ((z.ps.set (av z m).p.toNat _).getD j cF).turns = _
   by_cases e : j = (av z m).p.toNat
   ·subst e
    rw [bB (by omega)]
    exact ⟨rfl, rfl⟩
   ·rw [getD_set_ne e]
    exact ⟨rfl, rfl⟩
theorem QF {w y : Wd} (hy : WV p y) (h : gN g w y) : y.ready.length ≤ 100 := by
 have h1 := nh (b := 1) y.gs.length y.ready (fun v hv => ⟨(h.2.2.1 v hv).1, (h.2.2.1 v hv).2.1⟩) (fun v => List.nodup_iff_count.1 h.1 v)
 have := hy.n2
 omega
theorem U2 {w y : Wd} (h : gN g w y) (h0 : 0 ≤ g) (hg : g < w.gs.length) : (At y a 1 ↔ (a = g ∧ (ae y g).st = 1) ∨ a ∈ y.ready ∨ (a ≠ g ∧ At w a 1)) := by
 obtain ⟨_, a2, a3, a4, a5, a6⟩ := h
 constructor
 ·rintro ⟨b1, b2, b3⟩
  by_cases e : a = g
  ·exact .inl ⟨e, by rw [← e]; exact b3⟩
  ·by_cases er : a ∈ y.ready
   ·exact .inr (.inl er)
   ·refine .inr (.inr ⟨e, b1, ?_, by rw [← a4 a b1 e er]; exact b3⟩)
    by_cases hl : a < w.gs.length
    ·exact hl
    ·exact absurd (a6 a (by omega) b2) er
 ·rintro (⟨rfl, e⟩ | e | ⟨e, b1, b2, b3⟩)
  ·exact ⟨h0, by omega, e⟩
  ·exact ⟨(a3 a e).1, (a3 a e).2.1, (a3 a e).2.2.2⟩
  ·by_cases er : a ∈ y.ready
   ·exact ⟨(a3 a er).1, (a3 a er).2.1, (a3 a er).2.2.2⟩
   ·exact ⟨b1, by omega, by rw [a4 a b1 e er]; exact b3⟩
theorem SV.en {d' : iO} {y : Wd} {rest : Bool} (h : SV p N x) (m0 : 0 ≤ m) (m1 : m < x.ms.length) (hp : (av x m).p ≠ -1) (hg : 0 ≤ (av x m).g) (hy : WV p y) (hr : gN (av x m).g { x.w with ready := [] } y)
  (hd : d'.taken.length ≤ 3 * N + 3) (hk : d'.k.Ok) {d0 : iO} : ∃ z o, en { x with d := d0 } m (av x m).g d' y rest = some (z, o) ∧ SV p (N + 1) z ∧ z.steps = x.steps := by
 have ji := fY m0 m1
 have QB := List.mem_of_getElem? ji
 have ze := h.ms _ QB
 have EJ := h.mg QB hg
 have hbd : 0 ≤ (av x m).p ∧ (av x m).p < x.ps.length ∧ 1 ≤ (av x m).left ∧ (av x m).left ≤ 1024 := by
  rcases ze with e | e
  ·exact absurd e.1 hp
  ·have := e.2.2.2.2.2 hg; omega
 obtain ⟨i0, i1, l0, l1⟩ := hbd
 have jx := QF hy hr
 have hglt : (av x m).g < y.gs.length := by have := hr.2.2.2.2.1; have := EJ.2.1; dsimp only at *; omega
 unfold Proofs.en
 rw [if_pos ⟨by omega, hglt⟩]
 have f1 := eA (m := m) y.ready { x with w := y, d := d' } i0 i1
 have f2 := vA (m := m) y.ready { x with w := y, d := d' } i0 i1 (fun v hv => (hr.2.2.1 v hv).1) h.room
 (try dsimp only at f1 f2 ⊢)
 generalize List.foldl (aD m) { x with w := y, d := d' } y.ready = z at f1 f2
 obtain ⟨z1, z2, z3, z4, z5, z6, _⟩ := f1
 obtain ⟨c1, c2, c3⟩ := f2
 have X4 := fun a => U2 (a := a) hr hg EJ.2.1
 have R8 : ∀ a, a ∈ y.ready → ¬ At x.w a 1 ∧ a ≠ (av x m).g ∧ y.ready.count a = 1 := fun a ha =>
  ⟨(hr.2.2.1 a ha).2.2.1, fun e => hr.2.1 (e ▸ ha), Nat.le_antisymm (List.nodup_iff_count.1 hr.1 a) (List.count_pos_iff.2 ha)⟩
 have X5 : ∀ pr ∈ z.ps, 0 ≤ pr.turns ∧ pr.turns ≤ N := fun pr jh => by
  obtain ⟨j, hj, e⟩ := List.getElem_of_mem jh
  have e2 : z.ps.getD j cF = pr := by rw [List.getD_eq_getElem?_getD, List.getElem?_eq_getElem hj, e]; rfl
  have I9 : j < x.ps.length := by omega
  have e3 : x.ps.getD j cF = x.ps[j] := by rw [List.getD_eq_getElem?_getD, List.getElem?_eq_getElem I9]; rfl
  have := (c3 j).2
  rw [e2, e3] at this
  rw [this]
  exact h.dy _ (List.getElem_mem I9)
 have done : ∀ (kV : tZ) (CH : List Int), kV.p = (av x m).p → 0 ≤ kV.left → kV.left ≤ 1024 → -1 ≤ kV.g → (0 ≤ kV.g → 1 ≤ kV.left) →
   (∀ a, CH.count a + (je kV.g).count a = z.gl.count a + (if (ae y (av x m).g).st = 1 then [(av x m).g].count a else 0)) →
   SV p (N + 1) { z with ms := z.ms.set m.toNat kV, gl := CH } := by
  intro kV CH e1 e2 e3 e4 e5 e6
  have hS : ∀ a, jt { z with ms := z.ms.set m.toNat kV, gl := CH } a + [(av x m).g].count a = jt x a + y.ready.count a + (if (ae y (av x m).g).st = 1 then [(av x m).g].count a else 0) := fun a => by
   have q1 := zd (a := a) (kV := kV) ji
   have q2 := c1 a
   have q3 := e6 a
   rw [ij hg] at q1
   unfold jt
   (try dsimp only)
   rw [z1]
   (try dsimp only at q2)
   omega
  have hwz : z.w = y := z3
  refine ⟨by (try dsimp only); rw [hwz]; exact hy, fun a ha => ?_, fun a ha => ?_, by (try dsimp only); rw [z5, z2]; exact h.cP, by (try dsimp only); rw [z5, z1]; simpa using h.cM, by (try dsimp only); rw [z2]; exact h.P1, by (try dsimp only); rw [z1]; simpa using h.M1, by (try dsimp only); rw [z5]; exact h.cS, c2, fun pr jh => by have := X5 pr jh; omega, fun mc NK => ?_, fun j mc hj hne => ?_, by have := h.st; (try dsimp only); rw [z6]; (try dsimp only); omega, by (try dsimp only); rw [z4]; (try dsimp only); omega, by (try dsimp only); rw [z4]; exact hk⟩
  ·(try dsimp only at ha)
   rw [hwz] at ha
   have hs := hS a
   rcases (X4 a).1 ha with ⟨e, es⟩ | e | ⟨e, ew⟩
   ·subst e
    have n1 : y.ready.count (av x m).g = 0 := List.count_eq_zero.2 hr.2.1
    have n2 := h.one _ EJ
    rw [if_pos es] at hs
    omega
   ·obtain ⟨w1, w2, w3⟩ := R8 a e
    have n2 := h.zero a w1
    have n3 : [(av x m).g].count a = 0 := List.count_eq_zero.2 (by simpa using w2)
    rw [n3] at hs
    have : (if (ae y (av x m).g).st = 1 then 0 else 0) = 0 := by split <;> rfl
    omega
   ·have n3 : [(av x m).g].count a = 0 := List.count_eq_zero.2 (by simpa using e)
    have n2 := h.one a ew
    have n1 : y.ready.count a = 0 := List.count_eq_zero.2 (fun e2 => (R8 a e2).1 ew)
    rw [n3] at hs
    have : (if (ae y (av x m).g).st = 1 then 0 else 0) = 0 := by split <;> rfl
    omega
  ·(try dsimp only at ha)
   rw [hwz] at ha
   have hs := hS a
   have hn := fun e => ha ((X4 a).2 e)
   by_cases e : a = (av x m).g
   ·subst e
    have n1 : y.ready.count (av x m).g = 0 := List.count_eq_zero.2 hr.2.1
    have n2 := h.one _ EJ
    have n3 : [(av x m).g].count (av x m).g = 1 := by simp
    rw [if_neg (fun es => hn (.inl ⟨rfl, es⟩))] at hs
    omega
   ·have n3 : [(av x m).g].count a = 0 := List.count_eq_zero.2 (by simpa using e)
    have n2 := h.zero a (fun ew => hn (.inr (.inr ⟨e, ew⟩)))
    have n1 : y.ready.count a = 0 := List.count_eq_zero.2 (fun e2 => hn (.inr (.inl e2)))
    rw [n3] at hs
    have : (if (ae y (av x m).g).st = 1 then 0 else 0) = 0 := by split <;> rfl
    omega
  ·(try dsimp only at NK ⊢)
   rw [z2]
   rw [z1] at NK
   rcases iW NK with NK | rfl
   ·exact h.ms mc NK
   ·exact .inr ⟨by omega, by (try dsimp only); omega, e4, e2, e3, e5⟩
  ·(try dsimp only at hj)
   rw [z1] at hj
   show (z.ps.getD mc.p.toNat cF).eD = _
   rw [(c3 _).1]
   by_cases e : j = m.toNat
   ·subst e
    rw [List.getElem?_set_self (by (try dsimp only); omega)] at hj
    simp only [Option.some.injEq] at hj
    subst hj
    rw [e1]
    exact h.eD m.toNat _ ji hp
   ·rw [List.getElem?_set_ne (Ne.symm e)] at hj
    exact h.eD j mc hj hne
 have hzm : av z m = av x m := by unfold av; rw [z1]
 have hzs : z.steps = x.steps := z6
 unfold Sc.fW
 rw [hzm]
 split
 ·rename_i hkp
  refine ⟨_, _, rfl, ?_, hzs⟩
  have hst : (ae y (av x m).g).st = 1 := by
   have := hkp.1
   unfold gJ at this
   simp only [Bool.and_eq_true, beq_iff_eq] at this
   exact this.2
  exact done { av x m with left := (av x m).left - 1 } z.gl rfl (by (try dsimp only); omega) (by (try dsimp only); omega) (by (try dsimp only); omega) (fun _ => by (try dsimp only); omega) (fun a => by rw [if_pos hst]; (try dsimp only); rw [ij hg])
 ·refine ⟨_, _, rfl, ?_, hzs⟩
  refine done { av x m with left := (av x m).left - 1, g := -1 } _ rfl (by (try dsimp only); omega) (by (try dsimp only); omega) (by (try dsimp only); omega) (fun e => by (try dsimp only at e); omega) (fun a => ?_)
  have e1 : je (-1) = [] := rfl
  (try dsimp only)
  rw [e1, z3]
  split
  ·rw [List.count_append]; simp
  ·simp
end
section
variable {p : cj} {N : Nat} {x y z : Sc} {m i g a kind : Int}
theorem SV.NL (h : SV p N x) {r : List Int} {d' : iO} (hd : d'.taken.length ≤ 3 * N + 3) (hk : d'.k.Ok) : SV p (N + 1) { x with w := { x.w with ready := r }, d := d' } :=
 ⟨h.w.ready, h.one, h.zero, h.cP, h.cM, h.P1, h.M1, h.cS, h.room, fun pr hp => by have := h.dy pr hp; omega, h.ms, h.eD, by have := h.st; dsimp only; omega, by dsimp only; omega, hk⟩
theorem SV.run {d' : iO} (h : SV p N x) (hp : cU p) (m0 : 0 ≤ m) (m1 : m < x.ms.length) (hmp : (av x m).p ≠ -1) (hg : (av x m).g ≠ -1) (hN : N ≤ 1000000) (hd : d'.taken.length ≤ 3 * N + 1) (hk : d'.k.Ok) :
  ∃ z o, Sc.run p { x with d := d' } m = some (z, o) ∧ SV p (N + 1) z ∧ z.steps = x.steps := by
 have ji := fY m0 m1
 have QB := List.mem_of_getElem? ji
 have ze := h.ms _ QB
 have hbd : 0 ≤ (av x m).p ∧ (av x m).p < x.ps.length ∧ 0 ≤ (av x m).g ∧ 1 ≤ (av x m).left ∧ (av x m).left ≤ 1024 := by
  rcases ze with e | e
  ·exact absurd e.1 hmp
  ·have := e.2.2.2.2.2; omega
 obtain ⟨i0, i1, g0, l0, l1⟩ := hbd
 have EJ := h.mg QB g0
 unfold Sc.run
 have em : av { x with d := d' } m = av x m := rfl
 rw [em]
 rw [if_pos (show vt p { x with d := d' } m from ⟨m0, m1, i0, i1, by have := h.U0; dsimp only; omega, by dsimp only; omega, l0, by show (av x m).left < 1000000000; omega, g0⟩)]
 dsimp only
 generalize jq : asks p { x.w with ready := [] } (av x m).g = ak
 have hbk : ∀ k n, ak = some (k, n) → 1 ≤ n ∧ n < 1099511627776 := fun k n e => CP hp (by rw [jq]; exact e)
 rw [if_pos (show RU ak = true from by
  cases ak with
  | none => rfl
  | some kn => obtain ⟨k, n⟩ := kn; have := hbk k n rfl; exact decide_eq_true (by omega))]
 have yH : ∀ d2 dr, cZ d' ak = (d2, dr) → d2.k.Ok ∧ d2.taken.length ≤ 3 * N + 2 ∧ (∀ v kd n, dr = .num v → ak = some (kd, n) → 0 ≤ v ∧ v < n) := by
  intro d2 dr e
  cases ak with
  | none =>
   unfold cZ at e
   cases e
   exact ⟨hk, by omega, fun v kd n _ e => by cases e⟩
  | some kn =>
   obtain ⟨k, n⟩ := kn
   unfold cZ at e
   dsimp only at e
   have a1 := kQ (kind := k) (n := n) hk
   have a2 := uh (k := k) (n := n) hk
   rw [e] at a1 a2
   dsimp only at a1 a2
   refine ⟨a1, by omega, fun v kd n' e1 e2 => ?_⟩
   subst e1
   cases e2
   have := ei hk e
   have hb := hbk _ _ rfl
   rw [show gn n = n from by unfold gn; rw [if_neg (by omega)]] at this
   exact ⟨this.1, this.2.1⟩
 generalize iU : cZ d' ak = dd at yH
 obtain ⟨d2, dr⟩ := dd
 obtain ⟨k2, t2, v2⟩ := yH d2 dr rfl
 dsimp only
 obtain ⟨r, rest, hex, hres⟩ := zc (d := dr) h.w hp g0 (fun v kd n e1 e2 => v2 v kd n e1 (by rw [← jq]; exact e2))
 rw [hex]
 rcases hres with ⟨hres, _⟩ | ⟨l, e1, e2, _⟩
 ·cases r with
  | on y => exact h.en m0 m1 hmp g0 hres.1 hres.2 (by omega) k2
  | dx n y => exact h.en (y := { y with end_ := 2, code := n }) m0 m1 hmp g0 (hres.1.fin (e := 2) (c := n)) (hres.2.Ih rfl rfl fun _ _ _ => rfl) (by omega) k2
  | cz l y => exact hres.elim
 ·subst e2
  exact ⟨_, _, rfl, h.NL (by omega) k2, rfl⟩
theorem SV.step (h : SV p N x) (hp : cU p) (hN : N ≤ 1000000) : ∃ y o, x.step p = some (y, o) ∧ SV p (N + 1) y := by
 have hst := h.st
 have OB := h.tk
 have hM := h.cM
 have U3 := h.M1
 have hP1 := h.P1
 unfold Sc.step
 rw [if_pos (show uc x from ⟨by have := h.w.n2; omega, hM, by omega, by omega, by omega, hst.1, by omega⟩)]
 split
 ·exact ⟨_, _, rfl, h.mono (by omega)⟩
 ·rename_i hs
  have BR := uh (k := 1) (n := x.c.M + 1) h.k
  have yX := kQ (kind := 1) (n := x.c.M + 1) h.k
  split
  ·rename_i d' l iU
   rw [iU] at BR yX
   dsimp only at BR yX
   exact ⟨_, _, rfl, h.draw (by omega) yX⟩
  ·rename_i d' m iU
   rw [iU] at BR yX
   dsimp only at BR yX
   have hv := ei h.k iU
   rw [show gn (x.c.M + 1) = x.c.M + 1 from by unfold gn; rw [if_neg (by omega)]] at hv
   obtain ⟨m0, mM, _⟩ := hv
   have fin : ∀ z o, SV p (N + 1) z → z.steps = x.steps → ∃ y o', Option.map gL (some (z, o)) = some (y, o') ∧ SV p (N + 1) y := fun z o hz hzs => by
    cases o with
    | ev e => exact ⟨_, _, rfl, hz.inc (by rw [hzs]; exact hst)⟩
    | cz l => exact ⟨_, _, rfl, hz⟩
   unfold Sc.act
   dsimp only
   split
   ·obtain ⟨t1, t2, t3⟩ := h.tick (d' := d') (by omega) yX
    rw [if_pos t1]
    exact fin _ _ t2 t3
   ·rename_i hmM
    have m1 : m < x.ms.length := by omega
    have em : av { x with d := d' } m = av x m := rfl
    rw [em]
    split
    ·rename_i hmp
     obtain ⟨t2, t3⟩ := h.hold (d' := d') m0 m1 hmp (by omega) yX
     exact fin _ _ t2 t3
    ·rename_i hmp
     split
     ·rename_i OE
      obtain ⟨t1, t2, t3⟩ := h.find (d' := d') m0 m1 hmp OE (by omega) (by omega) yX
      rw [if_pos t1]
      exact fin _ _ t2 t3
     ·rename_i OE
      obtain ⟨z, o, t1, t2, t3⟩ := h.run (d' := d') hp m0 m1 hmp OE hN (by omega) yX
      rw [t1]
      exact fin _ _ t2 t3
theorem SV.new {c : Kf} {d : iO} (hp : cU p) (hP : 1 ≤ c.P ∧ c.P ≤ 64) (hM : 1 ≤ c.M ∧ c.M ≤ 64) (hS : 1 ≤ c.S ∧ c.S ≤ 1024) (hd : d.taken = []) (hk : d.k.Ok) : SV p 0 (Sc.new p c d) := by
 have hw := UZ hp
 have hA : ∀ a, At (Wd.new p) a 1 ↔ a = 0 := fun a => by
  constructor
  ·rintro ⟨b1, b2, _⟩
   simp [Wd.new] at b2
   omega
  ·rintro rfl
   exact ⟨by decide, by simp [Wd.new], rfl⟩
 have hQ : ∀ a, js (List.replicate c.P.toNat ⟨⟨-1, fy c.R, []⟩, 0, -1⟩) a = 0 := fun a => by
  unfold js
  rw [List.count_eq_zero]
  intro hm
  obtain ⟨q, hq, h2⟩ := List.mem_flatMap.1 hm
  obtain ⟨pr, jh, rfl⟩ := List.mem_map.1 hq
  rw [List.eq_of_mem_replicate jh] at h2
  simp [Loc.all] at h2
 have hMm : ∀ a, zZ (List.replicate c.M.toNat ⟨-1, -1, 0⟩) a = 0 := fun a => by
  unfold zZ
  rw [List.count_eq_zero]
  intro hm
  obtain ⟨q, hq, h2⟩ := List.mem_flatMap.1 hm
  rw [List.eq_of_mem_replicate hq] at h2
  simp [je] at h2
 have hC : ∀ a, jt (Sc.new p c d) a = [(0 : Int)].count a := fun a => by
  unfold jt Sc.new
  dsimp only
  rw [hQ, hMm]; omega
 have cap := HJ c.R
 refine ⟨hw, fun a ha => ?_, fun a ha => ?_, by simp [Sc.new]; omega, by simp [Sc.new]; omega, by simp [Sc.new]; omega, by simp [Sc.new]; omega, hS, fun pr jh => ?_, fun pr jh => ?_, fun mc ji => ?_, fun j mc hj hne => ?_, by simp [Sc.new], by simp [Sc.new, hd], hk⟩
 ·rw [hC, (hA a).1 ha]; rfl
 ·rw [hC]
  exact List.count_eq_zero.2 (fun e => ha ((hA a).2 (by simpa using e)))
 ·rw [List.eq_of_mem_replicate jh]
  exact ⟨by simp, cap.2, cap.1⟩
 ·rw [List.eq_of_mem_replicate jh]
  simp
 ·rw [List.eq_of_mem_replicate ji]
  exact .inl ⟨rfl, rfl, rfl⟩
 ·have := List.eq_of_mem_replicate (List.mem_of_getElem? hj)
  rw [this] at hne
  exact absurd rfl hne
end
theorem NM : bu Tryz.prog 248 4 1 1 [.bool false] := bu.mk' (zv := .bool false) (by kernel_rfl) (by kernel_rfl) rfl (by omega)
section
variable {R : Mem} {L L' : List HP} {M : Mem} {K : Value → Mem → Prop} {Kp : List PanicEntry → Mem → Prop}
theorem EL {B : Option Addr} {n c : Nat} {x : Int} {l : List (Int × Int)} (h : Hp R L M) (hB : Src R L B (Ez.cells l)) (hn : n = l.length) (hs : l.length ≤ 1000000) (hx : x ≤ 1000000) (hp : ∀ r ∈ l, 0 ≤ r.2)
  (k : ∀ M', Hp R L M' → K (.int .i64 (nC x.toNat l)) M') : aa Tryz.prog 75 #[.slice B n c, .int .i64 x] M K Kp := by
 subst hn
 refine yh ?_
 have e0 : (if (0 : Int) > x then 0 else x) = ((x.toNat : Nat) : Int) := by split <;> omega
 rw [e0]
 have hm : x.toNat ≤ 1000000 := by omega
 generalize x.toNat = m at *
 refine h.BP (E := bI) (a := 0) xT (by omega) ?_
 clear h
 intro kl M h
 repeat (first|(refine aj h ?_;clear h;intro kb M h)|(refine aq h ?_;clear h;intro M h)|refine St.to h ?_|(apply Exists.intro;(repeat apply Exists.intro);refine And.intro rfl ?_)|refine au ?_|refine af ?_|refine ai ?_)
 rw [MH] at h
 refine ⟨fun d vs M => ∃ i : Nat, vs = [.int .i64 (i : Int)] ∧ d = m - i ∧ i ≤ m ∧ Hp R (cv bI 3 (some ⟨kl, 0, none⟩) m ((List.range m).map fun j => if j < i then -1 else 0) :: L) M,
  ⟨_, 0, rfl, rfl, by omega, by simpa using h⟩, ?_⟩
 clear h
 rintro d _ ii M ⟨i, he, hd, hi, h⟩
 simp only [List.cons.injEq, Value.int.injEq, and_true, true_and] at he
 subst he
 refine aJ.2 ⟨fun hlt => ?_, fun hge => ?_⟩
 ·repeat (first|(refine aj h ?_;clear h;intro kb M h)|(refine aq h ?_;clear h;intro M h)|refine St.to h ?_|(apply Exists.intro;(repeat apply Exists.intro);refine And.intro rfl ?_)|refine au ?_|refine af ?_|refine ai ?_)
  refine gp (a' := -1) i 0 h (vV (by omega)) (by decide) rfl (by simp [bI]) ?_
  clear h; intro M h
  rw [aS (by omega)]
  refine ⟨m - (i + 1), by omega, i + 1, rfl, rfl, by omega, ?_⟩
  rw [Cl, tG (g := fun j => if j < i + 1 then -1 else 0)] at h
  ·exact h
  ·intro j _
   by_cases h1 : j = i
   ·subst h1; simp
   ·simp only [h1, if_false]
    by_cases h2 : j < i
    ·rw [if_pos h2, if_pos (by omega)]
    ·rw [if_neg h2, if_neg (by omega)]
 obtain rfl : i = m := by omega
 rw [tG (g := fun _ => -1) (fun j hj => by simp [hj])] at h
 refine h.BP (E := Dz) (a := false) NM (by omega) ?_
 clear h
 intro ks M h
 repeat (first|(refine aj h ?_;clear h;intro kb M h)|(refine aq h ?_;clear h;intro M h)|refine St.to h ?_|(apply Exists.intro;(repeat apply Exists.intro);refine And.intro rfl ?_)|refine au ?_|refine af ?_|refine ai ?_)
 rw [MH] at h
 refine ⟨fun d vs M => ∃ j : Nat, vs = [.int .i64 (eG i (l.take j)).at_, .int .i64 (eG i (l.take j)).out, .int .i64 (j : Int)] ∧ d = l.length - j ∧ j ≤ l.length ∧
   Hp R (cv Dz 4 (some ⟨ks, 0, none⟩) i ((List.range i).map (eG i (l.take j)).seen) :: cv bI 3 (some ⟨kl, 0, none⟩) i ((List.range i).map (eG i (l.take j)).last) :: L) M,
  ⟨_, 0, rfl, rfl, by omega, h⟩, ?_⟩
 clear h
 rintro d _ w1 w2 jj M ⟨j, he, hd, hj, h⟩
 simp only [List.cons.injEq, Value.int.injEq, and_true, true_and] at he
 obtain ⟨rfl, rfl, rfl⟩ := he
 have ok := pP i (l.take j)
 have X6 : (l.take j).length ≤ l.length := by rw [List.length_take]; omega
 refine aJ.2 ⟨fun hlt => ?_, fun hge => ?_⟩
 ·obtain ⟨r, hr⟩ := aO (l := l) (i := j) (by omega)
  have Qj := hp r (List.mem_of_getElem? hr)
  have hstep : eG i (l.take (j + 1)) = c6 i (eG i (l.take j)) r := by rw [cV hr, lM]
  obtain ⟨rk, rn⟩ := r
  dsimp only at Qj
  obtain ⟨q, rfl⟩ := Int.eq_ofNat_of_zero_le Qj
  obtain ⟨b, o, rfl⟩ := hB.cons.cons.kD h (by omega) (by decide)
  generalize hS : eG i (l.take j) = s at *
  obtain ⟨b1, b2, b3, b4, b5⟩ := ok
  repeat (first|(refine aj h ?_;clear h;intro kb M h)|(refine aq h ?_;clear h;intro M h)|refine St.to h ?_|(apply Exists.intro;(repeat apply Exists.intro);refine And.intro rfl ?_)|refine au ?_|refine af ?_|refine ai ?_)
  simp only [Int.toNat_natCast]
  refine bn (hB.cons.cons.at h (j := 0) hr rfl (by simp [Ez])) ?_
  refine bn (hB.cons.cons.at h (j := 1) hr rfl (by simp [Ez]; omega)) ?_
  repeat (first|(refine aj h ?_;clear h;intro kb M h)|(refine aq h ?_;clear h;intro M h)|refine St.to h ?_|(apply Exists.intro;(repeat apply Exists.intro);refine And.intro rfl ?_)|refine au ?_|refine af ?_|refine ai ?_)
  rw [aS (by omega), eJ (n := s.at_ + 1) (by omega) (by omega)]
  refine eu.2 ⟨fun hne => ?_, fun NG => ?_⟩
  ·have es : c6 i s (rk, (q : Int)) = s := by unfold c6; rw [if_neg hne]
   refine ⟨l.length - (j + 1), by omega, j + 1, by rw [hstep, es], rfl, by omega, ?_⟩
   rw [hstep, es]; exact h.mJ
  ·repeat (first|(refine aj h ?_;clear h;intro kb M h)|(refine aq h ?_;clear h;intro M h)|refine St.to h ?_|(apply Exists.intro;(repeat apply Exists.intro);refine And.intro rfl ?_)|refine au ?_|refine af ?_|refine ai ?_)
   have e_u : IntKind.wrap .u64 ((i : Nat) : Int) = (i : Int) := by rw [IntKind.wrap_u64]; omega
   rw [e_u]
   refine aJ.2 ⟨fun hri => ?_, fun hri => ?_⟩
   ·have RT : q < i := by omega
    have HF := b3 q
    have s1 := h.src (A := some ⟨kl, 0, none⟩)
    repeat (first|(refine aj h ?_;clear h;intro kb M h)|(refine aq h ?_;clear h;intro M h)|refine St.to h ?_|(apply Exists.intro;(repeat apply Exists.intro);refine And.intro rfl ?_)|refine au ?_|refine af ?_|refine ai ?_)
    simp only [Int.toNat_natCast]
    refine bn (s1.at h (j := 0) (vV RT) rfl (by simp [bI])) ?_
    repeat (first|(refine aj h ?_;clear h;intro kb M h)|(refine aq h ?_;clear h;intro M h)|refine St.to h ?_|(apply Exists.intro;(repeat apply Exists.intro);refine And.intro rfl ?_)|refine au ?_|refine af ?_|refine ai ?_)
    refine gp (a' := s.at_) q 0 h (vV RT) (by decide) rfl (by simp [bI]) ?_
    clear h; intro M h
    repeat (first|(refine aj h ?_;clear h;intro kb M h)|(refine aq h ?_;clear h;intro M h)|refine St.to h ?_|(apply Exists.intro;(repeat apply Exists.intro);refine And.intro rfl ?_)|refine au ?_|refine af ?_|refine ai ?_)
    refine gp (a' := true) q 0 h (vV RT) (by decide) rfl (by simp [Dz]) ?_
    clear h; intro M h
    repeat (first|(refine aj h ?_;clear h;intro kb M h)|(refine aq h ?_;clear h;intro M h)|refine St.to h ?_|(apply Exists.intro;(repeat apply Exists.intro);refine And.intro rfl ?_)|refine au ?_|refine af ?_|refine ai ?_)
    rw [eJ (n := s.at_ - s.last q) (by omega) (by omega)]
    have es : c6 i s (rk, (q : Int)) = ⟨fun j => if j = q then s.at_ else s.last j, fun j => if j = q then true else s.seen j, s.at_ + 1, if s.at_ - s.last q > s.out then s.at_ - s.last q else s.out⟩ := by
     unfold c6; rw [if_pos NG, if_pos hri]; simp
    rw [Cl, Cl] at h
    refine ⟨l.length - (j + 1), by omega, j + 1, by rw [hstep, es], rfl, by omega, ?_⟩
    rw [hstep, es]; exact h.sub bM
   ·have es : c6 i s (rk, (q : Int)) = ⟨s.last, s.seen, s.at_ + 1, s.out⟩ := by unfold c6; rw [if_pos NG, if_neg hri]
    refine ⟨l.length - (j + 1), by omega, j + 1, by rw [hstep, es], rfl, by omega, ?_⟩
    rw [hstep, es]; exact h.mJ
 ·have hjn : l.take j = l := List.take_of_length_le (by omega)
  have hres : nC i l = if wall (eG i l) i then hO (eG i l) i else 0 := rfl
  rw [hjn] at ok h X6 ⊢
  generalize eG i l = s at *
  obtain ⟨b1, b2, b3, b4, b5⟩ := ok
  have bw : ∀ t, hO s t ≤ l.length + 1 := fun t => kG.2 ⟨by omega, fun j _ => by have := b3 j; omega⟩
  refine ⟨fun d vs M => ∃ t : Nat, vs = [.int .i64 (hO s t), .int .i64 (t : Int)] ∧ d = i - t ∧ t ≤ i ∧ wall s t = true ∧
    Hp R (cv Dz 4 (some ⟨ks, 0, none⟩) i ((List.range i).map s.seen) :: cv bI 3 (some ⟨kl, 0, none⟩) i ((List.range i).map s.last) :: L) M, ⟨_, 0, rfl, rfl, by omega, rfl, h⟩, ?_⟩
  clear h
  rintro d _ w3 tt M ⟨t, he, hd, ht, hw, h⟩
  simp only [List.cons.injEq, Value.int.injEq, and_true, true_and] at he
  obtain ⟨rfl, rfl⟩ := he
  refine aJ.2 ⟨fun hlt => ?_, fun hge => ?_⟩
  ·have OA : t < i := by omega
   have s1 := h.src (A := some ⟨kl, 0, none⟩)
   have s2 := h.src (A := some ⟨ks, 0, none⟩)
   repeat (first|(refine aj h ?_;clear h;intro kb M h)|(refine aq h ?_;clear h;intro M h)|refine St.to h ?_|(apply Exists.intro;(repeat apply Exists.intro);refine And.intro rfl ?_)|refine au ?_|refine af ?_|refine ai ?_)
   simp only [Int.toNat_natCast]
   refine bn (s1.at h (j := 0) (vV OA) rfl (by simp [bI])) ?_
   repeat (first|(refine aj h ?_;clear h;intro kb M h)|(refine aq h ?_;clear h;intro M h)|refine St.to h ?_|(apply Exists.intro;(repeat apply Exists.intro);refine And.intro rfl ?_)|refine au ?_|refine af ?_|refine ai ?_)
   refine Wg (s2.at h (j := 0) (vV OA) rfl (by simp [Dz])) ?_
   cases R9 : s.seen t with
   | false =>
    have : nC i l = 0 := by
     rw [hres, if_neg]
     intro gz
     have := xL.1 gz t OA
     rw [R9] at this; cases this
    rw [this] at k
    exact af (k _ h.mJ)
   | true =>
    refine ai ?_
    have RI := b3 t
    refine ⟨i - (t + 1), by omega, t + 1, ?_, rfl, by omega, by simp [wall, hw, R9], h⟩
    rw [eJ (n := s.at_ - s.last t) (by omega) (by omega), aS (by omega)]
    rfl
  ·obtain rfl : t = i := by omega
   rw [hres, if_pos hw] at k
   exact k _ h.mJ
end
structure gE where
 m : E2
 bR : Int
def j9 : rq gE := ⟨fun b c => exs fun r : Nat => sep [pt b [.map (some r), .int .i64 c.bR] 172, ob r (iA c.m)]⟩
def gE.wait (c : gE) (g now : Int) : gE := match fH c.m.l g with
 | none => c
 | some f => ⟨c.m.del g, if IntKind.wrap .i64 (now - f) > c.bR then IntKind.wrap .i64 (now - f) else c.bR⟩
def gE.since (c : gE) (g now : Int) : gE := { c with m := c.m.put g now }
def gE.step (c : gE) (e : Ev) (y : Sc) : gE :=
 e.ready.foldl (fun c g => c.since g (IntKind.wrap .i64 (y.steps - 1)))
  (if e.kind = 7 then (if (ae y.w e.g).st = 1 then (c.wait e.g (IntKind.wrap .i64 (y.steps - 1))).since e.g (IntKind.wrap .i64 (y.steps - 1)) else c.wait e.g (IntKind.wrap .i64 (y.steps - 1))) else c)
section
variable {R : Mem} {L L' L2 : List HP} {M : Mem} {K : Value → Mem → Prop} {Kp : List PanicEntry → Mem → Prop} {pa : PA} {p : cj} {b cb wb db : Nat} {x : Sc} {c : gE} {g now : Int}
theorem uj (h : Hp R L M) [o : bV j9 b L c L'] : ∃ r, Hp R (pt b [.map (some r), .int .i64 c.bR] 172 :: ob r (iA c.m) :: L') M := by
 have := h.obj j9 b
 simpa only [j9, Hp.c5, Hp.aR, List.cons_append, List.nil_append] using this
theorem zf {r : Nat} (h : Hp R (pt b [.map (some r), .int .i64 c.bR] 172 :: ob r (iA c.m) :: L) M) : Hp R (ay j9 b c :: L) M := by
 refine Hp.uO ?_
 simp only [j9, Hp.c5, Hp.aR, List.cons_append, List.nil_append]
 exact ⟨_, h⟩
theorem NN : Tryz.prog.underlying 170 = some (.map 3 3) := by kernel_rfl
theorem NO : Tryz.prog.underlying 3 = some (.int .i64) := by kernel_rfl
theorem mp_i : ∃ i, Tryz.prog.info? 3 = some i ∧ i.zero = some (.int .i64 0) := ⟨_, rfl, rfl⟩
theorem Br (h : Hp R L M) [o : bV j9 b L c L'] (k : ∀ M', Hp R (ay j9 b (c.wait g now) :: L') M' → K (.tuple #[]) M') : aa Tryz.prog 74 #[.pointer (some ⟨b, 0, none⟩), .int .i64 g, .int .i64 now] M K Kp := by
 refine r7 ?_
 have h' := uj h (b := b)
 clear h
 obtain ⟨r, h⟩ := h'
 obtain ⟨i, hi, hz⟩ := mp_i
 refine xJ h ?_
 refine PU (r := r) h NN NO hi hz ?_
 refine ⟨_, _, rfl, ?_⟩
 unfold gE.wait at k
 cases hs : fH c.m.l g with
 | none =>
  rw [hs] at k
  exact ai (k _ (zf h))
 | some f =>
  rw [hs] at k
  refine af (aG h ?_)
  simp only [Option.getD_some]
  refine aq h ?_
  clear h; intro M h
  refine xJ h ?_
  refine UD (r := r) h NN NO ?_
  clear h; intro M h
  exact ⟨rfl, k _ (zf (r := r) (h.sub bM))⟩
theorem Kt (h : Hp R L M) [q : pn b L pa p wb db x L'] (g0 : 0 ≤ g) (g1 : g < x.w.gs.length) (k : ∀ M', Hp R (ay (eH pa p wb db) b x :: L') M' → K (.int .i64 (ae x.w g).st) M') : aa Tryz.prog 119 #[.pointer (some ⟨wb, 0, none⟩), .int .i64 g] M K Kp := by
 have h' := eR h (b := b)
 clear h
 obtain ⟨a, hl, h⟩ := h'
 refine tV (b := wb) h g0 g1 ?_
 exact k _ (gK hl (h.sub bM))
theorem NP (h : Hp R L M) [q : pn b L pa p wb db x L'] (k : ∀ M', Hp R (ay (eH pa p wb db) b x :: L') M' → K (.int .i64 (x.w.gs.length : Int)) M') : aa Tryz.prog 73 #[.pointer (some ⟨wb, 0, none⟩)] M K Kp := by
 have h' := eR h (b := b)
 clear h
 obtain ⟨a, hl, h⟩ := h'
 refine JU (b := wb) h ?_
 exact k _ (gK hl (h.sub bM))
theorem GP {rs : List Int} {A : Option Addr} {n : Nat} {now : Int} {X7 : Mem → Prop} {L0 : List HP} (h : Hp R (ay j9 b c :: L0) M) (hA : RS bI R A n rs) (jx : rs.length ≤ 1000000) (k : ∀ M', Hp R (ay j9 b (rs.foldl (fun c g => c.since g now) c) :: L0) M' → X7 M') :
  ∃ I : Nat → List Value → Mem → Prop, (∃ k2 : Nat, I k2 [.int .i64 0] M) ∧ ∀ k3 : Nat, ∀ IX : Nat → Value, ∀ n : Int, ∀ M8 : Mem, (I k3 [.int .i64 n] M8) → aM (decide ((n : Int) < ((rs.length : Nat) : Int)))
   (((0 : Int) ≤ n) ∧ ((n : Int) < ((rs.length : Nat) : Int)) ∧ aF A fun kb ko => aH (Mem.ld M8 ⟨kb, (ko + (Int.toNat n)), none⟩) .i64 fun td =>
    dD (Mem.ld M8 ⟨b, 0, none⟩) fun Tn =>
    bl Tryz.prog (Go.Instr.mapUpdate 170 Tn (.int .i64 td) (.int .i64 now)) M8 (fun zq => ∃ tg : Nat, (tg < k3) ∧ I tg [.int .i64 (IntKind.wrap .i64 (n + 1))] zq) Kp)
   (X7 M8) := by
 refine ⟨fun d ws M => ∃ i : Nat, ws = [.int .i64 (i : Int)] ∧ d = rs.length - i ∧ i ≤ rs.length ∧ Hp R (ay j9 b ((rs.take i).foldl (fun c g => c.since g now) c) :: L0) M, ⟨_, 0, rfl, rfl, by omega, by simpa using h⟩, ?_⟩
 clear h
 rintro dd IX nn M8 ⟨i, he, hd, hi, h⟩
 simp only [List.cons.injEq, Value.int.injEq, and_true, true_and] at he
 subst he
 refine aJ.2 ⟨fun hlt => ?_, fun hge => k M8 (by rw [List.take_of_length_le (by omega)] at h; exact h)⟩
 have K2 : i < rs.length := by omega
 obtain ⟨w, hw⟩ := aO (l := rs) (i := i) K2
 have hs : Src R (ay j9 b ((rs.take i).foldl (fun c g => c.since g now) c) :: L0) A (bI.cells rs) := hA.src
 obtain ⟨kb, ko, rfl⟩ := hs.kD h (by omega) (by decide)
 refine ⟨by omega, hlt, bp ?_⟩
 simp only [Int.toNat_natCast]
 refine bn (Src.at hs h (i := i) (j := 0) hw rfl (by simp [bI])) ?_
 have h' := uj h (b := b)
 clear h
 obtain ⟨r, h⟩ := h'
 refine xJ h ?_
 refine Gm (r := r) h NN NO ?_
 clear h; intro M h
 refine ⟨rs.length - (i + 1), by omega, i + 1, by rw [aS (by omega)], rfl, by omega, ?_⟩
 rw [cV hw, List.foldl_append]
 exact zf (r := r) (h.sub bM)
theorem Ku {e : Ev} {A : Option Addr} {n : Nat} (h : Hp R (ay (eH pa p wb db) b x :: ay j9 cb c :: L) M) (hA : RS bI R A n e.ready) (jx : e.ready.length ≤ 1000000) (hg : e.kind = 7 → 0 ≤ e.g ∧ e.g < x.w.gs.length)
  (k : ∀ M', Hp R (ay (eH pa p wb db) b x :: ay j9 cb (c.step e x) :: L) M' → K (.tuple #[]) M') : aa Tryz.prog 72 #[.pointer (some ⟨cb, 0, none⟩), Kg e A n, .pointer (some ⟨b, 0, none⟩)] M K Kp := by
 refine r6 ?_
 refine aj h ?_
 clear h
 intro k1 M h
 refine pq h ?_
 refine cy ?_
 refine aG h ?_
 have fin : ∀ (c' : gE) M', (c.step e x = e.ready.foldl (fun c g => c.since g (IntKind.wrap .i64 (x.steps - 1))) c') → Hp R (ay j9 cb c' :: ay (eH pa p wb db) b x :: pt k1 [.int .i64 e.kind, .int .i64 e.m, .int .i64 e.g, .slice A e.ready.length n] 43 :: L) M' → ∃ I : Nat → List Value → Mem → Prop, (∃ k2 : Nat, I k2 [.int .i64 0] M') ∧ ∀ k3 : Nat, ∀ IX : Nat → Value, ∀ n : Int, ∀ M8 : Mem, (I k3 [.int .i64 n] M8) → aM (decide ((n : Int) < ((e.ready.length : Nat) : Int)))
   (((0 : Int) ≤ n) ∧ ((n : Int) < ((e.ready.length : Nat) : Int)) ∧ aF A fun kb ko => aH (Mem.ld M8 ⟨kb, (ko + (Int.toNat n)), none⟩) .i64 fun td =>
    dD (Mem.ld M8 ⟨cb, 0, none⟩) fun Tn =>
    bl Tryz.prog (Go.Instr.mapUpdate 170 Tn (.int .i64 td) (.int .i64 (IntKind.wrap .i64 (x.steps - 1)))) M8 (fun zq => ∃ tg : Nat, (tg < k3) ∧ I tg [.int .i64 (IntKind.wrap .i64 (n + 1))] zq) Kp)
   (K (.tuple #[]) M8) := fun c' M' hc h => GP h hA jx fun M2 h2 => k M2 (by rw [hc]; exact h2.sub bM)
 refine bN.2 ⟨fun he => ?_, fun he => ?_⟩
 ·refine aG h ?_
  refine Br (b := cb) h ?_
  clear h; intro M h
  refine ⟨rfl, ?_⟩
  refine aG h ?_
  refine po (b := b) h ?_
  refine iY ⟨bH h, ?_⟩
  refine Kt (b := b) h (hg he).1 (hg he).2 ?_
  clear h; intro M h
  refine cy ⟨bH h, ?_⟩
  refine bN.2 ⟨fun hs => ?_, fun hs => ?_⟩
  ·have h' := uj h (b := cb)
   clear h
   obtain ⟨r, h⟩ := h'
   refine xJ h ?_
   refine aG h ?_
   refine Gm (r := r) h NN NO ?_
   clear h; intro M h
   refine be h ?_
   refine fin ((c.wait e.g (IntKind.wrap .i64 (x.steps - 1))).since e.g (IntKind.wrap .i64 (x.steps - 1))) _ (by unfold gE.step; rw [if_pos he, if_pos hs]) (zf (r := r) (h.sub bM))
  ·refine be h ?_
   exact fin (c.wait e.g (IntKind.wrap .i64 (x.steps - 1))) _ (by unfold gE.step; rw [if_pos he, if_neg hs]) (h.sub bM)
 ·refine be h ?_
  exact fin c _ (by unfold gE.step; rw [if_neg he]) (h.sub bM)
end
inductive WR (p : cj) (x0 : Sc) (c0 : gE) : Nat → Sc → gE → Prop
 | zero : WR p x0 c0 0 x0 c0
 | succ {j : Nat} {x y : Sc} {c : gE} {e : Ev} : WR p x0 c0 j x c → x.status = 0 → x.step p = some (y, .ev e) → WR p x0 c0 (j + 1) y (c.step e y)
inductive vB (p : cj) (x0 : Sc) (c0 : gE) (most : Nat) : Sc → gE → Prop
 | GQ {j : Nat} {x : Sc} {c : gE} : WR p x0 c0 j x c → j ≤ most → j = most ∨ x.status ≠ 0 → vB p x0 c0 most x c
 | cz {j : Nat} {x y : Sc} {c : gE} {l : List PanicEntry} : WR p x0 c0 j x c → j < most → x.status = 0 → x.step p = some (y, .cz l) → vB p x0 c0 most y c
section
variable {R : Mem} {L L' L2 : List HP} {M : Mem} {K : Value → Mem → Prop} {Kp : List PanicEntry → Mem → Prop} {pa : PA} {p : cj} {b cb wb db : Nat} {x x0 y : Sc} {c c0 : gE} {g now : Int}
theorem WR.sv {j : Nat} (h : WR p x0 c0 j x c) (h0 : SV p 0 x0) (hp : cU p) (hj : j ≤ 1000000) : SV p j x := by
 induction h with
 | zero => exact h0
 | succ hw hs he ih =>
  obtain ⟨y', o, h1, h2⟩ := (ih (by omega)).step hp (by omega)
  rw [he] at h1
  cases h1
  exact h2
end
def U4 (t : Int) : Nat := if Int.tmod t 7 = 6 then 1 else 0
def z8 (t : Int) : Nat := 6 - (Int.tmod t 7).toNat
def uM (mc : tZ) : Nat := if mc.g = -1 then 2 * mc.left.toNat + 1 else 2 * mc.left.toNat
def Lr (GG : Nat) (q : Loc) (gl : List Int) (t g : Int) (n : Nat) : Prop :=
 (∃ k, q.l[k]? = some g ∧ 2 * k + U4 t + (7 * GG + 7) ≤ n) ∨ ∃ j, gl[j]? = some g ∧ 7 * j + z8 t ≤ n
def Lv (Rm GG : Nat) (q : Loc) (gl : List Int) (t g : Int) (n : Nat) : Prop :=
 (q.next = g ∧ 2 * Rm + 2 + (7 * GG + 7) ≤ n) ∨ Lr GG q gl t g n
theorem CQ (t : Int) : U4 t ≤ 1 := by unfold U4; split <;> omega
theorem uk (t : Int) : z8 t ≤ 6 := by unfold z8; omega
theorem jT {l : List Int} {j : Nat} {g : Int} (h : l[j]? = some g) : j < l.length := (List.getElem?_eq_some_iff.1 h).1
theorem zg (x : Loc) (v : Int) (gl : List Int) : (x.put v gl).1.next = x.next ∧ (x.put v gl).1.room = x.room ∧ gl <+: (x.put v gl).2.1 := by
 unfold Loc.put
 split
 ·exact ⟨rfl, rfl, List.prefix_refl _⟩
 ·exact ⟨rfl, rfl, List.prefix_append _ _⟩
theorem X8 {x : Loc} {v : Int} {gl : List Int} : (∃ k : Nat, (x.put v gl).1.l[k]? = some v ∧ k + 1 ≤ x.room) ∨ ∃ j : Nat, (x.put v gl).2.1[j]? = some v := by
 unfold Loc.put
 split
 ·rename_i h
  exact .inl ⟨x.l.length, by simp, by omega⟩
 ·refine .inr ⟨gl.length + (x.l.take (x.l.length / 2)).length, ?_⟩
  dsimp only
  rw [List.getElem?_append_right (by omega)]
  simp
theorem X9 {x : Loc} {v g : Int} {gl : List Int} {k : Nat} (h : x.l[k]? = some g) : (∃ k', k' ≤ k ∧ (x.put v gl).1.l[k']? = some g) ∨ ∃ j : Nat, (x.put v gl).2.1[j]? = some g := by
 have hk := jT h
 unfold Loc.put
 split
 ·exact .inl ⟨k, Nat.le_refl _, by dsimp only; rw [List.getElem?_append_left hk]; exact h⟩
 ·dsimp only
  by_cases hc : k < x.l.length / 2
  ·refine .inr ⟨gl.length + k, ?_⟩
   rw [List.getElem?_append_right (by omega), Nat.add_sub_cancel_left, List.getElem?_append_left (by simp; omega), List.getElem?_take_of_lt hc]
   exact h
  ·refine .inl ⟨k - x.l.length / 2, by omega, ?_⟩
   rw [List.getElem?_drop, show x.l.length / 2 + (k - x.l.length / 2) = k by omega]
   exact h
theorem xg {l l' : List Int} {j : Nat} {g : Int} (hp : l <+: l') (h : l[j]? = some g) : l'[j]? = some g := by
 obtain ⟨t, rfl⟩ := hp
 rw [List.getElem?_append_left (jT h)]; exact h
theorem NQ {GG n : Nat} {x : Loc} {v g t : Int} {gl : List Int} (h : Lr GG x gl t g n) (hG : (x.put v gl).2.1.length ≤ GG) : Lr GG (x.put v gl).1 (x.put v gl).2.1 t g n := by
 have h7 := uk t
 rcases h with ⟨k, h1, h2⟩ | ⟨j, h1, h2⟩
 ·rcases X9 (v := v) (gl := gl) h1 with ⟨k', h3, h4⟩ | ⟨j, h3⟩
  ·exact .inl ⟨k', h4, by omega⟩
  ·have := jT h3
   exact .inr ⟨j, h3, by omega⟩
 ·exact .inr ⟨j, xg (zg x v gl).2.2 h1, h2⟩
theorem Im {GG Rm n : Nat} {x : Loc} {v t : Int} {gl : List Int} (hR : x.room = Rm) (hn : 2 * Rm + 2 + (7 * GG + 7) ≤ n) (hG : (x.put v gl).2.1.length ≤ GG) : Lr GG (x.put v gl).1 (x.put v gl).2.1 t v n := by
 have h7 := uk t
 have h1 := CQ t
 rcases X8 (x := x) (v := v) (gl := gl) with ⟨k, h3, h4⟩ | ⟨j, h3⟩
 ·exact .inl ⟨k, h3, by omega⟩
 ·have := jT h3
  exact .inr ⟨j, h3, by omega⟩
theorem GR (q : Loc) (r : Int) (gl : List Int) : (q.ready r gl).1.next = r ∧ (q.ready r gl).1.room = q.room ∧ gl <+: (q.ready r gl).2.1 := by
 unfold Loc.ready
 split
 ·exact ⟨rfl, rfl, List.prefix_refl _⟩
 ·exact zg { q with next := r } q.next gl
theorem NR {GG Rm n : Nat} {q : Loc} {g r t : Int} {gl : List Int} (h : Lv Rm GG q gl t g n) (h0 : 0 ≤ g) (hR : q.room = Rm) (hG : (q.ready r gl).2.1.length ≤ GG) : Lv Rm GG (q.ready r gl).1 (q.ready r gl).2.1 t g n := by
 unfold Loc.ready at hG ⊢
 split
 ·rename_i e
  rcases h with ⟨h1, _⟩ | h
  ·omega
  ·exact .inr h
 ·rename_i e
  rw [if_neg e] at hG
  rcases h with ⟨h1, h2⟩ | h
  ·subst h1
   exact .inr (Im (x := { q with next := r }) hR h2 hG)
  ·exact .inr (NQ (x := { q with next := r }) h hG)
theorem qd (q : Loc) (gl : List Int) : (q.dy gl).1.next = -1 ∧ (q.dy gl).1.room = q.room ∧ gl <+: (q.dy gl).2.1 := by
 unfold Loc.dy
 split
 ·rename_i e; exact ⟨e, rfl, List.prefix_refl _⟩
 ·exact zg { q with next := -1 } q.next gl
theorem QG {GG Rm n : Nat} {q : Loc} {g t : Int} {gl : List Int} (h : Lv Rm GG q gl t g n) (h0 : 0 ≤ g) (hR : q.room = Rm) (hG : (q.dy gl).2.1.length ≤ GG) : Lr GG (q.dy gl).1 (q.dy gl).2.1 t g n := by
 unfold Loc.dy at hG ⊢
 split
 ·rename_i e
  rcases h with ⟨h1, _⟩ | h
  ·omega
  ·exact h
 ·rename_i e
  rw [if_neg e] at hG
  rcases h with ⟨h1, h2⟩ | h
  ·subst h1
   exact Im (x := { q with next := -1 }) hR h2 hG
  ·exact NQ (x := { q with next := -1 }) h hG
theorem t7 {t : Int} (h : 0 ≤ t) : (Int.tmod t 7 = 6 → U4 t = 1 ∧ z8 t = 0 ∧ U4 (t + 1) = 0 ∧ z8 (t + 1) = 6) ∧ (Int.tmod t 7 ≠ 6 → U4 t = 0 ∧ z8 (t + 1) + 1 = z8 t) := by
 have e1 : Int.tmod t 7 = t % 7 := Int.tmod_eq_emod_of_nonneg h
 have e2 : Int.tmod (t + 1) 7 = (t + 1) % 7 := Int.tmod_eq_emod_of_nonneg (by omega)
 unfold U4 z8
 rw [e1, e2]
 constructor
 ·intro e
  rw [if_pos e, if_neg (by omega)]
  omega
 ·intro e
  rw [if_neg e]
  omega
theorem Io {q : Loc} (hn : q.next = -1) (hl : q.l = []) : q.get = (q, -1) := by
 unfold Loc.get
 rw [if_neg (by rw [hn]; decide), hl]
theorem NS {q : Loc} {v : Int} {l : List Int} (hn : q.next = -1) (hl : q.l = v :: l) : q.get = ({ q with l := l }, v) := by
 unfold Loc.get
 rw [if_neg (by rw [hn]; decide), hl]
theorem CR (q : Loc) (gl : List Int) : q.dN gl 0 = match gl with | [] => (q, [], -1) | v :: l => (q, l, v) := by
 have e : q.cH gl 0 = 1 := by unfold Loc.cH; rw [if_pos (by decide)]
 unfold Loc.dN
 rw [e]
 cases gl with
 | nil => rfl
 | cons v l => simp
theorem U5 {GG Rm n : Nat} {q : Loc} {g t : Int} {gl : List Int} (h : Lv Rm GG q gl t g n) (h0 : 0 ≤ g) (ht : 0 ≤ t) (hR : q.room = Rm) (hG : (q.dy gl).2.1.length ≤ GG) :
  (fJ q t gl).2.2.2 = true ∧ ((fJ q t gl).2.2.1 = g ∨ ∃ n', n' + 1 ≤ n ∧ Lv Rm GG (fJ q t gl).1 (fJ q t gl).2.1 (t + 1) g n') := by
 have hr := QG h h0 hR hG
 obtain ⟨hn, _, _⟩ := qd q gl
 obtain ⟨ta, tb⟩ := t7 ht
 unfold fJ
 generalize q.dy gl = r at hr hn hG
 obtain ⟨q1, g1, n1⟩ := r
 dsimp only at hr hn hG ⊢
 have wg := CQ (t + 1)
 split
 ·rename_i hh
  obtain ⟨p1, p2, p3, p4⟩ := ta hh.1
  refine ⟨rfl, ?_⟩
  rcases hr with ⟨k, h1, h2⟩ | ⟨j, h1, h2⟩
  ·exact .inr ⟨2 * k + (7 * GG + 7), by omega, .inr (.inl ⟨k, h1, by omega⟩)⟩
  ·cases g1 with
   | nil => simp at h1
   | cons v l =>
    cases j with
    | zero => exact .inl (by simpa using h1)
    | succ j => exact .inr ⟨7 * j + 6, by omega, .inr (.inr ⟨j, by simpa using h1, by omega⟩)⟩
 ·rename_i hh
  split
  ·rename_i ho
   refine ⟨rfl, ?_⟩
   have hl : q1.l ≠ [] := by
    intro e
    unfold ng at ho
    rw [hn, e] at ho
    cases ho
   obtain ⟨v, l, hl⟩ := List.exists_cons_of_ne_nil hl
   rw [NS hn hl]
   dsimp only
   rcases hr with ⟨k, h1, h2⟩ | ⟨j, h1, h2⟩
   ·rw [hl] at h1
    cases k with
    | zero => exact .inl (by simpa using h1)
    | succ k => exact .inr ⟨2 * k + 1 + (7 * GG + 7), by omega, .inr (.inl ⟨k, by simpa using h1, by omega⟩)⟩
   ·have hne : Int.tmod t 7 ≠ 6 := fun e => hh ⟨e, by have := jT h1; omega⟩
    have := tb hne
    exact .inr ⟨7 * j + z8 (t + 1), by omega, .inr (.inr ⟨j, h1, Nat.le_refl _⟩)⟩
  ·rename_i ho
   have hl : q1.l = [] := by
    unfold ng at ho
    simp only [Bool.or_eq_true, bne_iff_ne, ne_eq, Bool.not_eq_true', List.isEmpty_eq_false_iff, not_or, Decidable.not_not] at ho
    exact ho.2
   rw [Io hn hl]
   dsimp only
   rcases hr with ⟨k, h1, h2⟩ | ⟨j, h1, h2⟩
   ·rw [hl] at h1; simp at h1
   ·have hne : Int.tmod t 7 ≠ 6 := fun e => hh ⟨e, by have := jT h1; omega⟩
    have := tb hne
    rw [CR]
    cases g1 with
    | nil => simp at h1
    | cons v l =>
     refine ⟨rfl, ?_⟩
     dsimp only
     cases j with
     | zero => exact .inl (by simpa using h1)
     | succ j => exact .inr ⟨7 * j + 6, by omega, .inr (.inr ⟨j, by simpa using h1, by have := uk (t + 1); omega⟩)⟩
theorem NT {q : Loc} {t : Int} {gl : List Int} (h : (fJ q t gl).2.2.2 = false) : (fJ q t gl).1.next = -1 ∧ (fJ q t gl).1.l = [] ∧ (fJ q t gl).1.room = q.room ∧ (fJ q t gl).2.1 = [] := by
 obtain ⟨hn, hr, _⟩ := qd q gl
 unfold fJ at h ⊢
 generalize q.dy gl = r at hn hr h
 obtain ⟨q1, g1, n1⟩ := r
 dsimp only at hn hr h ⊢
 split
 ·rename_i hh; rw [if_pos hh] at h; cases h
 ·rename_i hh
  rw [if_neg hh] at h
  split
  ·rename_i ho; rw [if_pos ho] at h; cases h
  ·rename_i ho
   rw [if_neg ho] at h
   have hl : q1.l = [] := by
    unfold ng at ho
    simp only [Bool.or_eq_true, bne_iff_ne, ne_eq, Bool.not_eq_true', List.isEmpty_eq_false_iff, not_or, Decidable.not_not] at ho
    exact ho.2
   rw [Io hn hl]
   dsimp only at h ⊢
   cases g1 with
   | nil => rw [CR]; exact ⟨hn, hl, hr, rfl⟩
   | cons v l => cases h
theorem NU {q : Loc} {t : Int} {gl : List Int} : (fJ q t gl).1.room = q.room := by
 obtain ⟨hn, hr, _⟩ := qd q gl
 unfold fJ
 generalize q.dy gl = r at hn hr
 obtain ⟨q1, g1, n1⟩ := r
 dsimp only at hn hr ⊢
 have hg : q1.get.1.room = q1.room := by
  unfold Loc.get
  split
  ·rfl
  ·split <;> rfl
 split
 ·exact hr
 ·split
  ·rw [hg]; exact hr
  ·rw [CR]
   split <;> · dsimp only; rw [hg]; exact hr
theorem Kv {q f : Loc} {Rm : Nat} (hq : q.l = []) (hR : q.room = Rm) (hf : f.l.length ≤ Rm) (hn : q.next = -1) :
  (f.l = [] ∧ q.cT f = (q, { f with next := -1 }, f.next)) ∨
   ∃ v out rest, f.l = v :: (out ++ rest) ∧ q.cT f = ({ q with l := out }, { f with l := rest }, v) := by
 have e : q.fG f = f.l.length - f.l.length / 2 := by unfold Loc.fG; rw [hq, hR]; simp only [List.length_nil]; omega
 unfold Loc.cT
 rw [e]
 cases hl : f.l with
 | nil => left; simp
 | cons v l =>
  right
  have h1 : (v :: l).length - (v :: l).length / 2 = ((v :: l).length - (v :: l).length / 2 - 1) + 1 := by simp only [List.length_cons]; omega
  rw [h1, List.take_succ_cons, List.drop_succ_cons]
  refine ⟨v, l.take ((v :: l).length - (v :: l).length / 2 - 1), l.drop ((v :: l).length - (v :: l).length / 2 - 1), ?_, ?_⟩
  ·rw [List.take_append_drop]
  ·dsimp only; rw [hq]; rfl
def Kw (Rm GG : Nat) (x : Sc) (g : Int) (m n u : Nat) : Prop :=
 ∃ mc, x.ms[m]? = some mc ∧ (mc.g = g ∨ (mc.p ≠ -1 ∧ uM mc ≤ u ∧ Lv Rm GG (ax x mc.p).q x.gl (ax x mc.p).turns g n) ∨ ((∀ c ∈ x.ms, c.p = -1) ∧ ∃ j, x.gl[j]? = some g ∧ 7 * j + 7 ≤ n))
structure HV (Rm : Nat) (x : Sc) : Prop where
 hold : ∀ i : Nat, i < x.ps.length → ((ax x (i : Int)).eD = -1 ∧ (ax x (i : Int)).q.next = -1 ∧ (ax x (i : Int)).q.l = []) ∨ ∃ m : Nat, ∃ mc, x.ms[m]? = some mc ∧ mc.p = (i : Int)
 room : ∀ pr ∈ x.ps, pr.q.room = Rm
 left : ∀ mc ∈ x.ms, mc.left ≤ x.c.S
def Bet (S n' u' n u : Nat) : Prop := n' + 1 ≤ n ∧ u' ≤ 2 * S + 1 ∨ n' ≤ n ∧ u' + 1 ≤ u
def nk (Rm GG S : Nat) (y : Sc) (g : Int) (pk m n u : Nat) : Prop := (pk ≠ m ∧ Kw Rm GG y g m n u) ∨ ∃ n' u', Bet S n' u' n u ∧ Kw Rm GG y g pk n' u'
section
variable {p : cj} {N Rm GG m n u k : Nat} {x y z : Sc} {i g a kind : Int}
theorem GS {q : Loc} {gl CH : List Int} {t : Int} (h : Lv Rm GG q gl t g n) (hp : gl <+: CH) : Lv Rm GG q CH t g n := by
 rcases h with h | ⟨k, h1, h2⟩ | ⟨j, h1, h2⟩
 ·exact .inl h
 ·exact .inr (.inl ⟨k, h1, h2⟩)
 ·exact .inr (.inr ⟨j, xg hp h1, h2⟩)
theorem NV {P : Nat} {mc : tZ} (h : MV P mc) : 1 ≤ uM mc := by
 unfold uM
 split
 ·omega
 ·rename_i hg
  rcases h with h | h
  ·exact absurd h.2.1 hg
  ·have := h.2.2.2.2.2 (by omega); omega
theorem jH {l : List tZ} {a b : Nat} {w : tZ} (h : b ≠ a) : (l.set a w)[b]? = l[b]? := List.getElem?_set_ne (Ne.symm h)
theorem SV.apart (h : SV p N x) {mc kV : tZ} {k : Nat} (h1 : x.ms[m]? = some mc) (h2 : x.ms[k]? = some kV) (hp : mc.p ≠ -1) (he : mc.p = kV.p) : m = k := by
 have a1 := h.eD m mc h1 hp
 have a2 := h.eD k kV h2 (by rw [← he]; exact hp)
 rw [he] at a1
 rw [a1] at a2
 omega
theorem SV.mv (h : SV p N x) {mc : tZ} (h1 : x.ms[m]? = some mc) : MV x.ps.length mc := h.ms _ (List.mem_of_getElem? h1)
theorem SV.CS (h : SV p N x) {l : List Int} (hc : ∀ a, l.count a ≤ jt x a) : l.length ≤ x.w.gs.length := by
 refine Nat.le_trans (nh (b := 1) x.w.gs.length l (fun v hv => ?_) (fun v => by have := h.le1 (a := v); have := hc v; omega)) (by omega)
 have := h.at_ (a := v) (by have : 0 < l.count v := List.count_pos_iff.2 hv; have := hc v; omega)
 exact ⟨this.1, this.2.1⟩
theorem Ip {j : Int} {b : c9} (h : j.toNat ≠ i.toNat) : ax (x.bO i b) j = ax x j := by unfold ax Sc.bO; exact getD_set_ne h
theorem NW {b : c9} (h : i.toNat < x.ps.length) : ax (x.bO i b) i = b := by unfold ax Sc.bO; exact bB h
theorem HV.U6 (h : HV Rm x) (h0 : 0 ≤ i) (h1 : i < x.ps.length) : (ax x i).q.room = Rm := h.room _ (List.mem_of_getElem? (lz h0 h1))
theorem NX (h : Kw Rm GG x g m n u) (l : List Int) (w : Wd) (d : iO) : Kw Rm GG { x with w := w, gl := x.gl ++ l, d := d } g m n u := by
 obtain ⟨mc, h1, h2 | ⟨h2, h3, h4⟩ | ⟨h2, j, h3, h4⟩⟩ := h
 ·exact ⟨mc, h1, .inl h2⟩
 ·exact ⟨mc, h1, .inr (.inl ⟨h2, h3, GS h4 (List.prefix_append _ _)⟩)⟩
 ·exact ⟨mc, h1, .inr (.inr ⟨h2, j, xg (List.prefix_append _ _) h3, h4⟩)⟩
theorem QH (h : HV Rm x) (l : List Int) (w : Wd) (d : iO) : HV Rm { x with w := w, gl := x.gl ++ l, d := d } := ⟨h.hold, h.room, h.left⟩
theorem NY {S : Nat} (hs : SV p N x) (hv : HV Rm x) (k1 : k < x.ms.length) (hk : (av x (k : Int)).p = -1) : (0 ≤ g → Kw Rm GG x g m n u → nk Rm GG S (x.hold (k : Int)).1 g k m n u) ∧ HV Rm (x.hold (k : Int)).1 := by
 have hmk := fY (x := x) (m := (k : Int)) (by omega) (by omega)
 rw [Int.toNat_natCast] at hmk
 have ze : (av x (k : Int)).g = -1 ∧ (av x (k : Int)).left = 0 := by
  rcases hs.mv hmk with e | e
  ·exact e.2
  ·omega
 have hne : 0 ≤ g → (∃ mc, x.ms[m]? = some mc ∧ (mc.g = g ∨ mc.p ≠ -1)) → k ≠ m := by
  rintro h0 ⟨mc, h1, h2⟩ rfl
  rw [hmk] at h1
  obtain rfl := Option.some.inj h1
  rcases h2 with h2 | h2
  ·omega
  ·exact h2 hk
 unfold Sc.hold
 split
 ·rename_i i hi
  obtain ⟨hlt, hb, _⟩ := List.findIdx?_eq_some_iff_getElem.1 hi
  have K2 : (i : Int).toNat < x.ps.length := by omega
  dsimp only
  refine ⟨fun h0 h => ?_, ?_⟩
  ·obtain ⟨mc, h1, h2 | ⟨h2, h3, h4⟩ | ⟨h2, j, h3, h4⟩⟩ := h
   ·have := hne h0 ⟨mc, h1, .inl h2⟩
    refine .inl ⟨this, mc, ?_, .inl h2⟩
    show (x.ms.set (k : Int).toNat _)[m]? = _
    rw [Int.toNat_natCast, jH (Ne.symm this)]; exact h1
   ·have := hne h0 ⟨mc, h1, .inr h2⟩
    refine .inl ⟨this, mc, ?_, .inr (.inl ⟨h2, h3, ?_⟩)⟩
    ·show (x.ms.set (k : Int).toNat _)[m]? = _
     rw [Int.toNat_natCast, jH (Ne.symm this)]; exact h1
    ·have e : (ax (x.bO (i : Int) { ax x (i : Int) with eD := (k : Int) }) mc.p).q = (ax x mc.p).q ∧ (ax (x.bO (i : Int) { ax x (i : Int) with eD := (k : Int) }) mc.p).turns = (ax x mc.p).turns := by
      by_cases e : mc.p.toNat = (i : Int).toNat
      ·have e2 : ax x mc.p = ax x (i : Int) := by unfold ax; rw [e]
       have e3 : ax (x.bO (i : Int) { ax x (i : Int) with eD := (k : Int) }) mc.p = ax (x.bO (i : Int) { ax x (i : Int) with eD := (k : Int) }) (i : Int) := by unfold ax; rw [e]
       rw [e3, NW K2, e2]
       exact ⟨rfl, rfl⟩
      ·rw [Ip e]; exact ⟨rfl, rfl⟩
     show Lv Rm GG (ax (x.bO (i : Int) { ax x (i : Int) with eD := (k : Int) }) mc.p).q x.gl (ax (x.bO (i : Int) { ax x (i : Int) with eD := (k : Int) }) mc.p).turns g n
     rw [e.1, e.2]; exact h4
   ·refine .inr ⟨7 * j + 6, 1, .inl ⟨by omega, by omega⟩, { av x (k : Int) with p := (i : Int) }, ?_, .inr (.inl ⟨by dsimp only; omega, ?_, ?_⟩)⟩
    ·show (x.ms.set (k : Int).toNat _)[k]? = _
     rw [Int.toNat_natCast, List.getElem?_set_self k1]
    ·unfold uM
     dsimp only
     rw [ze.2]; split <;> simp
    ·have hsv : ∀ t, 7 * j + z8 t ≤ 7 * j + 6 := fun t => by have := uk t; omega
     exact .inr (.inr ⟨j, h3, hsv _⟩)
  ·refine ⟨fun a ha => ?_, fun pr hp => ?_, fun mc hm => ?_⟩
   ·have X0 : a < x.ps.length := by simpa [Sc.bO, Sc.gB] using ha
    by_cases e : a = i
    ·subst e
     exact .inr ⟨k, _, by show (x.ms.set (k : Int).toNat _)[k]? = _; rw [Int.toNat_natCast, List.getElem?_set_self k1], rfl⟩
    ·rcases hv.hold a X0 with hh | ⟨c, mc, h1, h2⟩
     ·refine .inl ?_
      show (ax (x.bO (i : Int) _) (a : Int)).eD = -1 ∧ (ax (x.bO (i : Int) _) (a : Int)).q.next = -1 ∧ (ax (x.bO (i : Int) _) (a : Int)).q.l = []
      rw [Ip (by omega)]; exact hh
     ·refine .inr ⟨c, mc, ?_, h2⟩
      have : c ≠ k := by
       rintro rfl
       rw [hmk] at h1
       obtain rfl := Option.some.inj h1
       omega
      show (x.ms.set (k : Int).toNat _)[c]? = _
      rw [Int.toNat_natCast, jH this]; exact h1
   ·have wg : pr ∈ x.ps.set (i : Int).toNat { ax x (i : Int) with eD := (k : Int) } := hp
    rcases List.mem_or_eq_of_mem_set wg with wg | rfl
    ·exact hv.room pr wg
    ·exact hv.U6 (i := (i : Int)) (by omega) (by omega)
   ·have hm' : mc ∈ x.ms.set (k : Int).toNat { av x (k : Int) with p := (i : Int) } := hm
    rcases List.mem_or_eq_of_mem_set hm' with hm' | rfl
    ·exact hv.left mc hm'
    ·exact hv.left (av x (k : Int)) (List.mem_of_getElem? hmk)
 ·rename_i hi
  refine ⟨fun h0 h => ?_, hv⟩
  have hno := List.findIdx?_eq_none_iff.1 hi
  obtain ⟨mc, h1, h2 | ⟨h2, h3, h4⟩ | ⟨h2, j, h3, h4⟩⟩ := h
  ·exact .inl ⟨hne h0 ⟨mc, h1, .inl h2⟩, mc, h1, .inl h2⟩
  ·exact .inl ⟨hne h0 ⟨mc, h1, .inr h2⟩, mc, h1, .inr (.inl ⟨h2, h3, h4⟩)⟩
  ·exfalso
   have hP := hs.P1.1
   rcases hv.hold 0 (by omega) with hh | ⟨c, kV, h5, h6⟩
   ·have := hno (ax x ((0 : Nat) : Int)) (List.mem_of_getElem? (lz (by omega) (by omega)))
    rw [hh.1] at this
    simp at this
   ·have := h2 kV (List.mem_of_getElem? h5)
    omega
end
end Go.Proofs
