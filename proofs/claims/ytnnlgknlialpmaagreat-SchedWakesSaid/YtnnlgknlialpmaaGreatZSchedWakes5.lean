/- A part of proofs about one program. -/
import Derived.Test.YtnnlgknlialpmaaGreatZSchedWakes4
set_option linter.unusedVariables false
namespace Go.Proofs
open Go.AF
set_option maxRecDepth 100000
set_option maxHeartbeats 1000000
attribute [local irreducible] aG cV fC b8 az e7 aD aF bh aW bG aO
def Kt (R : Mem) (pa : PA) (p : ck) (b wb db : Nat) (L' : List HP) (K : Value → Mem → Prop) (Kp : List PanicEntry → Mem → Prop) (y : Sc) : lu → Prop
 | .ev e => ∀ R' A c M', R.le R' → RS bB R' A c e.ready → Hp R' (ax (eY pa p wb db) b y :: L') M' → K (EC e A c) M'
 | .cQ l => ∀ M', Hp R (ax (eY pa p wb db) b y :: L') M' → Kp l M'
section
variable {R : Mem} {L L' L2 : List HP} {M : Mem} {K : Value → Mem → Prop} {Kp : List PanicEntry → Mem → Prop} {pa : PA} {p : ck} {b wb db : Nat} {x : Sc} {m i : Int} {a : SA}
theorem Ku {A : Option Addr} {q o : Nat} {G : Nat → Nat → Prop} (e : A = some ⟨q, o, none⟩) (g : G q o) : aD A G := by subst e; exact bp g
theorem CK {q2 k1 c : Nat} {g : Int} {kp : Bool} {A : Option Addr} {w : Wd} {d' : kK} {rest : Bool} {y : Sc} {o : lu}
  (h : Hp R (fS (dk b wb db a x) x.gl :: ax (bu pa p) wb w :: ax (b7 .nilFunc) db d' :: bT a.ap a.cp (bH a.lb x.ps) :: aP bC a.lb (x.ps.map da.q) :: bY (some ⟨q2, 0, none⟩) a.cm x.ms :: pt k1 [.int .i64 0, .int .i64 0, .int .i64 0, .slice none 0 0] 43 :: L') M)
  (uT : RS bB R A c w.ready) (Fs : a.am = some ⟨q2, 0, none⟩) (hl : a.lb.length = x.ps.length) (hpre : xl p x m) (hg : g = (av x m).g) (hkp : kp = dZ w g rest) (he : g7 x m g d' w rest = some (y, o)) (k : Kt R pa p b wb db L' K Kp y o) :
  ∃ t13 : Bool, ∃ nj : Option Addr, ∃ gI : Nat, ∃ gi : Nat, ((Value.agg #[.bool kp, .slice A w.ready.length c]) = (.agg #[(.bool t13), (.slice nj gI gi)])) ∧
bh M (.cells #[(.bool false), (.slice none 0 0)] 250 (0, 0)) fun eK qx =>
aF qx ⟨eK, 0, none⟩ (.bool t13) fun ku =>
aF ku ⟨eK, (0 + 1), none⟩ (.slice nj gI gi) fun r8 =>
az (Mem.ld r8 ⟨eK, (0 + 1), none⟩) fun yd hG jB =>
∃ Qs : Nat → List Value → Mem → Prop, (∃ vb : Nat, Qs vb [(.int .i64 0)] r8) ∧
∀ r9 : Nat, ∀ Qt : Nat → Value, ∀ sg : Int, ∀ ni : Mem, (Qs r9 [(.int .i64 sg)] ni) → aO (decide ((sg : Int) < ((hG : Nat) : Int)))
 (((0 : Int) ≤ sg) ∧
 ((sg : Int) < ((hG : Nat) : Int)) ∧
 aD yd fun lH nH =>
 aG (Mem.ld ni ⟨lH, (nH + (Int.toNat sg)), none⟩) .i64 fun n32 =>
 az (Mem.ld ni ⟨b, (0 + 5), none⟩) fun IX yS yT =>
 aG (Mem.ld ni ⟨q2, (m.toNat * 3), none⟩) .i64 fun wI =>
 ((0 : Int) ≤ wI) ∧
 ((wI : Int) < ((yS : Nat) : Int)) ∧
 aD IX fun vH hU =>
 b8 (Mem.ld ni ⟨vH, (hU + ((Int.toNat wI) * 3)), none⟩) fun U8 =>
 aa Tryz.prog 152 #[(.pointer U8), (.int .i64 n32), (.pointer (some ⟨b, (0 + 7), none⟩))] ni (fun Ma BY =>
 aG (some Ma) .i64 fun Od =>
 ∃ yU : Nat, (yU < r9) ∧
 Qs yU [(.int .i64 (IntKind.wrap .i64 (sg + 1)))] BY) Kp)
 (aG (Mem.ld ni ⟨q2, ((m.toNat * 3) + 2), none⟩) .i64 fun Gy =>
 aF ni ⟨q2, ((m.toNat * 3) + 2), none⟩ (.int .i64 (IntKind.wrap .i64 (Gy - 1))) fun tu =>
 cV (Mem.ld tu ⟨eK, 0, none⟩) fun t46 =>
 aO (!t46)
  (aF tu ⟨q2, ((m.toNat * 3) + 1), none⟩ (.int .i64 (-1)) fun wJ =>
  b8 (Mem.ld wJ ⟨b, 0, none⟩) fun Ml =>
  aa Tryz.prog 119 #[(.pointer Ml), (.int .i64 g)] wJ (fun IU xM =>
  aG (some IU) .i64 fun Jb =>
  aO (Jb == 1)
   (bh xM (.cells #[(.int .i64 g)] 3 (0, 0)) fun tp Gz =>
   aa Tryz.prog 58 #[(.pointer (some ⟨b, (0 + 7), none⟩)), (.slice (some ⟨tp, 0, none⟩) 1 1)] Gz (fun Mu xP =>
   (Mu = (.tuple #[])) ∧
   az (Mem.ld xP ⟨eK, (0 + 1), none⟩) fun Qu yZ DG =>
   aF xP ⟨k1, 0, none⟩ (.int .i64 7) fun tv =>
   aF tv ⟨k1, (0 + 1), none⟩ (.int .i64 m) fun BP =>
   aF BP ⟨k1, (0 + 2), none⟩ (.int .i64 g) fun DF =>
   aF DF ⟨k1, (0 + 3), none⟩ (.slice Qu yZ DG) fun rA =>
   aG (Mem.ld rA ⟨k1, 0, none⟩) .i64 fun tq =>
   aG (Mem.ld rA ⟨k1, (0 + 1), none⟩) .i64 fun n64 =>
   aG (Mem.ld rA ⟨k1, (0 + 2), none⟩) .i64 fun BO =>
   az (Mem.ld rA ⟨k1, (0 + 3), none⟩) fun Ju jQ Mw =>
   K (.agg #[(.int .i64 tq), (.int .i64 n64), (.int .i64 BO), (.slice Ju jQ Mw)]) rA) Kp)
   (az (Mem.ld xM ⟨eK, (0 + 1), none⟩) fun TO Jn Lc =>
   aF xM ⟨k1, 0, none⟩ (.int .i64 7) fun AW =>
   aF AW ⟨k1, (0 + 1), none⟩ (.int .i64 m) fun AZ =>
   aF AZ ⟨k1, (0 + 2), none⟩ (.int .i64 g) fun BZ =>
   aF BZ ⟨k1, (0 + 3), none⟩ (.slice TO Jn Lc) fun Al =>
   aG (Mem.ld Al ⟨k1, 0, none⟩) .i64 fun LU =>
   aG (Mem.ld Al ⟨k1, (0 + 1), none⟩) .i64 fun DH =>
   aG (Mem.ld Al ⟨k1, (0 + 2), none⟩) .i64 fun GI =>
   az (Mem.ld Al ⟨k1, (0 + 3), none⟩) fun PI Mk rD =>
   K (.agg #[(.int .i64 LU), (.int .i64 DH), (.int .i64 GI), (.slice PI Mk rD)]) Al)) Kp)
  (aG (Mem.ld tu ⟨q2, ((m.toNat * 3) + 2), none⟩) .i64 fun HJ =>
  aO (HJ == 0)
   (aF tu ⟨q2, ((m.toNat * 3) + 1), none⟩ (.int .i64 (-1)) fun GB =>
   b8 (Mem.ld GB ⟨b, 0, none⟩) fun Y3 =>
   aa Tryz.prog 119 #[(.pointer Y3), (.int .i64 g)] GB (fun Ty Jr =>
   aG (some Ty) .i64 fun Y4 =>
   aO (Y4 == 1)
    (bh Jr (.cells #[(.int .i64 g)] 3 (0, 0)) fun PB DS =>
    aa Tryz.prog 58 #[(.pointer (some ⟨b, (0 + 7), none⟩)), (.slice (some ⟨PB, 0, none⟩) 1 1)] DS (fun Jo oX =>
    (Jo = (.tuple #[])) ∧
    az (Mem.ld oX ⟨eK, (0 + 1), none⟩) fun PC Tz PD =>
    aF oX ⟨k1, 0, none⟩ (.int .i64 7) fun TP =>
    aF TP ⟨k1, (0 + 1), none⟩ (.int .i64 m) fun Y5 =>
    aF Y5 ⟨k1, (0 + 2), none⟩ (.int .i64 g) fun Jp =>
    aF Jp ⟨k1, (0 + 3), none⟩ (.slice PC Tz PD) fun JN =>
    aG (Mem.ld JN ⟨k1, 0, none⟩) .i64 fun R0 =>
    aG (Mem.ld JN ⟨k1, (0 + 1), none⟩) .i64 fun si =>
    aG (Mem.ld JN ⟨k1, (0 + 2), none⟩) .i64 fun IY =>
    az (Mem.ld JN ⟨k1, (0 + 3), none⟩) fun Ao vl B8 =>
    K (.agg #[(.int .i64 R0), (.int .i64 si), (.int .i64 IY), (.slice Ao vl B8)]) JN) Kp)
    (az (Mem.ld Jr ⟨eK, (0 + 1), none⟩) fun Ap sD GK =>
    aF Jr ⟨k1, 0, none⟩ (.int .i64 7) fun Qv =>
    aF Qv ⟨k1, (0 + 1), none⟩ (.int .i64 m) fun qv =>
    aF qv ⟨k1, (0 + 2), none⟩ (.int .i64 g) fun Qw =>
    aF Qw ⟨k1, (0 + 3), none⟩ (.slice Ap sD GK) fun od =>
    aG (Mem.ld od ⟨k1, 0, none⟩) .i64 fun DI =>
    aG (Mem.ld od ⟨k1, (0 + 1), none⟩) .i64 fun IZ =>
    aG (Mem.ld od ⟨k1, (0 + 2), none⟩) .i64 fun I0 =>
    az (Mem.ld od ⟨k1, (0 + 3), none⟩) fun Qx GP Qy =>
    K (.agg #[(.int .i64 DI), (.int .i64 IZ), (.int .i64 I0), (.slice Qx GP Qy)]) od)) Kp)
   (az (Mem.ld tu ⟨eK, (0 + 1), none⟩) fun Qz QA QB =>
   aF tu ⟨k1, 0, none⟩ (.int .i64 7) fun JO =>
   aF JO ⟨k1, (0 + 1), none⟩ (.int .i64 m) fun QC =>
   aF QC ⟨k1, (0 + 2), none⟩ (.int .i64 g) fun QD =>
   aF QD ⟨k1, (0 + 3), none⟩ (.slice Qz QA QB) fun wP =>
   aG (Mem.ld wP ⟨k1, 0, none⟩) .i64 fun QE =>
   aG (Mem.ld wP ⟨k1, (0 + 1), none⟩) .i64 fun QF =>
   aG (Mem.ld wP ⟨k1, (0 + 2), none⟩) .i64 fun Aq =>
   az (Mem.ld wP ⟨k1, (0 + 3), none⟩) fun QG JP QH =>
   K (.agg #[(.int .i64 QE), (.int .i64 QF), (.int .i64 Aq), (.slice QG JP QH)]) wP))) := by
 obtain ⟨m0, m1, i0, i1, Kn, Rd, l1, l2, g0⟩ := hpre
 rw [← hg] at g0
 unfold g7 at he
 split at he
 ·rename_i hc
  obtain ⟨hr, hgw⟩ := hc
  simp only [Option.some.injEq, Prod.mk.injEq] at he
  obtain ⟨CL, uS⟩ := he
  have lz := oG m0 m1
  have m2 : m.toNat < x.ms.length := by omega
  refine ⟨_, _, _, _, rfl, ?_⟩
  refine aj h ?_
  clear h; intro eK M h
  refine aq h ?_
  clear h; intro M h
  refine aq h ?_
  clear h; intro M h
  refine bj h ?_
  generalize AI : ({ x with w := w, d := d' } : Sc) = x1 at CL uS
  have q1 : x1.ps = x.ps := by rw [← AI]
  have Sf : x1.ms = x.ms := by rw [← AI]
  have q3 : x1.gl = x.gl := by rw [← AI]
  have q4 : x1.w = w := by rw [← AI]
  have q5 : x1.d = d' := by rw [← AI]
  have q6 : dk b wb db a x1 = dk b wb db a x := by rw [← AI]
  have q7 : av x1 m = av x m := by rw [← AI]; rfl
  have hf := gA (m := m) (l := w.ready) (z := x1) (by rw [q7]; exact i0) (by rw [q7, q1]; exact i1)
  rw [← q1, ← Sf, ← q3, ← q4, ← q5, ← q6] at h
  rw [← q4] at uT hgw hr
  rw [show w.ready = x1.w.ready from by rw [q4]] at CL uS hf ⊢
  clear AI
  have key : ∀ j, j ≤ x1.w.ready.length → ((x1.w.ready.take j).foldl (aI m) x1).ms = x1.ms ∧ ((x1.w.ready.take j).foldl (aI m) x1).ps.length = x1.ps.length ∧ ((x1.w.ready.take j).foldl (aI m) x1).w = x1.w ∧ ((x1.w.ready.take j).foldl (aI m) x1).d = x1.d ∧ ((x1.w.ready.take j).foldl (aI m) x1).c = x1.c ∧ ((x1.w.ready.take j).foldl (aI m) x1).steps = x1.steps ∧ ∀ bs, bH bs ((x1.w.ready.take j).foldl (aI m) x1).ps = bH bs x1.ps :=
   fun j _ => gA (m := m) (l := x1.w.ready.take j) (z := x1) (by rw [q7]; exact i0) (by rw [q7, q1]; exact i1)
  refine ⟨fun d vs M => ∃ j : Nat, vs = [.int .i64 (j : Int)] ∧ d = x1.w.ready.length - j ∧ j ≤ x1.w.ready.length ∧ ((x1.w.ready.take j).foldl (aI m) x1).gl.length ≤ 1000000 + 1030 * j ∧
    Hp R (fS (dk b wb db a x1) ((x1.w.ready.take j).foldl (aI m) x1).gl :: ax (bu pa p) wb x1.w :: ax (b7 .nilFunc) db x1.d :: bT a.ap a.cp (bH a.lb x1.ps) :: aP bC a.lb (((x1.w.ready.take j).foldl (aI m) x1).ps.map da.q) :: bY (some ⟨q2, 0, none⟩) a.cm x1.ms :: xo eK kp A x1.w.ready.length c :: pt k1 [.int .i64 0, .int .i64 0, .int .i64 0, .slice none 0 0] 43 :: L') M,
   ⟨_, 0, rfl, rfl, by omega, by rw [List.take_zero, List.foldl_nil, q3]; omega, h.sub bM⟩, ?_⟩
  clear h
  rintro d _ nn M ⟨j, he3, hd, hj, Rf, h⟩
  simp only [List.cons.injEq, Value.int.injEq, and_true, true_and] at he3
  subst he3
  obtain ⟨z1, z2, z3, z4, z5, z6, z7⟩ := key j hj
  refine aM.2 ⟨fun hlt => ?_, fun hge => ?_⟩
  ·obtain ⟨rv, hrv⟩ := aK (l := x1.w.ready) (i := j) (by omega)
   refine ⟨by omega, hlt, ?_⟩
   obtain ⟨rb, ro, hrb⟩ := uT.some (by omega) (by decide)
   have Ux := uT
   rw [hrb] at Ux
   refine Ku hrb ?_
   simp only [Int.toNat_natCast]
   refine bq (Src.at (Ux.src (L := _)) h (i := j) (j := 0) hrv rfl (by simp [bB])) ?_
   have hstep : (x1.w.ready.take (j + 1)).foldl (aI m) x1 = aI m ((x1.w.ready.take j).foldl (aI m) x1) rv := by rw [dN hrv, List.foldl_append]; rfl
   generalize hz : (x1.w.ready.take j).foldl (aI m) x1 = z at h hstep z1 z2 z3 z4 z5 z6 z7 Rf
   have Uy : av z m = av x m := by unfold av; rw [z1, Sf]
   have hps : z.ps.length = x.ps.length := by rw [z2, q1]
   rw [Km h]
   refine aR ?_
   refine bq (Src.at (h.src (A := some ⟨q2, 0, none⟩)) h (i := m.toNat) (j := 0) (a := av x m) (by rw [Sf]; exact lz) rfl (by show _ = 0 + (m.toNat * 3 + 0); simp)) ?_
   refine ⟨i0, by rw [q1]; exact i1, ?_⟩
   have Uz : a.lb.length = z.ps.length := by rw [hps]; exact hl
   obtain ⟨lb, hlb, lq, hrow⟩ := oF (i := (av x m).p) (x := z) Uz i0 (by rw [hps]; exact i1)
   rw [z7] at hrow
   obtain ⟨q, hq⟩ := h.bz (A := a.ap) (l := bH a.lb x1.ps) (by rw [jF (by rw [q1]; exact hl), q1]; omega) (by decide)
   have hs0 := (h.src (A := a.ap)) M h
   rw [hq] at hs0
   refine Ku hq ?_
   refine kU (Sl.at hs0 (i := (av x m).p.toNat * 3 + 0) (by simp) (jO.rT (E := oD) hrow rfl)) ?_
   clear hs0
   have hqz : (z.ps.map da.q)[(av x m).p.toNat]? = some (aC z (av x m).p).q := by rw [List.getElem?_map, lq]; rfl
   replace h := h.cB bC hlb hqz
   replace h : Hp R (ax bC lb (aC z (av x m).p).q :: fS (dk b wb db a x1) z.gl :: j0 bC a.lb (z.ps.map da.q) (av x m).p.toNat :: ax (bu pa p) wb x1.w :: ax (b7 .nilFunc) db x1.d :: bT a.ap a.cp (bH a.lb x1.ps) :: bY (some ⟨q2, 0, none⟩) a.cm x1.ms :: xo eK kp A x1.w.ready.length c :: pt k1 [.int .i64 0, .int .i64 0, .int .i64 0, .slice none 0 0] 43 :: L') M := h.sub bM
   have hbd := ug h (b := lb)
   have iP := Hu (q := (aC z (av x m).p).q) (r := rv) (gl := z.gl)
   refine Cs (P := dk b wb db a x1) uY h (by omega) ?_
   clear h; intro M h
   refine cE ?_
   replace h := h.dh bC lb hlb (by rw [List.length_map]; omega)
   refine ⟨x1.w.ready.length - (j + 1), by omega, j + 1, by rw [bn (by omega)], rfl, by omega, ?_, ?_⟩
   ·rw [hstep]
    unfold aI
    rw [Uy]
    dsimp only
    obtain ⟨b1, b2, b3⟩ := hbd
    omega
   ·rw [hstep]
    have e2 : (aI m z rv).ps.map da.q = (z.ps.map da.q).set (av x m).p.toNat ((aC z (av x m).p).q.ready rv z.gl).1 := by
     unfold aI; rw [Uy]; simp [Sc.cj, List.map_set]
    have e3 : (aI m z rv).gl = ((aC z (av x m).p).q.ready rv z.gl).2.1 := by unfold aI; rw [Uy]
    rw [e2, e3]
    exact h.sub bM
  ·have AG : j = x1.w.ready.length := by omega
   subst AG
   rw [List.take_length] at z1 z2 z3 z4 z5 z6 z7 Rf h
   clear key hf
   generalize hrd : x1.w.ready = rd at *
   generalize hz : rd.foldl (aI m) x1 = z at h z1 z2 z3 z4 z5 z6 z7 Rf CL uS
   have Uy : av z m = av x m := by unfold av; rw [z1, Sf]
   have ez : dk b wb db a z = dk b wb db a x1 := by unfold dk dJ; rw [z1, z2, z5, z6]
   have Uz : a.lb.length = z.ps.length := by rw [z2, q1]; exact hl
   rw [← ez, ← z3, ← z4, ← z7, ← z1] at h
   have UA : z.ms[m.toNat]? = some (av z m) := oG m0 (by rw [z1, Sf]; exact m1)
   have m1z : m < z.ms.length := by rw [z1, Sf]; exact m1
   have m2z : m.toNat < z.ms.length := by omega
   rw [← Uy] at l1 l2
   refine bq (Src.at (h.src (A := some ⟨q2, 0, none⟩)) h (i := m.toNat) (j := 2) UA rfl (by show _ = 0 + (m.toNat * 3 + 2); omega)) ?_
   rw [cG (by omega) (by omega)]
   refine gO (E := j8) (a' := { av z m with left := (av z m).left - 1 }) m.toNat 2 h UA (by decide) rfl rfl ?_
   clear h; intro M h
   replace h : Hp R (fS (dk b wb db a z) z.gl :: ax (bu pa p) wb z.w :: ax (b7 .nilFunc) db z.d :: bT a.ap a.cp (bH a.lb z.ps) :: aP bC a.lb (z.ps.map da.q) :: bY (some ⟨q2, 0, none⟩) a.cm (z.ms.set m.toNat { av z m with left := (av z m).left - 1 }) :: xo eK kp A rd.length c :: pt k1 [.int .i64 0, .int .i64 0, .int .i64 0, .slice none 0 0] 43 :: L') M := h.sub bM
   refine E1 h ?_
   have hgz : g < z.w.gs.length := by rw [z3]; exact hgw
   have CM : (¬ (dZ w g rest = true ∧ (av z m).left - 1 ≠ 0)) → ∀ M', Hp R (ax (eY pa p wb db) b { z.fB m { av z m with left := (av z m).left - 1, g := -1 } with gl := if (ae z.w g).st = 1 then z.gl ++ [g] else z.gl } :: L') M' → K (EC ⟨7, m, g, rd⟩ A c) M' := by
    intro hno M' h'
    unfold Sc.oJ at CL uS
    rw [if_neg hno] at CL uS
    dsimp only at CL uS
    subst uS
    exact k R A c M' (Mem.le_refl _) uT (by rw [← CL]; exact h')
   cases hk : kp with
   | false =>
    subst hk
    refine af ?_
    exact CJ h Fs Uz m0 m1z g0 hgz (by omega) (CM (fun hc => by rw [← hkp] at hc; cases hc.1))
   | true =>
    subst hk
    refine ai ?_
    refine bq (Src.at (h.src (A := some ⟨q2, 0, none⟩)) h (i := m.toNat) (j := 2) (a := { av z m with left := (av z m).left - 1 }) (by simp [m2z]) rfl (by show _ = 0 + (m.toNat * 3 + 2); omega)) ?_
    refine bU.2 ⟨fun e0 => ?_, fun e0 => ?_⟩
    ·exact CJ h Fs Uz m0 m1z g0 hgz (by omega) (CM (fun hc => hc.2 e0))
    ·refine bj h ?_
     refine iF h ?_
     clear h; intro M h
     refine oE h ?_
     unfold Sc.oJ at CL uS
     rw [if_pos ⟨hkp.symm, e0⟩] at CL uS
     dsimp only at CL uS
     subst uS
     refine k R A c M (Mem.le_refl _) uT ?_
     rw [← CL]
     refine gz (a := a) (x := z.fB m { av z m with left := (av z m).left - 1 }) Uz ?_
     rw [xg]
     show Hp R (_ :: _ :: _ :: _ :: _ :: bY a.am a.cm (z.ms.set m.toNat { av z m with left := (av z m).left - 1 }) :: _) M
     rw [Fs]
     exact h.sub bM
 ·cases he
end
section
variable {R : Mem} {L L' L2 : List HP} {M : Mem} {K : Value → Mem → Prop} {Kp : List PanicEntry → Mem → Prop} {pa : PA} {p : ck} {b wb db : Nat} {x : Sc} {m i : Int}
theorem Hw {y : Sc} {o : lu} (h : Hp R L M) [q : mu b L pa p wb db x L'] (hp : m5 R pa p) (hd : x.d.k.Ok) (he : x.run p m = some (y, o)) (k : Kt R pa p b wb db L' K Kp y o) :
  aa Tryz.prog 111 #[.pointer (some ⟨b, 0, none⟩), .int .i64 m] M K Kp := by
 unfold Sc.run at he
 split at he
 ·rename_i hpre
  have UB := hpre
  obtain ⟨m0, m1, i0, i1, Kn, Rd, l1, l2, g0⟩ := UB
  split at he
  ·rename_i vq
   have xn : x.d.Ok := ⟨hd, by omega⟩
   refine qN ?_
   refine aj h ?_
   clear h
   intro k1 M h
   have h' := eH h (b := b)
   clear h
   obtain ⟨a, hl, h⟩ := h'
   have lz := oG m0 m1
   obtain ⟨q2, o5⟩ := h.bz (A := a.am) (l := x.ms) (by omega) (by decide)
   replace h : Hp R (fS (dk b wb db a x) x.gl :: ax (bu pa p) wb x.w :: ax (b7 .nilFunc) db x.d :: bT a.ap a.cp (bH a.lb x.ps) :: aP bC a.lb (x.ps.map da.q) :: bY (some ⟨q2, 0, none⟩) a.cm x.ms :: pt k1 [.int .i64 0, .int .i64 0, .int .i64 0, .slice none 0 0] 43 :: L') M := by
    unfold gy at h
    rw [show bY a.am a.cm x.ms = bY (some ⟨q2, 0, none⟩) a.cm x.ms from by rw [o5]] at h
    exact h.sub bM
   rw [xk h]
   refine aR ⟨m0, m1, ?_⟩
   refine Ku o5 ?_
   refine bq (Src.at (h.src (A := some ⟨q2, 0, none⟩)) h (i := m.toNat) (j := 1) lz rfl (by show _ = 0 + (m.toNat * 3 + 1); omega)) ?_
   simp only [Nat.zero_add]
   rw [Us h]
   refine eM ?_
   rw [show M.ld ⟨b, 8, none⟩ = some (.pointer (some ⟨db, 0, none⟩)) from Rc h]
   refine eM ⟨trivial, ?_⟩
   replace h : Hp R (ax (bu pa p) wb x.w :: ax (b7 .nilFunc) db x.d :: fS (dk b wb db a x) x.gl :: bT a.ap a.cp (bH a.lb x.ps) :: aP bC a.lb (x.ps.map da.q) :: bY (some ⟨q2, 0, none⟩) a.cm x.ms :: pt k1 [.int .i64 0, .int .i64 0, .int .i64 0, .slice none 0 0] 43 :: L') M := h.sub bM
   generalize Kv : (fS (dk b wb db a x) x.gl :: bT a.ap a.cp (bH a.lb x.ps) :: aP bC a.lb (x.ps.map da.q) :: bY (some ⟨q2, 0, none⟩) a.cm x.ms :: pt k1 [.int .i64 0, .int .i64 0, .int .i64 0, .slice none 0 0] 43 :: L') = LL at h
   have hds : match asks p { x.w with ready := [] } (av x m).g with
     | none => (ax (b7 .nilFunc) db (eu x.d (asks p { x.w with ready := [] } (av x m).g)).1 :: LL) = (ax (b7 .nilFunc) db x.d :: LL)
     | some (kd, n) => gZ R (.func (.func 107) #[.pointer (some ⟨db, 0, none⟩)] #[]) kd n (eu x.d (asks p { x.w with ready := [] } (av x m).g)).2 (ax (b7 .nilFunc) db x.d :: LL) (ax (b7 .nilFunc) db (eu x.d (asks p { x.w with ready := [] } (av x m).g)).1 :: LL) := by
    cases Vv : asks p { x.w with ready := [] } (av x m).g with
    | none => rfl
    | some kn =>
     obtain ⟨kd, n⟩ := kn
     rw [Vv] at vq
     exact Hq xn (of_decide_eq_true vq) Rd
   have Ep : ∀ l, (eu x.d (asks p { x.w with ready := [] } (av x m).g)).2 = .cQ l → zj l (vr l) := by
    intro l hl
    cases Vv : asks p { x.w with ready := [] } (av x m).g with
    | none => rw [Vv] at hl; cases hl
    | some kn =>
     obtain ⟨kd, n⟩ := kn
     rw [Vv] at hl
     exact (CI (x' := (x.d.draw kd n).1) (by rw [← hl]; rfl)).2
   generalize uW : eu x.d (asks p { x.w with ready := [] } (av x m).g) = dd at he hds Ep
   obtain ⟨d', dr⟩ := dd
   dsimp only at he hds Ep
   cases hex : j7 p x.w (av x m).g dr with
   | none => rw [hex] at he; cases he
   | some rr =>
    obtain ⟨r, rest⟩ := rr
    rw [hex] at he
    refine Hl h hp ⟨_, _, _, rfl⟩ hex hds ?_
    cases r with
    | cQ l w =>
     dsimp only at he
     simp only [Option.some.injEq, Prod.mk.injEq] at he
     obtain ⟨CL, uS⟩ := he
     obtain ⟨vo, hw⟩ := zx hex
     refine ⟨vr l, Ep l vo, ?_⟩
     intro M h
     subst uS
     refine k M ?_
     rw [← CL]
     rw [← Kv] at h
     have h9 : Hp R (fS (dk b wb db a { x with w := w, d := d' }) x.gl :: ax (bu pa p) wb w :: ax (b7 .nilFunc) db d' :: bT a.ap a.cp (bH a.lb x.ps) :: aP bC a.lb (x.ps.map da.q) :: bY a.am a.cm x.ms :: L') M := by
      rw [show bY a.am a.cm x.ms = bY (some ⟨q2, 0, none⟩) a.cm x.ms from by rw [o5], show dk b wb db a { x with w := w, d := d' } = dk b wb db a x from rfl]
      exact h.sub bM
     exact gz (a := a) (x := { x with w := w, d := d' }) hl h9
    | on w =>
     intro R' A c M hle uT h
     rw [← Kv] at h
     have h2 : Hp R' (fS (dk b wb db a x) x.gl :: ax (bu pa p) wb w :: ax (b7 .nilFunc) db d' :: bT a.ap a.cp (bH a.lb x.ps) :: aP bC a.lb (x.ps.map da.q) :: bY (some ⟨q2, 0, none⟩) a.cm x.ms :: pt k1 [.int .i64 0, .int .i64 0, .int .i64 0, .slice none 0 0] 43 :: L') M := h.sub bM
     refine CK (K := K) (Kp := Kp) (w := w) (g := (av x m).g) (kp := dZ w (av x m).g rest) (rest := rest) h2 uT o5 hl hpre rfl rfl he ?_
     cases o with
     | ev e => exact fun R2 A2 c2 M2 CN => k R2 A2 c2 M2 (Mem.le_trans hle CN)
     | cQ l =>
      dsimp only at he
      unfold g7 at he
      split at he
      ·simp only [Option.some.injEq, Prod.mk.injEq] at he; cases he.2
      ·cases he
    | dM n w =>
     intro R' A c M hle uT h
     rw [← Kv] at h
     have h2 : Hp R' (fS (dk b wb db a x) x.gl :: ax (bu pa p) wb { w with end_ := 2, code := n } :: ax (b7 .nilFunc) db d' :: bT a.ap a.cp (bH a.lb x.ps) :: aP bC a.lb (x.ps.map da.q) :: bY (some ⟨q2, 0, none⟩) a.cm x.ms :: pt k1 [.int .i64 0, .int .i64 0, .int .i64 0, .slice none 0 0] 43 :: L') M := h.sub bM
     refine CK (K := K) (Kp := Kp) (w := { w with end_ := 2, code := n }) (g := (av x m).g) (kp := dZ { w with end_ := 2, code := n } (av x m).g rest) (rest := rest) h2 uT o5 hl hpre rfl rfl he ?_
     cases o with
     | ev e => exact fun R2 A2 c2 M2 CN => k R2 A2 c2 M2 (Mem.le_trans hle CN)
     | cQ l =>
      dsimp only at he
      unfold g7 at he
      split at he
      ·simp only [Option.some.injEq, Prod.mk.injEq] at he; cases he.2
      ·cases he
  ·cases he
 ·cases he
theorem Kw {e : Ev} {o : lu} {y z : Sc} (h : xm (z, .ev e) = (y, o)) : o = .ev e ∧ y = { z with steps := z.steps + 1 } := by
 unfold xm at h; cases h; exact ⟨rfl, rfl⟩
theorem xp {y : Sc} {o : lu} (h : Hp R L M) [q : mu b L pa p wb db x L'] (hp : m5 R pa p) (hd : x.d.k.Ok) (he : x.step p = some (y, o)) (k : Kt R pa p b wb db L' K Kp y o) :
  aa Tryz.prog 54 #[.pointer (some ⟨b, 0, none⟩)] M K Kp := by
 unfold Sc.step at he
 split at he
 ·rename_i hpre
  obtain ⟨zo, hcM, hps, hms, Rd, Rh, hst1⟩ := hpre
  refine pX ?_
  refine aj h ?_
  clear h
  intro k1 M h
  refine jd h zo ?_
  refine cE ?_
  split at he
  ·rename_i hst
   simp only [Option.some.injEq, Prod.mk.injEq] at he
   obtain ⟨CL, uS⟩ := he
   subst CL; subst uS
   refine de.2 ⟨fun _ => ?_, fun hn => absurd hn hst⟩
   refine iF h ?_
   clear h; intro M h
   refine oE h ?_
   exact k R none 0 M (Mem.le_refl _) (RS.nil _ _) (h.drop.pick q.pick)
  ·rename_i hst
   refine de.2 ⟨fun hn => absurd hn hst, fun _ => ?_⟩
   have h' := eH h (b := b)
   clear h
   obtain ⟨a, hl, h⟩ := h'
   rw [Rc h]
   refine eM ?_
   rw [Ur h]
   refine cE ?_
   have xn : x.d.Ok := ⟨hd, by omega⟩
   have hnw : IntKind.wrap .i64 (x.c.M + 1) = x.c.M + 1 := cG (by omega) (by omega)
   rw [hnw]
   replace h : Hp R (ax (b7 .nilFunc) db x.d :: fS (dk b wb db a x) x.gl :: ax (bu pa p) wb x.w :: bT a.ap a.cp (bH a.lb x.ps) :: aP bC a.lb (x.ps.map da.q) :: bY a.am a.cm x.ms :: pt k1 [.int .i64 0, .int .i64 0, .int .i64 0, .slice none 0 0] 43 :: L') M := h.sub bM
   refine oC h xn (by omega) (by omega) ?_
   clear h
   have UC := my (kind := 1) (n := x.c.M + 1) hd
   have EB : ∀ x' v, x.d.draw 1 (x.c.M + 1) = (x', .num v) → 0 ≤ v ∧ v < x.c.M + 1 ∧ x'.taken = x.d.taken ++ [(1, v)] := by
    intro x' v hv
    have := oI hd hv
    rw [show jT (x.c.M + 1) = x.c.M + 1 from by unfold jT; rw [if_neg (by omega)]] at this
    exact this
   generalize uW : x.d.draw 1 (x.c.M + 1) = dd at he UC EB
   obtain ⟨d', dr⟩ := dd
   have mk : ∀ {M : Mem}, Hp R (ax (b7 .nilFunc) db d' :: fS (dk b wb db a x) x.gl :: ax (bu pa p) wb x.w :: bT a.ap a.cp (bH a.lb x.ps) :: aP bC a.lb (x.ps.map da.q) :: bY a.am a.cm x.ms :: pt k1 [.int .i64 0, .int .i64 0, .int .i64 0, .slice none 0 0] 43 :: L') M → Hp R (ax (eY pa p wb db) b { x with d := d' } :: pt k1 [.int .i64 0, .int .i64 0, .int .i64 0, .slice none 0 0] 43 :: L') M :=
    fun h => gz (a := a) (x := { x with d := d' }) hl (h.sub bM)
   cases dr with
   | cQ l =>
    dsimp only at he ⊢
    simp only [Option.some.injEq, Prod.mk.injEq] at he
    obtain ⟨CL, uS⟩ := he
    intro M h
    subst uS
    refine k M ?_
    rw [← CL]
    exact (mk h).bP
   | num mm =>
    dsimp only at he ⊢
    obtain ⟨v0, v1, htk2⟩ := EB d' mm rfl
    intro M h
    replace h := mk h
    clear mk
    refine cE ?_
    generalize AI : ({ x with d := d' } : Sc) = x1 at h he
    have e1 : x1.c = x.c := by rw [← AI]
    have e2 : x1.ms = x.ms := by rw [← AI]
    have e3 : x1.ps = x.ps := by rw [← AI]
    have e4 : x1.d.k.Ok := by rw [← AI]; exact UC
    have e5 : x1.steps = x.steps := by rw [← AI]
    clear AI
    refine aj h ?_
    clear h; intro fe M h
    replace h : Hp R (ax (eY pa p wb db) b x1 :: pt k1 [.int .i64 0, .int .i64 0, .int .i64 0, .slice none 0 0] 43 :: pt fe [.int .i64 0, .int .i64 0, .int .i64 0, .slice none 0 0] 43 :: L') M := h.sub bM
    have fin : ∀ (R' : Mem) (A : Option Addr) (c : Nat) (M : Mem) (z : Sc) (e : Ev), R.le R' → RS bB R' A c e.ready → z.steps = x.steps → xm (z, .ev e) = (y, o) → Hp R' (ax (eY pa p wb db) b z :: pt k1 [.int .i64 0, .int .i64 0, .int .i64 0, .slice none 0 0] 43 :: pt fe [.int .i64 0, .int .i64 0, .int .i64 0, .slice none 0 0] 43 :: L') M →
      aF M ⟨fe, 0, none⟩ (.int .i64 e.kind) fun oW => aF oW ⟨fe, (0 + 1), none⟩ (.int .i64 e.m) fun BQ => aF BQ ⟨fe, (0 + 2), none⟩ (.int .i64 e.g) fun rC => aF rC ⟨fe, (0 + 3), none⟩ (.slice A e.ready.length c) fun yh =>
      aG (Mem.ld yh ⟨b, (0 + 9), none⟩) .i64 fun wI => aF yh ⟨b, (0 + 9), none⟩ (.int .i64 (IntKind.wrap .i64 (wI + 1))) fun GD =>
      aG (Mem.ld GD ⟨fe, 0, none⟩) .i64 fun Gr => aG (Mem.ld GD ⟨fe, (0 + 1), none⟩) .i64 fun HI => aG (Mem.ld GD ⟨fe, (0 + 2), none⟩) .i64 fun Jc => az (Mem.ld GD ⟨fe, (0 + 3), none⟩) fun Tp Pd yU =>
      aF GD ⟨k1, 0, none⟩ (.int .i64 Gr) fun Ag => aF Ag ⟨k1, (0 + 1), none⟩ (.int .i64 HI) fun tu => aF tu ⟨k1, (0 + 2), none⟩ (.int .i64 Jc) fun Mh => aF Mh ⟨k1, (0 + 3), none⟩ (.slice Tp Pd yU) fun wJ =>
      aG (Mem.ld wJ ⟨k1, 0, none⟩) .i64 fun HK => aG (Mem.ld wJ ⟨k1, (0 + 1), none⟩) .i64 fun RY => aG (Mem.ld wJ ⟨k1, (0 + 2), none⟩) .i64 fun Pw => az (Mem.ld wJ ⟨k1, (0 + 3), none⟩) fun Pe tp r7 =>
      K (.agg #[(.int .i64 HK), (.int .i64 RY), (.int .i64 Pw), (.slice Pe tp r7)]) wJ := by
     intro R' A c M z e hle uT hzs Z4 h
     obtain ⟨ho, hy⟩ := Kw Z4
     subst ho; subst hy
     refine iF h ?_
     clear h; intro M h
     have h' := eH h (b := b)
     clear h
     obtain ⟨a3, Q5, h⟩ := h'
     have h' := mw h
     clear h
     obtain ⟨A4, c4, h⟩ := h'
     refine aH h ?_
     rw [cG (by omega) (by omega)]
     refine aq h ?_
     clear h; intro M h
     refine oE h ?_
     refine iF h ?_
     clear h; intro M h
     refine oE h ?_
     refine k R' A c M hle uT (gz (a := a3) (x := { z with steps := z.steps + 1 }) Q5 ?_)
     exact vN (x := { z with steps := z.steps + 1 }) (h.sub bM)
    have h' := eH h (b := b)
    clear h
    obtain ⟨a5, hl5, h⟩ := h'
    rw [Ur h]
    refine cE ?_
    have zq : ∀ {M : Mem}, Hp R (fS (dk b wb db a5 x1) x1.gl :: ax (bu pa p) wb x1.w :: ax (b7 .nilFunc) db x1.d :: gy a5 x1 (pt k1 [.int .i64 0, .int .i64 0, .int .i64 0, .slice none 0 0] 43 :: pt fe [.int .i64 0, .int .i64 0, .int .i64 0, .slice none 0 0] 43 :: L')) M → Hp R (ax (eY pa p wb db) b x1 :: pt k1 [.int .i64 0, .int .i64 0, .int .i64 0, .slice none 0 0] 43 :: pt fe [.int .i64 0, .int .i64 0, .int .i64 0, .slice none 0 0] 43 :: L') M := fun h => gz (a := a5) hl5 h
    unfold Sc.act at he
    refine bU.2 ⟨fun em => ?_, fun em => ?_⟩
    ·rw [if_pos em] at he
     split at he
     ·rename_i UD
      simp only [Option.map_some, Option.some.injEq] at he
      refine ED (zq h) UD ?_
      clear h; intro R' A c M hle uT h
      refine ⟨_, _, _, _, _, _, rfl, ?_⟩
      exact fin R' A c M _ _ hle uT (by rw [← e5]; rfl) he h
     ·cases he
    rw [if_neg em] at he
    have Vw : mm < x1.ms.length := by
     have a1 : x1.c.M = x.c.M := by rw [e1]
     have a2 : x1.ms.length = x.ms.length := by rw [e2]
     omega
    have lz := oG v0 Vw
    obtain ⟨q2, o5⟩ := h.bz (A := a5.am) (l := x1.ms) (by omega) (by decide)
    have hs0 := (h.src (A := a5.am)) M h
    rw [o5] at hs0
    rw [xk h]
    refine aR ⟨v0, Vw, ?_⟩
    refine Ku o5 ?_
    refine bq (Sl.at hs0 (i := mm.toNat * 3 + 0) (by simp) (jO.rT (E := j8) lz rfl)) ?_
    refine bU.2 ⟨fun ep => ?_, fun ep => ?_⟩
    ·rw [if_pos ep] at he
     simp only [Option.map_some, Option.some.injEq] at he
     refine EE (zq h) v0 Vw (by rw [e3]; omega) ?_
     clear h hs0; intro M h
     have Du : (x1.hold mm).2.ready = [] := by unfold Sc.hold; split <;> rfl
     have qY : (x1.hold mm).1.steps = x.steps := by rw [← e5]; unfold Sc.hold; split <;> rfl
     refine ⟨_, _, _, _, _, _, rfl, ?_⟩
     exact fin R none 0 M _ _ (Mem.le_refl _) (by rw [Du]; exact RS.nil _ _) qY he h
    rw [if_neg ep] at he
    refine aR ⟨v0, Vw, ?_⟩
    refine Ku o5 ?_
    refine bq (Sl.at hs0 (i := mm.toNat * 3 + 1) (by simp) (jO.rT (E := j8) lz rfl)) ?_
    clear hs0
    refine bU.2 ⟨fun eg => ?_, fun eg => ?_⟩
    ·rw [if_pos eg] at he
     split at he
     ·rename_i hfo
      simp only [Option.map_some, Option.some.injEq] at he
      have qY : (x1.find mm).1.steps = x.steps := by
       rw [← e5]
       have zn : ∀ (z : Sc) a b c d e, (z.bL a b c d e).1.steps = z.steps := by intro z a b c d e; unfold Sc.bL; split <;> rfl
       unfold Sc.find
       dsimp only
       split
       ·rfl
       ·split
        ·split
         ·rfl
         ·split <;> exact zn ..
        ·exact zn ..
      have hrd : ∀ e, (x1.find mm).2 = .ev e → e.ready = [] := by
       have zn : ∀ (z : Sc) a b c d e, (z.bL a b c d e).2.ready = [] := by intro z a b c d e; unfold Sc.bL; split <;> rfl
       intro e Du
       unfold Sc.find at Du
       dsimp only at Du
       split at Du
       ·cases Du; rfl
       ·split at Du
        ·split at Du
         ·cases Du
         ·split at Du <;> · cases Du; exact zn ..
        ·cases Du; exact zn ..
      refine EF (zq h) hfo e4 ?_
      clear h
      generalize U7 : x1.find mm = ff at he qY hrd ⊢
      obtain ⟨z, oo⟩ := ff
      cases oo with
      | ev e =>
       dsimp only at qY hrd ⊢
       intro M h
       refine ⟨_, _, _, _, _, _, rfl, ?_⟩
       have ZY : e.ready = [] := hrd e rfl
       exact fin R none 0 M _ e (Mem.le_refl _) (by rw [ZY]; exact RS.nil _ _) qY he h
      | cQ l =>
       dsimp only
       intro M h
       unfold xm at he
       cases he
       exact k M h.bP
     ·cases he
    rw [if_neg eg] at he
    cases hrun : x1.run p mm with
    | none => rw [hrun] at he; cases he
    | some rr =>
     obtain ⟨z, oo⟩ := rr
     rw [hrun] at he
     simp only [Option.map_some, Option.some.injEq] at he
     refine Hw (zq h) hp e4 hrun ?_
     clear h
     have qY : z.steps = x.steps := by
      rw [← e5]
      unfold Sc.run at hrun
      split at hrun
      ·rename_i UE
       obtain ⟨_, _, i0, i1, _⟩ := UE
       have Ic : ∀ d w rest, g7 x1 mm (av x1 mm).g d w rest = some (z, oo) → z.steps = x1.steps := by
        intro d w rest Ic
        unfold g7 at Ic
        split at Ic
        ·simp only [Option.some.injEq, Prod.mk.injEq] at Ic
         rw [← Ic.1]
         have := gA (m := mm) w.ready { x1 with w := w, d := d } i0 i1
         unfold Sc.oJ
         split <;> exact this.2.2.2.2.2.1
        ·cases Ic
       split at hrun
       ·split at hrun
        ·cases hrun
        ·simp only [Option.some.injEq, Prod.mk.injEq] at hrun; rw [← hrun.1]
        ·exact Ic _ _ _ hrun
        ·exact Ic _ _ _ hrun
       ·cases hrun
      ·cases hrun
     cases oo with
     | ev e =>
      intro R' A c M hle uT h
      refine ⟨_, _, _, _, _, _, rfl, ?_⟩
      exact fin R' A c M _ e hle uT qY he h
     | cQ l =>
      intro M h
      unfold xm at he
      cases he
      exact k M h.bP
 ·cases he
end
def Sc.new (p : ck) (c : Ow) (d : kK) : Sc := ⟨Wd.new p, c, List.replicate c.P.toNat ⟨⟨-1, fN c.R, []⟩, 0, -1⟩, List.replicate c.M.toNat ⟨-1, -1, 0⟩, [0], d, 0⟩
theorem Ft : bA Tryz.prog 132 141 3 24 [.pointer none, .int .i64 0, .int .i64 0] := bA.mk' (zv := .agg #[.pointer none, .int .i64 0, .int .i64 0]) (by kernel_rfl) (by kernel_rfl) rfl (by omega)
theorem Ni : bA Tryz.prog 133 143 3 24 [.int .i64 0, .int .i64 0, .int .i64 0] := bA.mk' (zv := .agg #[.int .i64 0, .int .i64 0, .int .i64 0]) (by kernel_rfl) (by kernel_rfl) rfl (by omega)
theorem zy {bs : List Nat} {ps : List da} {b : Nat} {y : da} (h : bs.length = ps.length) : bH (bs ++ [b]) (ps ++ [y]) = bH bs ps ++ [(b, y.turns, y.gj)] := by
 unfold bH; rw [List.zipWith_append h]; rfl
section
variable {R : Mem} {L L' L2 : List HP} {M : Mem} {K : Value → Mem → Prop} {Kp : List PanicEntry → Mem → Prop} {pa : PA} {p : ck} {b wb db : Nat} {x : Sc} {m i : Int}
theorem jm {c : Ow} {d : kK} (h : Hp R L M) [o : bZ (b7 .nilFunc) db L d L'] (vI : RS bB R pa.c pa.cc p.oZ) (hc : p.oZ.length ≤ 1000000) (hk : 0 ≤ p.aS ∧ p.aS ≤ 1000000) (hP : 0 ≤ c.P ∧ c.P ≤ 1000000) (hM : 0 ≤ c.M ∧ c.M ≤ 1000000)
  (k : ∀ b wb M', Hp R (ax (eY pa p wb db) b (Sc.new p c d) :: L') M' → K (.pointer (some ⟨b, 0, none⟩)) M') :
  aa Tryz.prog 15 #[.agg #[.slice pa.f p.funcs.length pa.fc, .slice pa.c p.oZ.length pa.cc, .int .i64 p.aS, .slice pa.k p.cases.length pa.kc], .agg #[.int .i64 c.P, .int .i64 c.M, .int .i64 c.R, .int .i64 c.S], .pointer (some ⟨db, 0, none⟩)] M K Kp := by
 refine Ak ?_
 replace h := h.front (b7 .nilFunc) db
 refine aj h ?_
 clear h; intro k1 M h
 refine aj h ?_
 clear h; intro k3 M h
 refine bj h (bj h (aH h (bj h ?_)))
 refine aH h (aH h (aH h (aH h ?_)))
 refine G4 (p := p) (pa := pa) h vI hc hk ?_
 clear h; intro wb M h
 refine eM ⟨bx (bk h) (bx (bk h) (bx (bk h) (bx (bk h) dQ))), ?_⟩
 refine aj h ?_
 clear h; intro b M h
 refine aH h ?_
 replace h := ((((h.cz oD 141).sk bC).cz j8 143).cz bB 3)
 obtain ⟨nP, hnP⟩ := Int.eq_ofNat_of_zero_le hP.1
 obtain ⟨nM, hnM⟩ := Int.eq_ofNat_of_zero_le hM.1
 refine ⟨fun dd vs M => ∃ (j : Nat) (A : Option Addr) (ca : Nat) (tx : List Nat), vs = [.int .i64 (j : Int)] ∧ dd = nP - j ∧ j ≤ nP ∧ tx.length = j ∧
   Hp R (pt b [.pointer (some ⟨wb, 0, none⟩), .int .i64 c.P, .int .i64 c.M, .int .i64 c.R, .int .i64 c.S, .slice A j ca, .slice none 0 0, .slice none 0 0, .pointer (some ⟨db, 0, none⟩), .int .i64 0] 137 ::
    bT A ca (bH tx (List.replicate j ⟨⟨-1, fN c.R, []⟩, 0, -1⟩)) :: aP bC tx (List.replicate j ⟨-1, fN c.R, []⟩) :: bY none 0 [] :: jD none 0 [] :: ax (bu pa p) wb (Wd.new p) :: ax (b7 .nilFunc) db d :: pt k3 [.int .i64 c.P, .int .i64 c.M, .int .i64 c.R, .int .i64 c.S] 29 :: L') M,
  ⟨_, 0, none, 0, [], rfl, rfl, by omega, rfl, h.sub bM⟩, ?_⟩
 clear h
 rintro dd _ nn M ⟨j, A, ca, tx, he, hd, hj, hlb, h⟩
 simp only [List.cons.injEq, Value.int.injEq, and_true, true_and] at he
 subst he
 refine aM.2 ⟨fun hlt => ?_, fun hge => ?_⟩
 ·have iP : (List.replicate j (⟨⟨-1, fN c.R, []⟩, 0, -1⟩ : da)).length = j := List.length_replicate
  refine ⟨fun vs M => ∃ (A : Option Addr) (ca : Nat) (lb : Nat),
   Hp R (pt b [.pointer (some ⟨wb, 0, none⟩), .int .i64 c.P, .int .i64 c.M, .int .i64 c.R, .int .i64 c.S, .slice A (j + 1) ca, .slice none 0 0, .slice none 0 0, .pointer (some ⟨db, 0, none⟩), .int .i64 0] 137 ::
    bT A ca (bH (tx ++ [lb]) (List.replicate (j + 1) ⟨⟨-1, fN c.R, []⟩, 0, -1⟩)) :: aP bC (tx ++ [lb]) (List.replicate (j + 1) ⟨-1, fN c.R, []⟩) :: bY none 0 [] :: jD none 0 [] :: ax (bu pa p) wb (Wd.new p) :: ax (b7 .nilFunc) db d :: pt k3 [.int .i64 c.P, .int .i64 c.M, .int .i64 c.R, .int .i64 c.S] 29 :: L') M, aH h ⟨?_, ?_, trivial⟩, ?_⟩
  ·refine bj h ?_
   refine zf h ?_
   clear h; intro lb M h
   refine eM ?_
   refine aj h ?_
   clear h; intro Af M h
   refine h.ot (A := A) Ft [(lb, 0, -1)] rfl (by rw [jF (by rw [hlb, iP]), iP]) rfl (by rw [jF (by rw [hlb, iP]), iP]; simp only [List.length_singleton]; omega) ?_
   clear h; intro A' c' M h
   refine aR ?_
   refine aq h ?_
   clear h; intro M h
   replace h := h.jk bC lb (by rw [hlb, List.length_replicate])
   refine ⟨A', c', lb, ?_⟩
   have e1 : bH (tx ++ [lb]) (List.replicate (j + 1) (⟨⟨-1, fN c.R, []⟩, 0, -1⟩ : da)) = bH tx (List.replicate j ⟨⟨-1, fN c.R, []⟩, 0, -1⟩) ++ [(lb, 0, -1)] := by
    rw [List.replicate_succ', zy (by rw [hlb, iP])]
   have e2 : List.replicate (j + 1) (⟨-1, fN c.R, []⟩ : Loc) = List.replicate j ⟨-1, fN c.R, []⟩ ++ [⟨-1, fN c.R, []⟩] := List.replicate_succ'
   rw [e1, e2]
   exact h.sub bM
  ·refine zf h ?_
   clear h; intro lb M h
   refine eM ?_
   refine bj h ?_
   refine aj h ?_
   clear h; intro Af M h
   refine h.ot (A := A) Ft [(lb, 0, -1)] rfl (by rw [jF (by rw [hlb, iP]), iP]) rfl (by rw [jF (by rw [hlb, iP]), iP]; simp only [List.length_singleton]; omega) ?_
   clear h; intro A' c' M h
   refine aR ?_
   refine aq h ?_
   clear h; intro M h
   replace h := h.jk bC lb (by rw [hlb, List.length_replicate])
   refine ⟨A', c', lb, ?_⟩
   have e1 : bH (tx ++ [lb]) (List.replicate (j + 1) (⟨⟨-1, fN c.R, []⟩, 0, -1⟩ : da)) = bH tx (List.replicate j ⟨⟨-1, fN c.R, []⟩, 0, -1⟩) ++ [(lb, 0, -1)] := by
    rw [List.replicate_succ', zy (by rw [hlb, iP])]
   have e2 : List.replicate (j + 1) (⟨-1, fN c.R, []⟩ : Loc) = List.replicate j ⟨-1, fN c.R, []⟩ ++ [⟨-1, fN c.R, []⟩] := List.replicate_succ'
   rw [e1, e2]
   exact h.sub bM
  ·clear h
   rintro _ M ⟨A', c', lb, h⟩
   rw [bn (by omega)]
   exact ⟨nP - (j + 1), by omega, j + 1, A', c', tx ++ [lb], rfl, rfl, by omega, by simp [hlb], h⟩
 have hjn : j = nP := by omega
 subst hjn
 refine aH h ?_
 refine ⟨fun dd vs M => ∃ (q : Nat) (B : Option Addr) (cb : Nat), vs = [.int .i64 (q : Int)] ∧ dd = nM - q ∧ q ≤ nM ∧
   Hp R (pt b [.pointer (some ⟨wb, 0, none⟩), .int .i64 c.P, .int .i64 c.M, .int .i64 c.R, .int .i64 c.S, .slice A j ca, .slice B q cb, .slice none 0 0, .pointer (some ⟨db, 0, none⟩), .int .i64 0] 137 ::
    bT A ca (bH tx (List.replicate j ⟨⟨-1, fN c.R, []⟩, 0, -1⟩)) :: aP bC tx (List.replicate j ⟨-1, fN c.R, []⟩) :: bY B cb (List.replicate q ⟨-1, -1, 0⟩) :: jD none 0 [] :: ax (bu pa p) wb (Wd.new p) :: ax (b7 .nilFunc) db d :: pt k3 [.int .i64 c.P, .int .i64 c.M, .int .i64 c.R, .int .i64 c.S] 29 :: L') M,
  ⟨_, 0, none, 0, rfl, rfl, by omega, h.sub bM⟩, ?_⟩
 clear h
 rintro dd _ nn M ⟨q, B, cb, he, Sg, hq, h⟩
 simp only [List.cons.injEq, Value.int.injEq, and_true, true_and] at he
 subst he
 refine aM.2 ⟨fun hlt => ?_, fun hge2 => ?_⟩
 ·refine bj h ?_
  refine aj h ?_
  clear h; intro yZ M h
  refine h.ot (A := B) Ni [(⟨-1, -1, 0⟩ : xQ)] rfl (by simp) rfl (by simp; omega) ?_
  clear h; intro B' ZN M h
  refine aR ?_
  refine aq h ?_
  clear h; intro M h
  rw [bn (by omega)]
  have e : List.replicate q (⟨-1, -1, 0⟩ : xQ) ++ [⟨-1, -1, 0⟩] = List.replicate (q + 1) ⟨-1, -1, 0⟩ := List.replicate_succ'.symm
  rw [e] at h
  exact ⟨nM - (q + 1), by omega, q + 1, B', ZN, rfl, rfl, by omega, h.sub bM⟩
 have hqn : q = nM := by omega
 subst hqn
 refine aj h ?_
 clear h; intro Jq M h
 have e0 : Sc.new p c d = ⟨Wd.new p, c, List.replicate j ⟨⟨-1, fN c.R, []⟩, 0, -1⟩, List.replicate q ⟨-1, -1, 0⟩, [0], d, 0⟩ := by
  unfold Sc.new; rw [hnP, hnM]; rfl
 have e3 : (List.replicate j (⟨⟨-1, fN c.R, []⟩, 0, -1⟩ : da)).map da.q = List.replicate j ⟨-1, fN c.R, []⟩ := by simp
 replace h := (h.pt Jq).fz (E := bB) (l := [0]) rfl
 generalize hz : (⟨Wd.new p, c, List.replicate j ⟨⟨-1, fN c.R, []⟩, 0, -1⟩, List.replicate q ⟨-1, -1, 0⟩, [0], d, 0⟩ : Sc) = z at e0
 have z1 : dJ wb db ⟨A, ca, tx, B, cb⟩ z none 0 0 = [.pointer (some ⟨wb, 0, none⟩), .int .i64 c.P, .int .i64 c.M, .int .i64 c.R, .int .i64 c.S, .slice A j ca, .slice B q cb, .slice none 0 0, .pointer (some ⟨db, 0, none⟩), .int .i64 0] := by
  rw [← hz]; simp [dJ]
 rw [← z1] at h
 have h2 : Hp R (pt b (dJ wb db ⟨A, ca, tx, B, cb⟩ z none 0 0) 137 :: jD none 0 [] :: jD (some ⟨Jq, 0, none⟩) 1 [0] :: ax (bu pa p) wb (Wd.new p) :: ax (b7 .nilFunc) db d :: bT A ca (bH tx (List.replicate j ⟨⟨-1, fN c.R, []⟩, 0, -1⟩)) :: aP bC tx (List.replicate j ⟨-1, fN c.R, []⟩) :: bY B cb (List.replicate q ⟨-1, -1, 0⟩) :: L') M := h.sub bM
 have h3 : Hp R (fS (dk b wb db ⟨A, ca, tx, B, cb⟩ z) [] :: jD (some ⟨Jq, 0, none⟩) 1 [0] :: ax (bu pa p) wb (Wd.new p) :: ax (b7 .nilFunc) db d :: bT A ca (bH tx (List.replicate j ⟨⟨-1, fN c.R, []⟩, 0, -1⟩)) :: aP bC tx (List.replicate j ⟨-1, fN c.R, []⟩) :: bY B cb (List.replicate q ⟨-1, -1, 0⟩) :: L') M := Cq (P := dk b wb db ⟨A, ca, tx, B, cb⟩ z) h2 rfl
 clear h h2
 refine mo (P := dk b wb db ⟨A, ca, tx, B, cb⟩ z) uY h3 (Src.row (A := some ⟨Jq, 0, none⟩)) rfl (by simp) ?_
 clear h3; intro M h
 refine ⟨rfl, ?_⟩
 refine k b wb M ?_
 rw [e0]
 refine gz (a := ⟨A, ca, tx, B, cb⟩) (x := z) (by rw [← hz]; simp [hlb]) ?_
 rw [← hz] at h ⊢
 unfold gy
 dsimp only at h ⊢
 rw [e3]
 exact h.sub bM
end
section
variable {p : ck} {x y : Sc} {o : lu} {m : Int}
theorem zz {i k g : Int} {t : Bool} : (x.bL m i k g t).1.d = x.d := by unfold Sc.bL; split <;> rfl
theorem Kx (h : x.d.k.Ok) : (x.find m).1.d.k.Ok := by
 unfold Sc.find
 dsimp only
 split
 ·exact h
 ·split
  ·have hd : (x.own (av x m).p).1.d = x.d := rfl
   have := my (kind := 2) (n := x.c.P) h
   rw [hd]
   split
   ·rename_i uW; rw [uW] at this; exact this
   ·rename_i uW
    rw [uW] at this
    split <;> · rw [zz]; exact this
  ·rw [zz]; exact h
theorem Fu {g : Int} {d : kK} {w : Wd} {rest : Bool} (h : g7 x m g d w rest = some (y, o)) (i0 : 0 ≤ (av x m).p) (i1 : (av x m).p < x.ps.length) : y.d = d := by
 unfold g7 at h
 split at h
 ·simp only [Option.some.injEq, Prod.mk.injEq] at h
  rw [← h.1]
  have := gA (m := m) w.ready { x with w := w, d := d } i0 i1
  unfold Sc.oJ
  split <;> exact this.2.2.2.1
 ·cases h
theorem qZ {a : Option (Int × Int)} {d : kK} (h : d.k.Ok) : (eu d a).1.k.Ok := by
 cases a with
 | none => exact h
 | some q => exact my h
theorem Nj (h : x.d.k.Ok) (he : x.run p m = some (y, o)) : y.d.k.Ok := by
 unfold Sc.run at he
 split at he
 ·rename_i hpre
  obtain ⟨m0, m1, i0, i1, _⟩ := hpre
  split at he
  ·split at he
   ·cases he
   ·simp only [Option.some.injEq, Prod.mk.injEq] at he
    rw [← he.1]
    exact qZ h
   ·rw [Fu he i0 i1]; exact qZ h
   ·rw [Fu he i0 i1]; exact qZ h
  ·cases he
 ·cases he
theorem EH {z : Sc × lu} : (xm z).1.d = z.1.d := by
 obtain ⟨z, o⟩ := z
 cases o <;> rfl
theorem CO (h : x.d.k.Ok) (he : x.step p = some (y, o)) : y.d.k.Ok := by
 unfold Sc.step at he
 split at he
 ·split at he
  ·cases he; exact h
  ·have hk := my (kind := 1) (n := x.c.M + 1) h
   split at he
   ·rename_i hd; rw [hd] at hk; cases he; exact hk
   ·rename_i d' mm hd
    rw [hd] at hk
    dsimp only at hk
    unfold Sc.act at he
    split at he
    ·split at he
     ·simp only [Option.map_some, Option.some.injEq] at he
      cases he; exact hk
     ·cases he
    ·split at he
     ·simp only [Option.map_some, Option.some.injEq] at he
      have e : y.d = (Sc.hold { x with d := d' } mm).1.d := by rw [← (EH (z := ((Sc.hold { x with d := d' } mm).1, .ev (Sc.hold { x with d := d' } mm).2))), he]
      rw [e]
      unfold Sc.hold
      split <;> exact hk
     ·split at he
      ·split at he
       ·simp only [Option.map_some, Option.some.injEq] at he
        have e : y.d = (Sc.find { x with d := d' } mm).1.d := by rw [← (EH (z := Sc.find { x with d := d' } mm)), he]
        rw [e]
        exact Kx hk
       ·cases he
      ·cases hr : Sc.run p { x with d := d' } mm with
       | none => rw [hr] at he; cases he
       | some z =>
        rw [hr] at he
        simp only [Option.map_some, Option.some.injEq] at he
        have e : y.d = z.1.d := by rw [← (EH (z := z)), he]
        rw [e]
        exact Nj (y := z.1) (o := z.2) hk hr
 ·cases he
end
def OA : ck := ⟨[[⟨20, 0, 0, 0⟩, ⟨10, 0, 0, 0⟩]], [], 0, []⟩
def Z5 : Option (Sc × lu) → Option (Sc × Ev)
 | some (x, .ev e) => some (x, e)
 | _ => none
def Z6 : Sc := Sc.new OA ⟨1, 1, 2, 9⟩ ⟨.m7 [0, 0, 0, 0] 0, []⟩
def Nk (x : Sc) : Sc × Ev := (Z5 (x.step OA)).getD (x, ⟨0, 0, 0, []⟩)
def LH : Sc × Ev := Nk Z6
def Sh : Sc × Ev := Nk LH.1
def UF : Sc × Ev := Nk Sh.1
def d18 : Sc × Ev := Nk UF.1
theorem Ri : Z6.step OA = some (LH.1, .ev LH.2) := by kernel_rfl
theorem Rj : LH.1.step OA = some (Sh.1, .ev Sh.2) := by kernel_rfl
theorem Rk : Sh.1.step OA = some (UF.1, .ev UF.2) := by kernel_rfl
theorem Rl : UF.1.step OA = some (d18.1, .ev d18.2) := by kernel_rfl
theorem gq : Z6.d.k.Ok := ⟨by decide, by decide, fun v hv => by simp at hv; subst hv; decide⟩
def cA (c : Ow) : Ow :=
 let q := fun (x m : Int) => Int.tmod (IntKind.wrap .i64 (((Nat.bitwise and (BitVec.ofInt IntKind.i64.bits x).toNat (BitVec.ofInt IntKind.i64.bits 255).toNat) : Nat) : Int)) m
 ⟨1 + q c.P 5, 1 + q c.M 5, 2 + q c.R 5, 1 + q c.S 12⟩
theorem sZ (x : Int) {m : Int} {n : Nat} (e : m = (n : Int)) (hm : 0 < n) : 0 ≤ Int.tmod (IntKind.wrap .i64 (((Nat.bitwise and (BitVec.ofInt IntKind.i64.bits x).toNat (BitVec.ofInt IntKind.i64.bits 255).toNat) : Nat) : Int)) m ∧ Int.tmod (IntKind.wrap .i64 (((Nat.bitwise and (BitVec.ofInt IntKind.i64.bits x).toNat (BitVec.ofInt IntKind.i64.bits 255).toNat) : Nat) : Int)) m < m := by
 obtain ⟨q, hq, _⟩ := mask (x := x) (y := 255) (m := 255) rfl (by omega)
 rw [hq, e, Go.AF.rQ]
 have := Nat.mod_lt q hm
 omega
theorem xq (c : Ow) : 1 ≤ (cA c).P ∧ (cA c).P ≤ 5 ∧ 1 ≤ (cA c).M ∧ (cA c).M ≤ 5 ∧ 2 ≤ (cA c).R ∧ (cA c).R ≤ 6 ∧ 1 ≤ (cA c).S ∧ (cA c).S ≤ 12 := by
 have a := sZ c.P (m := 5) (n := 5) rfl (by omega)
 have b := sZ c.M (m := 5) (n := 5) rfl (by omega)
 have d := sZ c.R (m := 5) (n := 5) rfl (by omega)
 have e := sZ c.S (m := 12) (n := 12) rfl (by omega)
 unfold cA
 dsimp only
 refine ⟨by omega, ?_, by omega, ?_, by omega, ?_, by omega, ?_⟩ <;> omega
section
variable {R : Mem} {L L' : List HP} {M : Mem} {K : Value → Mem → Prop} {Kp : List PanicEntry → Mem → Prop}
theorem j9 {x m : Int} {n : Nat} (hm : m = (n : Int)) (hn : 0 < n) (k : K (.int .i64 (Int.tmod (IntKind.wrap .i64 (((Nat.bitwise and (BitVec.ofInt IntKind.i64.bits x).toNat (BitVec.ofInt IntKind.i64.bits 255).toNat) : Nat) : Int)) m)) M) : aa Tryz.prog 55 #[.int .i64 x, .int .i64 m] M K Kp := by
 refine mb ⟨by omega, k⟩
theorem EI {c : Ow} (h : Hp R L M) (k : ∀ M', Hp R L M' → K (.agg #[.int .i64 (cA c).P, .int .i64 (cA c).M, .int .i64 (cA c).R, .int .i64 (cA c).S]) M') : aa Tryz.prog 14 #[.agg #[.int .i64 c.P, .int .i64 c.M, .int .i64 c.R, .int .i64 c.S]] M K Kp := by
 refine oe ?_
 refine aj h ?_
 clear h; intro k1 M h
 refine aj h ?_
 clear h; intro k3 M h
 refine aH h (aH h (aH h (aH h ?_)))
 refine j9 (n := 5) rfl (by omega) (cE ⟨bk h, bk h, bk h, ?_⟩)
 refine j9 (n := 5) rfl (by omega) (cE ⟨bk h, bk h, bk h, ?_⟩)
 refine j9 (n := 5) rfl (by omega) (cE ⟨bk h, bk h, bk h, ?_⟩)
 refine j9 (n := 12) rfl (by omega) (cE ⟨bk h, bk h, bk h, ?_⟩)
 have ok := xq c
 have e1 : IntKind.wrap .i64 (1 + Int.tmod (IntKind.wrap .i64 (((Nat.bitwise and (BitVec.ofInt IntKind.i64.bits c.P).toNat (BitVec.ofInt IntKind.i64.bits 255).toNat) : Nat) : Int)) 5) = (cA c).P := cG (z := (cA c).P) (by omega) (by omega)
 have e2 : IntKind.wrap .i64 (1 + Int.tmod (IntKind.wrap .i64 (((Nat.bitwise and (BitVec.ofInt IntKind.i64.bits c.M).toNat (BitVec.ofInt IntKind.i64.bits 255).toNat) : Nat) : Int)) 5) = (cA c).M := cG (z := (cA c).M) (by omega) (by omega)
 have e3 : IntKind.wrap .i64 (2 + Int.tmod (IntKind.wrap .i64 (((Nat.bitwise and (BitVec.ofInt IntKind.i64.bits c.R).toNat (BitVec.ofInt IntKind.i64.bits 255).toNat) : Nat) : Int)) 5) = (cA c).R := cG (z := (cA c).R) (by omega) (by omega)
 have e4 : IntKind.wrap .i64 (1 + Int.tmod (IntKind.wrap .i64 (((Nat.bitwise and (BitVec.ofInt IntKind.i64.bits c.S).toNat (BitVec.ofInt IntKind.i64.bits 255).toNat) : Nat) : Int)) 12) = (cA c).S := cG (z := (cA c).S) (by omega) (by omega)
 rw [e1, e2, e3, e4]
 refine aq h ?_
 clear h; intro M h
 refine aq h ?_
 clear h; intro M h
 refine aq h ?_
 clear h; intro M h
 refine aq h ?_
 clear h; intro M h
 refine ⟨bk h, bk h, bk h, aH h (aH h (aH h (aH h ?_)))⟩
 exact k _ (h.sub bM)
theorem s9 {pa : PA} {p : ck} {b wb db : Nat} {x y : Sc} {e : Ev} (h : Hp R L M) [q : mu b L pa p wb db x L'] (hp : m5 R pa p) (hd : x.d.k.Ok) (he : x.step p = some (y, .ev e))
  (k : ∀ R' A c M', R.le R' → RS bB R' A c e.ready → y.d.k.Ok → Hp R' (ax (eY pa p wb db) b y :: L') M' → K (EC e A c) M') : aa Tryz.prog 54 #[.pointer (some ⟨b, 0, none⟩)] M K Kp :=
 xp h hp hd he (fun R' A c M' h1 h2 h3 => k R' A c M' h1 h2 (CO hd he) h3)
theorem CP (h : Hp R L M) (k : ∀ R' M', R.le R' → Hp R' L M' → K (.bool true) M') : aa Tryz.prog 13 #[] M K Kp := by
 refine mZ ?_
 refine aj h ?_
 clear h; intro k1 M h
 refine aj h ?_
 clear h; intro k3 M h
 have h1 := (h.pt k1).fz (E := BX) (l := [⟨20, 0, 0, 0⟩, ⟨10, 0, 0, 0⟩]) rfl
 obtain ⟨R1, Z7, vn, h2⟩ := h1.eo (some ⟨k1, 0, none⟩)
 have h3 := h2.fz (E := G1) (l := [(some ⟨k1, 0, none⟩, 2, 2)]) rfl
 obtain ⟨R2, CN, Oo, h4⟩ := h3.eo (some ⟨k3, 0, none⟩)
 clear h h1 h2 h3
 have hp : m5 R2 ⟨some ⟨k3, 0, none⟩, 1, none, 0, none, 0⟩ OA := ⟨⟨_, Oo, rfl, fun i t f a b => by
  match i, a, b with
  | 0, a, b => simp at a; cases b; subst a; exact ⟨vn.le CN, rfl⟩
  | i + 1, a, b => simp at a⟩, RS.nil _ _⟩
 have hle : R.le R2 := Mem.le_trans Z7 CN
 refine aj h4 ?_
 clear h4; intro k5 M h
 refine aq h ?_
 clear h; intro M h
 refine aq h ?_
 clear h; intro M h
 refine aq h ?_
 clear h; intro M h
 refine aq h ?_
 clear h; intro M h
 refine bj h (bj h (aH h (bj h ?_)))
 refine aj h ?_
 clear h; intro fe M h
 replace h := (h.pt fe).fz (E := Dz) (l := [0, 0, 0, 0]) rfl
 refine fu (l := [0, 0, 0, 0]) h (Src.row (A := some ⟨fe, 0, none⟩)) rfl (by decide) ?_
 clear h; intro db M h
 refine eM ⟨bx (bk h) (bx (bk h) (bx (bk h) (bx (bk h) dQ))), ?_⟩
 refine jm (p := OA) (pa := ⟨some ⟨k3, 0, none⟩, 1, none, 0, none, 0⟩) (c := ⟨1, 1, 2, 9⟩) h (RS.nil _ _) (by decide) (by decide) (by decide) (by decide) ?_
 clear h; intro b wb M h
 refine eM ⟨bx (bk h) (bx (bk h) (bx (bk h) (bx (bk h) dQ))), ai ?_⟩
 refine s9 h hp gq Ri ?_
 clear h; intro R3 A1 c1 M l3 r1 Nl h
 refine ⟨_, _, _, _, _, _, rfl, ?_⟩
 refine s9 h (hp.le l3) Nl Rj ?_
 clear h Nl; intro R4 A2 c2 M l4 r2 Nl h
 refine ⟨_, _, _, _, _, _, rfl, ?_⟩
 refine s9 h (hp.le (Mem.le_trans l3 l4)) Nl Rk ?_
 clear h Nl; intro R5 A3 c3 M l5 r3 Nl h
 refine ⟨_, _, _, _, _, _, rfl, ?_⟩
 refine aj h ?_
 clear h; intro r7 M h
 refine aj h ?_
 clear h; intro DR M h
 refine aj h ?_
 clear h; intro yZ M h
 refine iF h ?_
 clear h; intro M h
 refine iF h ?_
 clear h; intro M h
 refine iF h ?_
 clear h; intro M h
 refine s9 h (hp.le (Mem.le_trans l3 (Mem.le_trans l4 l5))) Nl Rl ?_
 clear h Nl; intro R6 A4 c4 M l6 r4 Nl h
 refine ⟨_, _, _, _, _, _, rfl, ?_⟩
 refine aH h ?_
 rw [show LH.2.kind = 2 from by kernel_rfl]
 refine af (aH h ?_)
 rw [show Sh.2.kind = 4 from by kernel_rfl]
 refine af (aH h ?_)
 rw [show Sh.2.g = 0 from by kernel_rfl]
 refine af (aH h ?_)
 rw [show UF.2.kind = 7 from by kernel_rfl]
 refine af ?_
 refine jd h (by rw [show d18.1.w.gs.length = 1 from by kernel_rfl]; decide) ?_
 rw [show d18.1.status = 1 from by kernel_rfl]
 refine cE (af ?_)
 refine CF h ?_
 rw [show d18.1.steps = 4 from by kernel_rfl]
 exact cE (k R6 _ (Mem.le_trans hle (Mem.le_trans l3 (Mem.le_trans l4 (Mem.le_trans l5 l6)))) (h.sub bM))
end
def HL : List Value := [.int .i64 0, .int .i64 0, .int .i64 0, .int .i64 0, .int .u64 0]
inductive m8 : List PanicEntry → Int → List Value → Prop
 | d1 : m8 Ho 1 HL
 | d2 : m8 (vr Ho) 1 HL
 | u1 (a q n k x : Int) : m8 (Se a q n k x) 2 [.int .i64 a, .int .i64 q, .int .i64 n, .int .i64 k, .int .u64 x]
 | u2 (a q n k x : Int) : m8 (vr (Se a q n k x)) 2 [.int .i64 a, .int .i64 q, .int .i64 n, .int .i64 k, .int .u64 x]
section
variable {R : Mem} {L L' L2 : List HP} {M : Mem} {K : Value → Mem → Prop} {Kp : List PanicEntry → Mem → Prop} {u0 : Value} {S : Mem → List HP → Prop} {D : Mem → List PanicEntry → List HP → Prop}
def Fv (R : Mem) (L : List HP) (u0 : Value) (S : Mem → List HP → Prop) (D : Mem → List PanicEntry → List HP → Prop) : Prop := ∀ (Q : HP) (M : Mem) (K : Value → Mem → Prop) (Kp : List PanicEntry → Mem → Prop), Hp R (Q :: L) M →
 (∀ R' L' M', S R' L' → Hp R' (Q :: L') M' → K (.tuple #[]) M') → (∀ R' l L' M', D R' l L' → Hp R' (Q :: L') M' → Kp l M') → gK Cx u0 [] M K Kp
theorem yo {b1 b2 : Nat} (h : Hp R (pt b1 [.int .i64 0] 3 :: pt b2 HL 97 :: L) M) (hc : Fv R L u0 S D) (hd : ∀ R' l L', D R' l L' → ∃ e vs, m8 l e vs)
  (k : ∀ R' L' M', S R' L' → Hp R' (pt b1 [.int .i64 0] 3 :: pt b2 HL 97 :: L') M' → K (.tuple #[]) M')
  (kd : ∀ R' l L' M' e vs, D R' l L' → m8 l e vs → Hp R' (pt b1 [.int .i64 e] 3 :: pt b2 vs 97 :: L') M' → K (.tuple #[]) M') :
  aa Tryz.prog 116 #[u0, .pointer (some ⟨b1, 0, none⟩), .pointer (some ⟨b2, 0, none⟩)] M K Kp := by
 refine tZ ?_
 refine aj h ?_
 clear h
 intro k1 M h
 refine aj h ?_
 clear h
 intro k3 M h
 refine hc (sep [pt k3 [.pointer (some ⟨b2, 0, none⟩)] _, pt k1 [.pointer (some ⟨b1, 0, none⟩)] _, pt b1 [.int .i64 0] 3, pt b2 HL 97]) M _ _ (Hp.aQ.2 h) ?_ ?_
 ·clear h
  intro R' L' M' hs h
  have h := Hp.aQ.1 h
  exact ⟨rfl, GS (k R' L' M' hs h.drop.drop)⟩
 ·clear h
  intro R' l L' M hs h
  replace h := Hp.aQ.1 h
  obtain ⟨e, vs, hg⟩ := hd _ _ _ hs
  have UG := kd R' l L'
  simp only [List.cons_append, List.nil_append, HL] at h UG
  clear kd k hc hd
  cases hg with
  | d1 =>
   refine D3 ?_
   repeat (first|(refine aj h ?_;clear h;intro kb M h)|(refine aq h ?_;clear h;intro M h)|refine St.to h ?_|(apply Exists.intro;(repeat apply Exists.intro);refine And.intro rfl ?_)|refine au ?_|refine af ?_|refine ai ?_)
   exact UG _ _ _ hs .d1 (h.sub bM)
  | d2 =>
   refine Cb ?_
   repeat (first|(refine aj h ?_;clear h;intro kb M h)|(refine aq h ?_;clear h;intro M h)|refine St.to h ?_|(apply Exists.intro;(repeat apply Exists.intro);refine And.intro rfl ?_)|refine au ?_|refine af ?_|refine ai ?_)
   exact UG _ _ _ hs .d2 (h.sub bM)
  | u1 a q n k x =>
   refine ym ?_
   repeat (first|(refine aj h ?_;clear h;intro kb M h)|(refine aq h ?_;clear h;intro M h)|refine St.to h ?_|(apply Exists.intro;(repeat apply Exists.intro);refine And.intro rfl ?_)|refine au ?_|refine af ?_|refine ai ?_)
   exact UG _ _ _ hs (.u1 a q n k x) (h.sub bM)
  | u2 a q n k x =>
   refine wQ ?_
   repeat (first|(refine aj h ?_;clear h;intro kb M h)|(refine aq h ?_;clear h;intro M h)|refine St.to h ?_|(apply Exists.intro;(repeat apply Exists.intro);refine And.intro rfl ?_)|refine au ?_|refine af ?_|refine ai ?_)
   exact UG _ _ _ hs (.u2 a q n k x) (h.sub bM)
theorem m8.shape {l : List PanicEntry} {e : Int} {vs : List Value} (h : m8 l e vs) : (e = 1 ∨ e = 2) ∧ ∃ a q n k x : Int, vs = [.int .i64 a, .int .i64 q, .int .i64 n, .int .i64 k, .int .u64 x] := by
 cases h with
 | d1 => exact ⟨.inl rfl, 0, 0, 0, 0, 0, rfl⟩
 | d2 => exact ⟨.inl rfl, 0, 0, 0, 0, 0, rfl⟩
 | u1 a q n k x => exact ⟨.inr rfl, a, q, n, k, x, rfl⟩
 | u2 a q n k x => exact ⟨.inr rfl, a, q, n, k, x, rfl⟩
theorem ta (h : Hp R L M) (hc : Fv R L u0 S D) (hd : ∀ R' l L', D R' l L' → ∃ e vs, m8 l e vs)
  (k : ∀ R' L' M', S R' L' → Hp R' L' M' → K (.tuple #[.int .i64 0, .agg #[.int .i64 0, .int .i64 0, .int .i64 0, .int .i64 0, .int .u64 0]]) M')
  (kd : ∀ R' l L' M' e a q n k x, D R' l L' → m8 l e [.int .i64 a, .int .i64 q, .int .i64 n, .int .i64 k, .int .u64 x] → Hp R' L' M' → K (.tuple #[.int .i64 e, .agg #[.int .i64 a, .int .i64 q, .int .i64 n, .int .i64 k, .int .u64 x]]) M') :
  aa Tryz.prog 61 #[u0] M K Kp := by
 refine vk ?_
 refine aj h ?_
 clear h
 intro k1 M h
 refine aj h ?_
 clear h
 intro k3 M h
 refine aj h ?_
 clear h
 intro k5 M h
 repeat (refine aq h ?_; clear h; intro M h)
 refine yo (S := fun R' L2 => ∃ L', S R' L' ∧ L2 = pt k1 HL 97 :: L') (D := fun R' l L2 => ∃ L', D R' l L' ∧ L2 = pt k1 HL 97 :: L') (L := pt k1 HL 97 :: L) (h.sub bM) ?_ ?_ ?_ ?_
 ·intro Q M K Kp h Vp k2
  refine hc (sep [Q, pt k1 HL 97]) M K Kp (Hp.aQ.2 h) ?_ ?_
  ·intro R' L' M' hs h
   exact Vp R' _ M' ⟨L', hs, rfl⟩ (Hp.aQ.1 h)
  ·intro R' l L' M' hs h
   exact k2 R' l _ M' ⟨L', hs, rfl⟩ (Hp.aQ.1 h)
 ·rintro R' l _ ⟨L', hs, _⟩
  exact hd _ _ _ hs
 ·rintro R' _ M ⟨L', hs, rfl⟩ h
  clear hc hd kd
  simp only [HL] at h
  refine ⟨rfl, ?_⟩
  repeat (first|(refine aj h ?_;clear h;intro kb M h)|(refine aq h ?_;clear h;intro M h)|refine St.to h ?_|(apply Exists.intro;(repeat apply Exists.intro);refine And.intro rfl ?_)|refine au ?_|refine af ?_|refine ai ?_)
  exact k _ _ _ hs (h.sub bM)
 ·rintro R' l _ M e vs ⟨L', hs, rfl⟩ hg h
  obtain ⟨_, a, q, n, kk, x, rfl⟩ := hg.shape
  clear hc hd k
  simp only [HL] at h
  refine ⟨rfl, ?_⟩
  repeat (first|(refine aj h ?_;clear h;intro kb M h)|(refine aq h ?_;clear h;intro M h)|refine St.to h ?_|(apply Exists.intro;(repeat apply Exists.intro);refine And.intro rfl ?_)|refine au ?_|refine af ?_|refine ai ?_)
  exact kd _ _ _ _ _ _ _ _ _ _ hs hg (h.sub bM)
theorem Hx {k k' : gx} {kind m : Int} {l : List PanicEntry} (h : k.next kind m = (k', .cQ l)) : ∃ e vs, m8 l e vs ∧ m8 (vr l) e vs := by
 cases k with
 | m7 t i =>
  unfold gx.next at h
  dsimp only at h
  split at h
  ·cases h; exact ⟨_, _, .d1, .d2⟩
  ·cases h
 | tape t i =>
  unfold gx.next at h
  dsimp only at h
  split at h
  ·cases h; exact ⟨_, _, .d1, .d2⟩
  ·split at h
   ·cases h; exact ⟨_, _, .u1 _ _ _ _ _, .u2 _ _ _ _ _⟩
   ·split at h
    ·cases h; exact ⟨_, _, .u1 _ _ _ _ _, .u2 _ _ _ _ _⟩
    ·cases h
theorem uq {x x' : kK} {kind n : Int} {l : List PanicEntry} (h : x.draw kind n = (x', .cQ l)) : ∃ e vs, m8 l e vs ∧ m8 (vr l) e vs := by
 unfold kK.draw at h
 split at h
 ·cases h
 ·rename_i k' l' hn
  cases h
  exact Hx hn
theorem Ky {d d' : kK} {a : Option (Int × Int)} {l : List PanicEntry} (h : eu d a = (d', .cQ l)) : ∃ e vs, m8 l e vs ∧ m8 (vr l) e vs := by
 cases a with
 | none => cases h
 | some q => exact uq h
theorem Nm {z y : Sc} {o : lu} {l : List PanicEntry} (h : xm (z, o) = (y, .cQ l)) : o = .cQ l := by
 cases o with
 | ev e => cases h
 | cQ l' => cases h; rfl
theorem Kz {p : ck} {x y : Sc} {l : List PanicEntry} (he : x.step p = some (y, .cQ l)) : ∃ e vs, m8 l e vs := by
 unfold Sc.step at he
 split at he
 ·split at he
  ·cases he
  ·split at he
   ·rename_i hd
    cases he
    obtain ⟨e, vs, h, _⟩ := uq hd
    exact ⟨e, vs, h⟩
   ·rename_i d' m hd
    simp only [Option.map_eq_some_iff] at he
    obtain ⟨⟨z, o⟩, ha, hi⟩ := he
    have ho := Nm hi
    subst ho
    clear hi hd
    unfold Sc.act at ha
    split at ha
    ·split at ha
     ·cases ha
     ·cases ha
    ·split at ha
     ·cases ha
     ·split at ha
      ·split at ha
       ·simp only [Option.some.injEq] at ha
        unfold Sc.find at ha
        dsimp only at ha
        split at ha
        ·cases ha
        ·split at ha
         ·split at ha
          ·rename_i hd
           cases ha
           obtain ⟨e, vs, h, _⟩ := uq hd
           exact ⟨e, vs, h⟩
          ·split at ha <;> cases ha
         ·cases ha
       ·cases ha
      ·unfold Sc.run at ha
       split at ha
       ·split at ha
        ·split at ha
         ·cases ha
         ·rename_i l' w rest hex
          cases ha
          obtain ⟨vo, _⟩ := zx hex
          obtain ⟨e, vs, _, h⟩ := Ky (d' := _) (by rw [← vo])
          exact ⟨e, vs, h⟩
         ·unfold g7 at ha
          split at ha <;> cases ha
         ·unfold g7 at ha
          split at ha <;> cases ha
        ·cases ha
       ·cases ha
 ·cases he
def UH (R : Mem) (pa : PA) (p : ck) (b wb db : Nat) (L' : List HP) (K : Value → Mem → Prop) (y : Sc) : lu → Prop
 | .ev e => ∀ R' A c M', R.le R' → RS bB R' A c e.ready → y.d.k.Ok → Hp R' (ax (eY pa p wb db) b y :: L') M' → K (.tuple #[EC e A c, .int .i64 0]) M'
 | .cQ l => ∀ e vs M', m8 l e vs → y.d.k.Ok → Hp R (ax (eY pa p wb db) b y :: L') M' → K (.tuple #[EC ⟨0, 0, 0, []⟩ none 0, .int .i64 e]) M'
theorem rh {pa : PA} {p : ck} {b wb db : Nat} {x y : Sc} {o : lu} (h : Hp R L M) [q : mu b L pa p wb db x L'] (hp : m5 R pa p) (hd : x.d.k.Ok) (he : x.step p = some (y, o)) (k : UH R pa p b wb db L' K y o) :
  aa Tryz.prog 17 #[.pointer (some ⟨b, 0, none⟩)] M K Kp := by
 refine oh ?_
 replace h := h.pick q.pick
 refine aj h ?_
 clear h
 intro k1 M h
 refine aj h ?_
 clear h
 intro k3 M h
 refine aj h ?_
 clear h
 intro k5 M h
 have U4 := CO hd he
 cases o with
 | ev e =>
  refine ta (D := fun _ _ _ => False) (S := fun R' L2 => R.le R' ∧ ∃ A c, RS bB R' A c e.ready ∧ L2 = ax (eY pa p wb db) b y :: pt k5 [.int .i64 e.kind, .int .i64 e.m, .int .i64 e.g, .slice A e.ready.length c] 43 :: pt k3 [.int .i64 0, .int .i64 0, .int .i64 0, .slice none 0 0] 43 :: L') h ?_ ?_ ?_ ?_
  ·intro Q M K Kp h kk _
   refine y7 (args := []) ⟨by decide, by show _ < 255; decide⟩ ?_
   refine gR ?_
   refine wA h ?_
   refine s9 h hp hd he ?_
   clear h; intro R' A c M hle uT hk h
   refine ⟨_, _, _, _, _, _, rfl, ?_⟩
   repeat (refine aq h ?_; clear h; intro M h)
   exact kk R' _ M ⟨hle, A, c, uT, rfl⟩ (h.sub bM)
  ·exact fun _ _ _ hs => hs.elim
  ·rintro R' _ M ⟨hle, A, c, uT, rfl⟩ h
   refine ⟨_, _, _, _, _, _, rfl, ?_⟩
   refine aj h ?_
   clear h
   intro gI M h
   repeat (first|(refine aj h ?_;clear h;intro kb M h)|(refine aq h ?_;clear h;intro M h)|refine St.to h ?_|(apply Exists.intro;(repeat apply Exists.intro);refine And.intro rfl ?_)|refine au ?_|refine af ?_|refine ai ?_)
   exact k R' A c _ hle uT U4 (h.sub bM)
  ·exact fun _ _ _ _ _ _ _ _ _ _ hs => hs.elim
 | cQ l =>
  obtain ⟨e, vs, hg⟩ := Kz he
  refine ta (S := fun _ _ => False) (D := fun R' l' L2 => R' = R ∧ l' = l ∧ L2 = ax (eY pa p wb db) b y :: pt k5 [.int .i64 0, .int .i64 0, .int .i64 0, .slice none 0 0] 43 :: pt k3 [.int .i64 0, .int .i64 0, .int .i64 0, .slice none 0 0] 43 :: L') h ?_ ?_ ?_ ?_
  ·intro Q M K Kp h _ kk
   refine y7 (args := []) ⟨by decide, by show _ < 255; decide⟩ ?_
   refine gR ?_
   refine wA h ?_
   refine xp h hp hd he ?_
   intro M h
   exact kk R _ _ M ⟨rfl, rfl, rfl⟩ (h.sub bM)
  ·rintro R' l' L2 ⟨_, rfl, _⟩
   exact ⟨e, vs, hg⟩
  ·exact fun _ _ _ hs => hs.elim
  ·rintro R' l' _ M e a q n kx xx ⟨rfl, rfl, rfl⟩ hg h
   refine ⟨_, _, _, _, _, _, rfl, ?_⟩
   refine aj h ?_
   clear h
   intro gI M h
   repeat (first|(refine aj h ?_;clear h;intro kb M h)|(refine aq h ?_;clear h;intro M h)|refine St.to h ?_|(apply Exists.intro;(repeat apply Exists.intro);refine And.intro rfl ?_)|refine au ?_|refine af ?_|refine ai ?_)
   exact k _ _ _ hg U4 (h.sub bM)
end
def Si : Option (Sc × lu) → Option Sc
 | some (y, .ev _) => some y
 | _ => none
def fQ (p : ck) : Nat → Sc → Option Sc
 | 0, x => some x
 | j + 1, x => (fQ p j x).bind fun y => Si (y.step p)
theorem xu {p : ck} {j : Nat} {x z : Sc} (h : fQ p (j + 1) x = some z) : ∃ y e, fQ p j x = some y ∧ y.step p = some (z, .ev e) := by
 simp only [fQ, Option.bind_eq_some_iff] at h
 obtain ⟨y, hy, h⟩ := h
 refine ⟨y, ?_⟩
 unfold Si at h
 split at h
 ·rename_i y' e he
  cases h
  exact ⟨e, hy, he⟩
 ·cases h
theorem CQ {p : ck} {x z : Sc} : ∀ (k j : Nat), j ≤ k → ∀ {z : Sc}, fQ p k x = some z → ∃ y, fQ p j x = some y
 | 0, j, h, z, hz => ⟨z, by rw [show j = 0 from by omega]; exact hz⟩
 | k + 1, j, h, z, hz => by
  by_cases hj : j = k + 1
  ·exact ⟨z, by rw [hj]; exact hz⟩
  ·obtain ⟨y, _, hy, _⟩ := xu hz
   exact CQ (x := x) (z := z) k j (by omega) hy
theorem xw {p : ck} {x z : Sc} {k j : Nat} {y : Sc} (h : fQ p k x = some z) (hj : j < k) (hy : fQ p j x = some y) : ∃ y' e, y.step p = some (y', .ev e) ∧ fQ p (j + 1) x = some y' := by
 obtain ⟨y', h'⟩ := CQ (x := x) (z := z) k (j + 1) (by omega) h
 obtain ⟨y2, e, h1, h2⟩ := xu h'
 rw [hy] at h1
 cases h1
 exact ⟨y', e, h2, h'⟩
theorem Fw : bA Tryz.prog 28 27 4 32 [.int .i64 0, .int .i64 0, .int .i64 0, .int .i64 0] := bA.mk' (zv := .agg #[.int .i64 0, .int .i64 0, .int .i64 0, .int .i64 0]) (by kernel_rfl) (by kernel_rfl) rfl (by omega)
section
variable {R : Mem} {L L' : List HP} {M : Mem} {K : Value → Mem → Prop} {Kp : List PanicEntry → Mem → Prop} {pa : PA} {p : ck}
theorem EJ {b wb db : Nat} {x : Sc} (h : Hp R L M) [q : mu b L pa p wb db x L'] (ho : x.w.out.length ≤ 1000000) (k : ∀ A c M', Hp R (qy A c x.w.out :: ax (eY pa p wb db) b x :: L') M' → K (.slice A x.w.out.length c) M') :
  aa Tryz.prog 23 #[.pointer (some ⟨wb, 0, none⟩)] M K Kp := by
 have h' := eH h (b := b)
 clear h
 obtain ⟨a, hla, h⟩ := h'
 refine G3 (b := wb) h (by omega) ?_
 clear h; intro A c M h
 have h2 : Hp R (fS (dk b wb db a x) x.gl :: ax (bu pa p) wb x.w :: ax (b7 .nilFunc) db x.d :: gy a x (qy A c x.w.out :: L')) M := h.sub bM
 exact k A c M ((gz hla h2).sub bM)
theorem Z8 (x : Int) {b m : Int} {q : Nat} (e : m = (q : Int)) (hm : 0 < q) (hb : 0 ≤ b) (UI : b + m < 1000000) : ∃ n : Nat, b + Int.tmod (IntKind.wrap .i64 (((Nat.bitwise and (BitVec.ofInt IntKind.i64.bits x).toNat (BitVec.ofInt IntKind.i64.bits 255).toNat) : Nat) : Int)) m = (n : Int) ∧ b ≤ n ∧ (n : Int) < b + m := by
 obtain ⟨h0, h1⟩ := sZ x e hm
 obtain ⟨n, hn⟩ := Int.eq_ofNat_of_zero_le (show 0 ≤ b + Int.tmod (IntKind.wrap .i64 (((Nat.bitwise and (BitVec.ofInt IntKind.i64.bits x).toNat (BitVec.ofInt IntKind.i64.bits 255).toNat) : Nat) : Int)) m by omega)
 exact ⟨n, hn, by omega, by omega⟩
theorem Nn (x : Int) {b m : Int} {q : Nat} (e : m = (q : Int)) (hm : 0 < q) (hb : 0 ≤ b) (UI : b + m < 1000000) : ∃ n : Nat, IntKind.wrap .i64 (b + Int.tmod (IntKind.wrap .i64 (((Nat.bitwise and (BitVec.ofInt IntKind.i64.bits x).toNat (BitVec.ofInt IntKind.i64.bits 255).toNat) : Nat) : Int)) m) = (n : Int) ∧ b ≤ n ∧ (n : Int) < b + m := by
 obtain ⟨n, hn, h1, h2⟩ := Z8 x e hm hb UI
 refine ⟨n, ?_, h1, h2⟩
 rw [cG (by omega) (by omega)]
 exact hn
end
theorem pg {b : Nat} : ∀ (n : Nat) (l : List Int), (∀ g ∈ l, 0 ≤ g ∧ g < (n : Int)) → (∀ g, l.count g ≤ b) → l.length ≤ b * n
 | 0, l, h, _ => by
  cases l with
  | nil => simp
  | cons a l => have := h a (by simp); omega
 | n + 1, l, h, hc => by
  have h1 : (l.filter (fun g => g != (n : Int))).length ≤ b * n := by
   refine pg n _ (fun g hg => ?_) (fun g => ?_)
   ·obtain ⟨hm, hne⟩ := List.mem_filter.1 hg
    have := h g hm
    simp at hne
    omega
   ·exact Nat.le_trans (List.Sublist.count_le _ List.filter_sublist) (hc g)
  have h2 : l.length = l.count (n : Int) + (l.filter (fun g => g != (n : Int))).length := by
   have := List.length_eq_countP_add_countP (l := l) (fun g => g == (n : Int))
   rw [this, List.count, List.countP_eq_length_filter (p := fun a => decide ¬(a == (n : Int)) = true)]
   congr 2
   apply List.filter_congr
   intro a _
   cases h : (a == (n : Int)) <;> simp_all
  have := hc (n : Int)
  rw [h2, Nat.mul_succ]; omega
theorem ke {α : Type} (f : α → Nat) : ∀ (l : List α) (k : Nat) (c d : α), l[k]? = some d → ((l.set k c).map f).sum + f d = (l.map f).sum + f c
 | [], k, c, d, h => by simp at h
 | a :: l, 0, c, d, h => by simp at h; subst h; simp; omega
 | a :: l, k + 1, c, d, h => by
  have := ke f l k c d (by simpa using h)
  simp only [List.set_cons_succ, List.map_cons, List.sum_cons]; omega
theorem xy {α : Type} (f : α → Nat) : ∀ (l : List α), (l.map f).sum = 0 → ∀ a ∈ l, f a = 0
 | [], _, a, h => by cases h
 | b :: l, hs, a, h => by
  simp only [List.map_cons, List.sum_cons] at hs
  rcases List.mem_cons.1 h with rfl | h
  ·omega
  ·exact xy f l (by omega) a h
theorem xz {α : Type} (f : α → Nat) : ∀ (l : List α) (a : α), a ∈ l → f a ≤ (l.map f).sum
 | b :: l, a, h => by
  simp only [List.map_cons, List.sum_cons]
  rcases List.mem_cons.1 h with rfl | h
  ·omega
  ·have := xz f l a h; omega
theorem oK {α : Type} (f : α → Nat) : ∀ (l : List α), (∀ a ∈ l, f a = 0) → (l.map f).sum = 0
 | [], _ => rfl
 | b :: l, h => by
  simp only [List.map_cons, List.sum_cons]
  rw [h b (by simp), oK f l fun a ha => h a (by simp [ha])]
def cw (c : aL) : List Int := c.snd.map Wt.g ++ c.dS.map Wt.g
def bQ (cs : List aL) (g : Int) : Nat := (cs.map fun c => (cw c).count g).sum
def fY (ls : List Lk) (g : Int) : Nat := (ls.map fun l => l.waits.count g).sum
def AM (hl : List aZ) (g : Int) : Nat := (hl.map aZ.id).count g
def lA (x : Wd) (g : Int) : Prop := (∀ c ∈ x.ay, g ∉ cw c) ∧ (∀ l ∈ x.aS, g ∉ l.waits) ∧ ∀ y ∈ x.hl, y.id ≠ g
theorem td {cs : List aL} {g : Int} : bQ cs g = 0 ↔ ∀ c ∈ cs, g ∉ cw c := by
 constructor
 ·intro h c hc
  exact List.count_eq_zero.1 (xy _ cs h c hc)
 ·intro h
  exact oK _ cs fun c hc => List.count_eq_zero.2 (h c hc)
theorem vP {ls : List Lk} {g : Int} : fY ls g = 0 ↔ ∀ l ∈ ls, g ∉ l.waits := by
 constructor
 ·intro h c hc
  exact List.count_eq_zero.1 (xy _ ls h c hc)
 ·intro h
  exact oK _ ls fun c hc => List.count_eq_zero.2 (h c hc)
def At (x : Wd) (g s : Int) : Prop := 0 ≤ g ∧ g < x.gs.length ∧ (ae x g).st = s
def iS (p : ck) (f : List cN) (i : cN) : Prop := 0 ≤ i.op ∧ i.op < 23 ∧ i.kD ∧ (i.op = 7 → 0 ≤ i.a ∧ i.a < f.length) ∧ (i.op = 8 → 0 ≤ i.b ∧ i.b < f.length) ∧
 (i.op = 9 ∨ i.op = 11 → 0 ≤ i.a ∧ i.a < p.funcs.length ∧ bt i.b ∧ bt i.c) ∧ (i.op = 10 ∨ i.op = 17 ∨ i.op = 20 ∨ i.op = 21 → bt i.a) ∧
 (i.op = 13 ∨ i.op = 14 ∨ i.op = 15 → 0 ≤ i.a ∧ i.a < p.oZ.length) ∧ (i.op = 13 ∨ i.op = 14 → bt i.b) ∧ (i.op = 14 ∨ i.op = 16 → bt i.c) ∧
 (i.op = 16 → 0 ≤ i.a ∧ 1 ≤ i.b ∧ i.a + i.b ≤ p.cases.length) ∧ (i.op = 18 ∨ i.op = 19 → 0 ≤ i.a ∧ i.a < p.aS) ∧ (i.op = 21 → 1 ≤ i.b ∧ i.b < 1099511627776)
structure fm (p : ck) : Prop where
 f1 : 0 < p.funcs.length
 ch : p.oZ.length ≤ 8
 lk : 0 ≤ p.aS ∧ p.aS ≤ 8
 cs : p.cases.length ≤ 32
 Z9 : ∀ c ∈ p.cases, c.Ok p.oZ.length ∧ bt c.bN
 code : ∀ f ∈ p.funcs, 0 < f.length ∧ f.length ≤ 64 ∧ ∀ i ∈ f, iS p f i
def CR (p : ck) (f : fh) : Prop := 0 ≤ f.fn ∧ f.fn < p.funcs.length ∧ 0 ≤ f.pc ∧ f.pc ≤ 64 ∧ bt f.bK
structure m9 (p : ck) (y : cT) : Prop where
 l1 : 0 < y.fs.length
 l2 : y.fs.length ≤ 16
 fr : ∀ f ∈ y.fs, CR p f
 wt : y.st = 2 → ∃ f ∈ p.funcs, iS p f y.wt
 st : 1 ≤ y.st ∧ y.st ≤ 4
structure WV (p : ck) (x : Wd) : Prop where
 n1 : 0 < x.gs.length
 n2 : x.gs.length ≤ 100
 CS : ∀ y ∈ x.gs, m9 p y
 ch : x.ay.length = p.oZ.length
 lk : (x.aS.length : Int) = p.aS
 buf : ∀ c ∈ x.ay, c.buf.length ≤ c.room ∧ c.room ≤ 16
 dS : ∀ c ∈ x.ay, ∀ v ∈ c.dS, At x v.g 2 ∧ ((ae x v.g).wt.op = 14 ∨ (ae x v.g).wt.op = 16 ∧ 0 ≤ v.cs ∧ v.cs < (ae x v.g).wt.b)
 snd : ∀ c ∈ x.ay, ∀ v ∈ c.snd, At x v.g 2 ∧ ((ae x v.g).wt.op = 13 ∨ (ae x v.g).wt.op = 16 ∧ 0 ≤ v.cs ∧ v.cs < (ae x v.g).wt.b)
 lw : ∀ l ∈ x.aS, ∀ g ∈ l.waits, At x g 2 ∧ (ae x g).wt.op = 18
 hl : ∀ y ∈ x.hl, At x y.id 3
 one : ∀ g, 0 ≤ g → (ae x g).wt.op ≠ 16 → bQ x.ay g + fY x.aS g ≤ 1
 AB : ∀ g, bQ x.ay g ≤ 32
 h1 : ∀ g, AM x.hl g ≤ 1
 out : x.out.length ≤ 1000
section
variable {p : ck} {x : Wd} {g : Int}
theorem WV.No (h : WV p x) {c : aL} (hc : c ∈ x.ay) {q : Int} (hq : q ∈ cw c) : At x q 2 ∧ ((ae x q).wt.op = 13 ∨ (ae x q).wt.op = 14 ∨ (ae x q).wt.op = 16) := by
 unfold cw at hq
 rcases List.mem_append.1 hq with hq | hq
 ·obtain ⟨v, hv, rfl⟩ := List.mem_map.1 hq
  obtain ⟨a, b⟩ := h.snd c hc v hv
  exact ⟨a, by rcases b with b | b; exact .inl b; exact .inr (.inr b.1)⟩
 ·obtain ⟨v, hv, rfl⟩ := List.mem_map.1 hq
  obtain ⟨a, b⟩ := h.dS c hc v hv
  exact ⟨a, by rcases b with b | b; exact .inr (.inl b); exact .inr (.inr b.1)⟩
theorem WV.free (h : WV p x) (h2 : (ae x g).st ≠ 2) (h3 : (ae x g).st ≠ 3) : lA x g :=
 ⟨fun c hc hg => h2 (h.No hc hg).1.2.2, fun l hl hg => h2 (h.lw l hl g hg).1.2.2, fun y hy e => h3 (by have := (h.hl y hy).2.2; rwa [e] at this)⟩
theorem WV.Fx (h : WV p x) {c : aL} (hc : c ∈ x.ay) : (cw c).length ≤ 3200 := by
 have h1 := pg (b := 32) x.gs.length (cw c) (fun q hq => ⟨(h.No hc hq).1.1, (h.No hc hq).1.2.1⟩) (fun q => Nat.le_trans (xz (fun c => (cw c).count q) x.ay c hc) (h.AB q))
 have := h.n2
 omega
theorem WV.Rm (h : WV p x) {l : Lk} (hl : l ∈ x.aS) : l.waits.length ≤ 100 := by
 have h1 := pg (b := 1) x.gs.length l.waits (fun q hq => ⟨(h.lw l hl q hq).1.1, (h.lw l hl q hq).1.2.1⟩) (fun q => by
  by_cases hq : q ∈ l.waits
  ·have := h.one q (h.lw l hl q hq).1.1 (by rw [(h.lw l hl q hq).2]; decide)
   have := xz (fun l : Lk => l.waits.count q) x.aS l hl
   unfold fY at *
   omega
  ·rw [List.count_eq_zero.2 hq]; omega)
 have := h.n2
 omega
theorem WV.Fy (h : WV p x) : x.hl.length ≤ 100 := by
 have h1 := pg (b := 1) x.gs.length (x.hl.map aZ.id) (fun q hq => by
  obtain ⟨y, hy, rfl⟩ := List.mem_map.1 hq
  exact ⟨(h.hl y hy).1, (h.hl y hy).2.1⟩) h.h1
 rw [List.length_map] at h1
 have := h.n2
 omega
theorem WV.sm (h : WV p x) (hp : fm p) (hr : x.ready.length ≤ 1000000) : x.Sm := by
 refine ⟨fun c hc => ?_, by have := h.ch; have := hp.ch; omega, by have := h.n2; omega, hr, by have := h.out; omega, fun l hl => by have := h.Rm hl; omega, by have := h.lk; have := hp.lk; omega, by have := h.Fy; omega⟩
 have h1 := h.Fx hc
 unfold cw at h1
 rw [List.length_append, List.length_map, List.length_map] at h1
 have := h.buf c hc
 exact ⟨by omega, by omega, by omega⟩
end
section
variable {p : ck} {x y : Wd} {g q k v : Int} {f : List cN} {i : cN}
theorem gB {z : cT} (hg : g < x.gs.length) (h0 : 0 ≤ g) : ae (x.aY g z) q = if q.toNat = g.toNat then z else ae x q := by
 unfold ae Wd.aY
 dsimp only
 by_cases e : q.toNat = g.toNat
 ·rw [if_pos e, e]
  simp [List.getD_eq_getElem?_getD, List.getElem?_set_self (show g.toNat < x.gs.length by omega)]
 ·rw [if_neg e, List.getD_eq_getElem?_getD, List.getD_eq_getElem?_getD, List.getElem?_set_ne (Ne.symm e)]
theorem ur (h0 : 0 ≤ g) (hg : g < x.gs.length) : ae x g ∈ x.gs := by
 unfold ae
 rw [List.getD_eq_getElem?_getD, List.getElem?_eq_getElem (by omega), Option.getD_some]
 exact List.getElem_mem _
theorem WV.congr (h : WV p x) (hl : y.gs.length = x.gs.length) (hst : ∀ q, (ae y q).st = (ae x q).st ∧ (ae y q).wt = (ae x q).wt) (hg : ∀ z ∈ y.gs, m9 p z) (e1 : y.ay = x.ay) (e2 : y.aS = x.aS) (e3 : y.hl = x.hl) (e4 : y.out.length ≤ 1000) : WV p y := by
 have at_ : ∀ q s, At x q s → At y q s := fun q s ha => ⟨ha.1, by rw [hl]; exact ha.2.1, by rw [(hst q).1]; exact ha.2.2⟩
 refine ⟨by rw [hl]; exact h.n1, by rw [hl]; exact h.n2, hg, by rw [e1]; exact h.ch, by rw [e2]; exact h.lk, by rw [e1]; exact h.buf, ?_, ?_, ?_, ?_, ?_, by rw [e1]; exact h.AB, by rw [e3]; exact h.h1, e4⟩
 ·intro c hc v hv
  rw [e1] at hc
  rw [(hst v.g).2]
  exact ⟨at_ _ _ (h.dS c hc v hv).1, (h.dS c hc v hv).2⟩
 ·intro c hc v hv
  rw [e1] at hc
  rw [(hst v.g).2]
  exact ⟨at_ _ _ (h.snd c hc v hv).1, (h.snd c hc v hv).2⟩
 ·intro l hl q hq
  rw [e2] at hl
  rw [(hst q).2]
  exact ⟨at_ _ _ (h.lw l hl q hq).1, (h.lw l hl q hq).2⟩
 ·intro z hz
  rw [e3] at hz
  exact at_ _ _ (h.hl z hz)
 ·intro q h0 hq
  rw [(hst q).2] at hq
  rw [e1, e2]
  exact h.one q h0 hq
theorem xA {l : List cT} {n : Nat} {z w : cT} (h : w ∈ l.set n z) : w ∈ l ∨ w = z := List.mem_or_eq_of_mem_set h
theorem WV.aY (h : WV p x) (h0 : 0 ≤ g) (hg : g < x.gs.length) {z : cT} (hz : m9 p z) (e1 : z.st = (ae x g).st) (e2 : z.wt = (ae x g).wt) : WV p (x.aY g z) := by
 refine h.congr (by simp [Wd.aY]) (fun q => ?_) (fun w hw => ?_) rfl rfl rfl h.out
 ·rw [gB hg h0]
  split
  ·rename_i e
   have : ae x q = ae x g := by unfold ae; rw [e]
   rw [this]; exact ⟨e1, e2⟩
  ·exact ⟨rfl, rfl⟩
 ·rcases xA hw with hw | rfl
  ·exact h.CS w hw
  ·exact hz
theorem WV.ready (h : WV p x) {r : List Int} : WV p { x with ready := r } := h.congr rfl (fun _ => ⟨rfl, rfl⟩) h.CS rfl rfl rfl h.out
theorem WV.fin (h : WV p x) {e c : Int} : WV p { x with end_ := e, code := c } := h.congr rfl (fun _ => ⟨rfl, rfl⟩) h.CS rfl rfl rfl h.out
theorem WV.Fz (h : WV p x) (h0 : 0 ≤ g) (hg : g < x.gs.length) (hf : lA x g) {z : cT} (hz : m9 p z) : WV p (x.aY g z) := by
 have ne : ∀ q, 0 ≤ q → q ≠ g → ae (x.aY g z) q = ae x q := fun q q0 hq => by rw [gB hg h0, if_neg (by omega)]
 have at_ : ∀ q s, q ≠ g → At x q s → At (x.aY g z) q s := fun q s hq ha => ⟨ha.1, by simpa [Wd.aY] using ha.2.1, by rw [ne q ha.1 hq]; exact ha.2.2⟩
 refine ⟨by simpa [Wd.aY] using h.n1, by simpa [Wd.aY] using h.n2, fun w hw => ?_, h.ch, h.lk, h.buf, ?_, ?_, ?_, ?_, ?_, h.AB, h.h1, h.out⟩
 ·rcases xA hw with hw | rfl
  ·exact h.CS w hw
  ·exact hz
 ·intro c hc v hv
  have hne : v.g ≠ g := fun e => hf.1 c hc (by rw [← e]; exact List.mem_append_right _ (List.mem_map.2 ⟨v, hv, rfl⟩))
  obtain ⟨a, b⟩ := h.dS c hc v hv
  rw [ne _ a.1 hne]
  exact ⟨at_ _ _ hne a, b⟩
 ·intro c hc v hv
  have hne : v.g ≠ g := fun e => hf.1 c hc (by rw [← e]; exact List.mem_append_left _ (List.mem_map.2 ⟨v, hv, rfl⟩))
  obtain ⟨a, b⟩ := h.snd c hc v hv
  rw [ne _ a.1 hne]
  exact ⟨at_ _ _ hne a, b⟩
 ·intro l hl q hq
  have hne : q ≠ g := fun e => hf.2.1 l hl (by rw [← e]; exact hq)
  obtain ⟨a, b⟩ := h.lw l hl q hq
  rw [ne _ a.1 hne]
  exact ⟨at_ _ _ hne a, b⟩
 ·intro w hw
  have hne : w.id ≠ g := hf.2.2 w hw
  exact at_ _ _ hne (h.hl w hw)
 ·intro q q0 hq
  by_cases e : q = g
  ·subst e
   have a := td.2 hf.1
   have b := vP.2 hf.2.1
   show bQ x.ay q + fY x.aS q ≤ 1
   omega
  ·rw [ne q q0 e] at hq
   exact h.one q q0 hq
theorem m9.KA {z : cT} (h : m9 p z) {s : Int} (h1 : s ≠ 2) (h2 : 1 ≤ s ∧ s ≤ 4) : m9 p { z with st := s } := ⟨h.l1, h.l2, h.fr, fun e => absurd e h1, h2⟩
theorem WV.cO (h : WV p x) (h0 : 0 ≤ g) (hg : g < x.gs.length) (hf : lA x g) : WV p (x.cO g) :=
 WV.ready (h.Fz h0 hg hf ((h.CS _ (ur h0 hg)).KA (by decide) (by decide)))
theorem WV.block (h : WV p x) (ha : At x g 1) (hf : f ∈ p.funcs) (hi : iS p f i) : WV p (x.block g i) := by
 have hz := h.CS _ (ur ha.1 ha.2.1)
 exact h.Fz ha.1 ha.2.1 (h.free (by rw [ha.2.2]; decide) (by rw [ha.2.2]; decide)) ⟨hz.l1, hz.l2, hz.fr, fun _ => ⟨f, hf, hi⟩, by show (1 : Int) ≤ 2 ∧ (2 : Int) ≤ 4; decide⟩
theorem iz {α : Type} {l : List α} {n : Nat} {a b : α} (h : b ∈ l.set n a) : b ∈ l ∨ b = a := List.mem_or_eq_of_mem_set h
theorem WV.less (h : WV p x) {c c' : aL} (hc : x.ay[k.toNat]? = some c) (hb : c'.buf.length ≤ c'.room ∧ c'.room ≤ 16) (hr : ∀ v ∈ c'.dS, v ∈ c.dS) (hs : ∀ v ∈ c'.snd, v ∈ c.snd) (hn : ∀ q, (cw c').count q ≤ (cw c).count q) : WV p (x.bS k c') := by
 have hm : c ∈ x.ay := List.mem_of_getElem? hc
 have KB : ∀ q, bQ (x.ay.set k.toNat c') q ≤ bQ x.ay q := by
  intro q
  have := ke (fun c : aL => (cw c).count q) x.ay k.toNat c' c hc
  have := hn q
  unfold bQ
  omega
 refine ⟨h.n1, h.n2, h.CS, by simpa [Wd.bS] using h.ch, h.lk, ?_, ?_, ?_, h.lw, h.hl, ?_, ?_, h.h1, h.out⟩
 ·intro d hd
  rcases iz hd with hd | rfl
  ·exact h.buf d hd
  ·exact hb
 ·intro d hd v hv
  rcases iz hd with hd | rfl
  ·exact h.dS d hd v hv
  ·exact h.dS c hm v (hr v hv)
 ·intro d hd v hv
  rcases iz hd with hd | rfl
  ·exact h.snd d hd v hv
  ·exact h.snd c hm v (hs v hv)
 ·intro q q0 hq
  have := h.one q q0 hq
  have := KB q
  show bQ (x.ay.set k.toNat c') q + fY x.aS q ≤ 1
  omega
 ·intro q
  exact Nat.le_trans (KB q) (h.AB q)
theorem WV.more (h : WV p x) {c c' : aL} {w : Wt} (hc : x.ay[k.toNat]? = some c) (hb : c'.buf.length ≤ c'.room ∧ c'.room ≤ 16)
  (hr : ∀ v ∈ c'.dS, v ∈ c.dS ∨ v = w ∧ At x w.g 2 ∧ ((ae x w.g).wt.op = 14 ∨ (ae x w.g).wt.op = 16 ∧ 0 ≤ w.cs ∧ w.cs < (ae x w.g).wt.b))
  (hs : ∀ v ∈ c'.snd, v ∈ c.snd ∨ v = w ∧ At x w.g 2 ∧ ((ae x w.g).wt.op = 13 ∨ (ae x w.g).wt.op = 16 ∧ 0 ≤ w.cs ∧ w.cs < (ae x w.g).wt.b))
  (hn : ∀ q, (cw c').count q ≤ (cw c).count q + (if q = w.g then 1 else 0)) (hz : (ae x w.g).wt.op ≠ 16 → bQ x.ay w.g + fY x.aS w.g = 0) (h32 : bQ x.ay w.g < 32) : WV p (x.bS k c') := by
 have hm : c ∈ x.ay := List.mem_of_getElem? hc
 have KB : ∀ q, bQ (x.ay.set k.toNat c') q ≤ bQ x.ay q + (if q = w.g then 1 else 0) := by
  intro q
  have := ke (fun c : aL => (cw c).count q) x.ay k.toNat c' c hc
  have := hn q
  unfold bQ
  omega
 refine ⟨h.n1, h.n2, h.CS, by simpa [Wd.bS] using h.ch, h.lk, ?_, ?_, ?_, h.lw, h.hl, ?_, ?_, h.h1, h.out⟩
 ·intro d hd
  rcases iz hd with hd | rfl
  ·exact h.buf d hd
  ·exact hb
 ·intro d hd v hv
  rcases iz hd with hd | rfl
  ·exact h.dS d hd v hv
  ·rcases hr v hv with hv | ⟨rfl, hv⟩
   ·exact h.dS c hm v hv
   ·exact hv
 ·intro d hd v hv
  rcases iz hd with hd | rfl
  ·exact h.snd d hd v hv
  ·rcases hs v hv with hv | ⟨rfl, hv⟩
   ·exact h.snd c hm v hv
   ·exact hv
 ·intro q q0 hq
  have a := KB q
  show bQ (x.ay.set k.toNat c') q + fY x.aS q ≤ 1
  by_cases e : q = w.g
  ·subst e
   have := hz hq
   rw [if_pos rfl] at a
   omega
  ·have := h.one q q0 hq
   rw [if_neg e] at a
   omega
 ·intro q
  have a := KB q
  show bQ (x.ay.set k.toNat c') q ≤ 32
  by_cases e : q = w.g
  ·subst e
   rw [if_pos rfl] at a
   omega
  ·have := h.AB q
   rw [if_neg e] at a
   omega
end
section
variable {p : ck} {x y : Wd} {g q k n : Int} {f : List cN} {i : cN} {v : Wt}
theorem KC {α : Type} (f g : α → Nat) : ∀ (l : List α), (∀ a ∈ l, f a ≤ g a) → (l.map f).sum ≤ (l.map g).sum
 | [], _ => Nat.le_refl _
 | b :: l, h => by
  simp only [List.map_cons, List.sum_cons]
  have := h b (by simp)
  have := KC f g l fun a ha => h a (by simp [ha])
  omega
theorem xB (c : aL) : cw (c.drop g) = (cw c).filter (fun q => q != g) := by
 unfold cw aL.drop wo
 simp only [List.filter_append, List.filter_map]
 rfl
theorem CT (cs : List aL) (q : Int) : bQ (cs.map fun c => c.drop g) q ≤ bQ cs q := by
 unfold bQ
 rw [List.map_map]
 refine KC _ _ cs fun c _ => ?_
 show (cw (c.drop g)).count q ≤ _
 rw [xB]
 exact List.Sublist.count_le _ List.filter_sublist
theorem WV.leave (h : WV p x) : WV p (x.leave g) := by
 refine ⟨h.n1, h.n2, h.CS, by simpa [Wd.leave] using h.ch, h.lk, ?_, ?_, ?_, h.lw, h.hl, ?_, ?_, h.h1, h.out⟩
 ·intro d hd
  obtain ⟨c, hc, rfl⟩ := List.mem_map.1 hd
  exact h.buf c hc
 ·intro d hd v hv
  obtain ⟨c, hc, rfl⟩ := List.mem_map.1 hd
  exact h.dS c hc v (List.mem_filter.1 hv).1
 ·intro d hd v hv
  obtain ⟨c, hc, rfl⟩ := List.mem_map.1 hd
  exact h.snd c hc v (List.mem_filter.1 hv).1
 ·intro q q0 hq
  have := CT (g := g) x.ay q
  have := h.one q q0 hq
  show bQ (x.ay.map fun c => c.drop g) q + fY x.aS q ≤ 1
  omega
 ·intro q
  exact Nat.le_trans (CT x.ay q) (h.AB q)
theorem EK (h : WV p x) (h3 : (ae x g).wt.op ≠ 18) (h2 : (ae x g).st = 2) : lA (x.leave g) g := by
 refine ⟨fun d hd hg => ?_, fun l hl hg => h3 (h.lw l hl g hg).2, fun w hw e => ?_⟩
 ·obtain ⟨c, hc, rfl⟩ := List.mem_map.1 hd
  rw [xB] at hg
  have := (List.mem_filter.1 hg).2
  simp at this
 ·have := (h.hl w hw).2.2
  rw [e, h2] at this
  cases this
theorem CR.set {r : fh} (h : CR p r) (q v : Int) : CR p (r.set q v) := h
theorem m9.bW {z : cT} (h : m9 p z) {r : fh} (hr : CR p r) : m9 p (z.bW r) :=
 ⟨by simpa [cT.bW] using h.l1, by simpa [cT.bW] using h.l2, fun f hf => by
  rcases List.mem_or_eq_of_mem_set hf with hf | rfl
  ·exact h.fr f hf
  ·exact hr, h.wt, h.st⟩
theorem m9.top {z : cT} (h : m9 p z) : CR p z.top := by
 unfold cT.top
 have := h.l1
 rw [List.getD_eq_getElem?_getD, List.getElem?_eq_getElem (by omega), Option.getD_some]
 exact h.fr _ (List.getElem_mem _)
theorem WV.iM (h : WV p x) (h0 : 0 ≤ g) (hg : g < x.gs.length) : m9 p (ae x g) := h.CS _ (ur h0 hg)
theorem WV.be (h : WV p x) (h0 : 0 ≤ g) (hg : g < x.gs.length) : WV p (x.be g q n) :=
 h.aY h0 hg ((h.iM h0 hg).bW ((h.iM h0 hg).top.set q n)) rfl rfl
theorem zA (h0 : 0 ≤ g) (hg : g < x.gs.length) {m : Int} : (ae (x.be g q n) m).st = (ae x m).st ∧ (ae (x.be g q n) m).wt = (ae x m).wt ∧ (ae (x.be g q n) m).fs.length = (ae x m).fs.length := by
 unfold Wd.be
 rw [gB hg h0]
 split
 ·rename_i e
  have : ae x m = ae x g := by unfold ae; rw [e]
  rw [this]
  exact ⟨rfl, rfl, by simp [cT.bW]⟩
 ·exact ⟨rfl, rfl, rfl⟩
theorem lB (h0 : 0 ≤ g) (hg : g < x.gs.length) {m : Int} (h1 : 0 ≤ m) (hne : m ≠ g) : ae (x.be g q n) m = ae x m := by
 unfold Wd.be
 rw [gB hg h0, if_neg (by omega)]
theorem WV.aU (h : WV p x) (h0 : 0 ≤ g) (hg : g < x.gs.length) : aU x g := ⟨h0, hg, (h.iM h0 hg).l1, by have := (h.iM h0 hg).l2; omega⟩
theorem Hy (hp : fm p) {a : Int} (h0 : 0 ≤ a) (h1 : a < p.cases.length) : nN p a ∈ p.cases := by
 unfold nN
 rw [List.getD_eq_getElem?_getD, List.getElem?_eq_getElem (by omega), Option.getD_some]
 exact List.getElem_mem _
theorem WV.nO (h : WV p x) (hp : fm p) (ha : At x v.g 2) (hw : (ae x v.g).wt.op = 14 ∨ (ae x v.g).wt.op = 16 ∧ 0 ≤ v.cs ∧ v.cs < (ae x v.g).wt.b) : nO p x v := by
 refine ⟨h.aU ha.1 ha.2.1, ?_⟩
 obtain ⟨f, hf, hi⟩ := (h.iM ha.1 ha.2.1).wt ha.2.2
 obtain ⟨_, _, _, _, _, _, _, _, i13, i14, i16, _⟩ := hi
 split
 ·rename_i e
  rcases hw with hw | ⟨_, c0, c1⟩
  ·rw [e] at hw; cases hw
  ·obtain ⟨a0, a1, a2⟩ := i16 e
   refine ⟨by omega, by omega, by have := hp.cs; omega, (hp.Z9 _ (Hy hp (by omega) (by omega))).2, i14 (.inr e)⟩
 ·rename_i e
  rcases hw with hw | ⟨hw, _⟩
  ·exact ⟨i13 (.inr hw), i14 (.inl hw)⟩
  ·exact absurd hw e
theorem WV.uM (h : WV p x) (ha : At x v.g 2) : uM x v := by
 refine ⟨h.aU ha.1 ha.2.1, fun e => ?_⟩
 obtain ⟨f, hf, hi⟩ := (h.iM ha.1 ha.2.1).wt ha.2.2
 obtain ⟨_, _, _, _, _, _, _, _, _, i14, _⟩ := hi
 exact i14 (.inr e)
theorem lA.bN (h : lA x g) : lA (x.be q k n) g := h
theorem bI {m : Int} : (x.be g q m).gs.length = x.gs.length := by simp [Wd.be, Wd.aY]
theorem lC : (x.cO g).gs.length = x.gs.length := by simp [Wd.cO, Wd.aY]
theorem pn (h0 : 0 ≤ g) (hg : g < x.gs.length) {m : Int} (h1 : 0 ≤ m) (hne : m ≠ g) : ae (x.cO g) m = ae x m := by
 show ae (x.aY g _) m = _
 rw [gB hg h0, if_neg (by omega)]
theorem tf (h0 : 0 ≤ g) (hg : g < x.gs.length) : (ae (x.cO g) g).st = 1 := by
 show (ae (x.aY g _) g).st = _
 rw [gB hg h0, if_pos rfl]
theorem WV.fM (h : WV p x) (ha : At x g 2) (OB : (ae x g).wt.op ≠ 18) : WV p (x.fM g k) ∧ lA (x.fM g k) g := by
 obtain ⟨h0, hg, h2⟩ := ha
 unfold Wd.fM
 have r2 := h.be (q := (ae x g).wt.c) (n := k) h0 hg
 have e2 := zA (x := x) (q := (ae x g).wt.c) (n := k) h0 hg (m := g)
 exact ⟨r2.leave, EK r2 (by rw [e2.2.1]; exact OB) (by rw [e2.1]; exact h2)⟩
theorem fR : (x.fM g k).gs.length = x.gs.length := by simp [Wd.fM, Wd.leave, bI]
theorem zB (h0 : 0 ≤ g) (hg : g < x.gs.length) {m : Int} (h1 : 0 ≤ m) (hne : m ≠ g) : ae (x.fM g k) m = ae x m := by
 show ae (x.be g _ _) m = _
 exact lB h0 hg h1 hne
theorem WV.received (h : WV p x) (ha : At x v.g 2) (OB : (ae x v.g).wt.op ≠ 18) (hf : (ae x v.g).wt.op ≠ 16 → lA x v.g) {s : Int} : WV p (x.received p v s) := by
 have ha' := ha
 obtain ⟨h0, hg, h2⟩ := ha'
 unfold Wd.received
 dsimp only
 split
 ·have r1 := h.be (q := (nN p ((ae x v.g).wt.a + v.cs)).bN) (n := v.v) h0 hg
  have e1 := zA (x := x) (q := (nN p ((ae x v.g).wt.a + v.cs)).bN) (n := v.v) h0 hg (m := v.g)
  have l1 := bI (x := x) (g := v.g) (q := (nN p ((ae x v.g).wt.a + v.cs)).bN) (m := v.v)
  obtain ⟨r2, f2⟩ := r1.fM (k := v.cs) ⟨h0, by rw [l1]; exact hg, by rw [e1.1]; exact h2⟩ (by rw [e1.2.1]; exact OB)
  exact r2.cO h0 (by rw [fR, l1]; exact hg) f2
 ·rename_i e
  have r1 := h.be (q := (ae x v.g).wt.b) (n := v.v) h0 hg
  have r2 := r1.be (g := v.g) (q := (ae x v.g).wt.c) (n := s) h0 (by rw [bI]; exact hg)
  exact r2.cO h0 (by rw [bI, bI]; exact hg) (hf e)
theorem tg {s : Int} : (x.received p v s).gs.length = x.gs.length := by
 unfold Wd.received
 dsimp only
 split
 ·rw [lC, fR, bI]
 ·rw [lC, bI, bI]
theorem u3 (h0 : 0 ≤ v.g) (hg : v.g < x.gs.length) {s m : Int} (h1 : 0 ≤ m) (hne : m ≠ v.g) : ae (x.received p v s) m = ae x m := by
 unfold Wd.received
 dsimp only
 split
 ·rw [pn h0 (by rw [fR, bI]; exact hg) h1 hne, zB h0 (by rw [bI]; exact hg) h1 hne, lB h0 hg h1 hne]
 ·rw [pn h0 (by rw [bI, bI]; exact hg) h1 hne, lB h0 (by rw [bI]; exact hg) h1 hne, lB h0 hg h1 hne]
theorem kf (h0 : 0 ≤ v.g) (hg : v.g < x.gs.length) {s : Int} : (ae (x.received p v s) v.g).st = 1 ∧ (x.received p v s).ready = x.ready ++ [v.g] := by
 unfold Wd.received
 dsimp only
 split
 ·exact ⟨tf h0 (by rw [fR, bI]; exact hg), rfl⟩
 ·exact ⟨tf h0 (by rw [bI, bI]; exact hg), rfl⟩
theorem WV.sent (h : WV p x) (ha : At x v.g 2) (OB : (ae x v.g).wt.op ≠ 18) (hf : (ae x v.g).wt.op ≠ 16 → lA x v.g) : WV p (x.sent v) := by
 have ha' := ha
 obtain ⟨h0, hg, h2⟩ := ha'
 unfold Wd.sent
 split
 ·obtain ⟨r2, f2⟩ := h.fM (k := v.cs) ha OB
  exact r2.cO h0 (by rw [fR]; exact hg) f2
 ·rename_i e
  exact h.cO h0 hg (hf e)
theorem KD : (x.sent v).gs.length = x.gs.length := by
 unfold Wd.sent
 split
 ·rw [lC, fR]
 ·rw [lC]
theorem Np (h0 : 0 ≤ v.g) (hg : v.g < x.gs.length) {m : Int} (h1 : 0 ≤ m) (hne : m ≠ v.g) : ae (x.sent v) m = ae x m := by
 unfold Wd.sent
 split
 ·rw [pn h0 (by rw [fR]; exact hg) h1 hne, zB h0 hg h1 hne]
 ·rw [pn h0 hg h1 hne]
theorem FA (h0 : 0 ≤ v.g) (hg : v.g < x.gs.length) : (ae (x.sent v) v.g).st = 1 ∧ (x.sent v).ready = x.ready ++ [v.g] := by
 unfold Wd.sent
 split
 ·exact ⟨tf h0 (by rw [fR]; exact hg), rfl⟩
 ·exact ⟨tf h0 hg, rfl⟩
theorem CU (hk : sO x k) : ∃ c, x.ay[k.toNat]? = some c ∧ cR x.ay k = c := by
 obtain ⟨k0, k1⟩ := hk
 obtain ⟨c, hc⟩ := aK (l := x.ay) (i := k.toNat) (by omega)
 exact ⟨c, hc, by simp [cR, hc]⟩
theorem AN (h : WV p x) {c c' : aL} (hc : x.ay[k.toNat]? = some c) (h0 : 0 ≤ g) (h2 : (ae x g).st = 2) (qR : (ae x g).wt.op ≠ 16) (hn : (cw c').count g + 1 ≤ (cw c).count g) : lA (x.bS k c') g := by
 have a := h.one g h0 qR
 have b := ke (fun c : aL => (cw c).count g) x.ay k.toNat c' c hc
 have e1 : bQ (x.ay.set k.toNat c') g = 0 := by unfold bQ at *; omega
 have e2 : fY x.aS g = 0 := by
  have := xz (fun c : aL => (cw c).count g) x.ay c (List.mem_of_getElem? hc)
  unfold bQ at a
  omega
 refine ⟨td.1 e1, vP.1 e2, fun w hw e => ?_⟩
 have := (h.hl w hw).2.2
 rw [e, h2] at this
 cases this
end
def Wk (x y : Wd) : Prop := y.gs.length = x.gs.length ∧ ∃ l : List Int, y.ready = x.ready ++ l ∧ l.Nodup ∧ (∀ q ∈ l, 0 ≤ q ∧ q < x.gs.length ∧ (ae x q).st ≠ 1 ∧ (ae y q).st = 1) ∧ ∀ q, 0 ≤ q → q ∉ l → ae y q = ae x q
section
variable {p : ck} {x y z : Wd} {g q k n : Int} {f : List cN} {i : cN} {v : Wt}
theorem Wk.refl (x : Wd) : Wk x x := ⟨rfl, [], by simp, List.nodup_nil, (fun q h => by cases h), fun q _ _ => rfl⟩
theorem Wk.same (h1 : y.gs = x.gs) (h2 : y.ready = x.ready) : Wk x y := ⟨by rw [h1], [], by simp [h2], List.nodup_nil, fun q h => by (cases h), fun q _ _ => by unfold ae; rw [h1]⟩
theorem Wk.trans (h : Wk x y) (h' : Wk y z) : Wk x z := by
 obtain ⟨a1, l, a2, a3, a4, a5⟩ := h
 obtain ⟨b1, m, b2, b3, b4, b5⟩ := h'
 refine ⟨by rw [b1, a1], l ++ m, by rw [b2, a2, List.append_assoc], ?_, ?_, ?_⟩
 ·refine List.nodup_append.2 ⟨a3, b3, fun q hq r hr e => ?_⟩
  subst e
  exact (b4 q hr).2.2.1 (a4 q hq).2.2.2
 ·intro q hq
  rcases List.mem_append.1 hq with hq | hq
  ·obtain ⟨c1, c2, c3, c4⟩ := a4 q hq
   refine ⟨c1, c2, c3, ?_⟩
   by_cases hm : q ∈ m
   ·exact (b4 q hm).2.2.2
   ·rw [b5 q c1 hm]; exact c4
  ·obtain ⟨c1, c2, c3, c4⟩ := b4 q hq
   by_cases hl : q ∈ l
   ·exact absurd (a4 q hl).2.2.2 c3
   ·exact ⟨c1, by rw [← a1]; exact c2, by rw [← a5 q c1 hl]; exact c3, c4⟩
 ·intro q q0 hq
  rw [List.mem_append] at hq
  rw [b5 q q0 (fun h => hq (.inr h)), a5 q q0 (fun h => hq (.inl h))]
theorem Wk.keep (h : Wk x y) (h0 : 0 ≤ q) (h1 : (ae x q).st = 1) : ae y q = ae x q := by
 obtain ⟨_, l, _, _, a4, a5⟩ := h
 exact a5 q h0 fun hq => (a4 q hq).2.2.1 h1
theorem Wk.received (h0 : 0 ≤ v.g) (hg : v.g < x.gs.length) (h1 : (ae x v.g).st ≠ 1) {s : Int} : Wk x (x.received p v s) :=
 ⟨tg, [v.g], (kf h0 hg).2, by simp, fun q hq => by
  simp only [List.mem_singleton] at hq; subst hq
  exact ⟨h0, hg, h1, (kf h0 hg).1⟩, fun q q0 hq => u3 h0 hg q0 (by simpa using hq)⟩
theorem Wk.sent (h0 : 0 ≤ v.g) (hg : v.g < x.gs.length) (h1 : (ae x v.g).st ≠ 1) : Wk x (x.sent v) :=
 ⟨KD, [v.g], (FA h0 hg).2, by simp, fun q hq => by
  simp only [List.mem_singleton] at hq; subst hq
  exact ⟨h0, hg, h1, (FA h0 hg).1⟩, fun q q0 hq => Np h0 hg q0 (by simpa using hq)⟩
theorem Wk.cO (h0 : 0 ≤ g) (hg : g < x.gs.length) (h1 : (ae x g).st ≠ 1) : Wk x (x.cO g) :=
 ⟨lC, [g], rfl, by simp, fun q hq => by
  simp only [List.mem_singleton] at hq; subst hq
  exact ⟨h0, hg, h1, tf h0 hg⟩, fun q q0 hq => pn h0 hg q0 (by simpa using hq)⟩
theorem Wk.bS {c : aL} : Wk x (x.bS k c) := Wk.same rfl rfl
theorem oL (h : WV p x) {c : aL} (hc : c ∈ x.ay) : c.buf.length ≤ 16 ∧ c.snd.length ≤ 3200 ∧ c.dS.length ≤ 3200 := by
 have h1 := h.Fx hc
 unfold cw at h1
 rw [List.length_append, List.length_map, List.length_map] at h1
 have := h.buf c hc
 omega
def Rn (p : ck) (x : Wd) : Out (Wd × Bool) → Prop
 | .dM _ y => WV p y ∧ y.gs = x.gs ∧ y.ready = x.ready
 | .on (y, true) => WV p y ∧ Wk x y
 | .on (y, false) => y = x
 | .cQ _ _ => False
theorem eB {α : Type} : ∀ (l : List α) (n : Nat) (a : α), l[n]? = some a → l.set n a = l
 | [], _, _, _ => rfl
 | b :: l, 0, a, h => by simp at h; subst h; rfl
 | b :: l, n + 1, a, h => by rw [List.set_cons_succ, eB l n a (by simpa using h)]
theorem mz {c : aL} (hc : x.ay[k.toNat]? = some c) : x.bS k c = x := by
 unfold Wd.bS
 rw [eB _ _ _ hc]
theorem WV.put (h : WV p x) (hp : fm p) (hk : sO x k) : mG p x k n ∧ Rn p x (x.put p k n) := by
 obtain ⟨c, hc, e⟩ := CU hk
 have hm := List.mem_of_getElem? hc
 obtain ⟨s1, s2, s3⟩ := oL h hm
 have hb := h.buf c hm
 have hr := h.dS c hm
 unfold mG Wd.put
 rw [e]
 refine ⟨⟨hk, ?_, ?_⟩, ?_⟩
 ·unfold aL.send
  split
  ·intro h; cases h
  ·split
   ·rename_i w r hw
    intro _
    obtain ⟨a, b⟩ := hr w (by rw [hw]; simp)
    exact h.nO (v := ⟨w.g, w.cs, n⟩) hp a b
   ·split <;> (intro h; cases h)
 ·have : c.Small 3200 := ⟨by omega, s2, s3⟩
  exact (this.send n).mono (by omega)
 ·unfold aL.send
  split
  ·dsimp only
   rw [if_pos rfl, mz hc]
   exact ⟨h, rfl, rfl⟩
  ·split
   ·rename_i w r hw
    dsimp only
    obtain ⟨a, b⟩ := hr w (by rw [hw]; simp)
    have hl : WV p (x.bS k { c with dS := r }) := h.less hc hb (fun v hv => by rw [hw]; exact List.mem_cons_of_mem _ hv) (fun v hv => hv) (fun q => by
     unfold cw; rw [hw]; simp only [List.map_cons, List.count_append, List.count_cons]; omega)
    have hne : (ae x w.g).wt.op ≠ 18 := by rcases b with b | b; rw [b]; decide; rw [b.1]; decide
    rw [if_neg (by decide), if_pos rfl]
    refine ⟨hl.received (v := ⟨w.g, w.cs, n⟩) a hne (fun qR => ?_), Wk.bS.trans (Wk.received (x := x.bS k { c with dS := r }) (v := ⟨w.g, w.cs, n⟩) a.1 a.2.1 (by show (ae x w.g).st ≠ 1; rw [a.2.2]; decide))⟩
    exact AN h hc a.1 a.2.2 qR (by unfold cw; rw [hw]; simp only [List.map_cons, List.count_append, List.count_cons, beq_self_eq_true, if_true]; omega)
   ·rename_i hw
    split
    ·dsimp only
     rw [if_neg (by decide), if_neg (by decide)]
     exact ⟨h.less hc ⟨by simp; omega, hb.2⟩ (fun v hv => hv) (fun v hv => hv) (fun q => Nat.le_refl _), Wk.bS⟩
    ·dsimp only
     rw [if_neg (by decide), if_neg (by decide), mz hc]
     exact rfl
theorem WV.get (h : WV p x) (hp : fm p) (hk : sO x k) : sP x k ∧ WV p (x.get k).1 ∧ Wk x (x.get k).1 ∧ ((x.get k).2.2.2 = false → (x.get k).1 = x) := by
 obtain ⟨c, hc, e⟩ := CU hk
 have hm := List.mem_of_getElem? hc
 obtain ⟨s1, s2, s3⟩ := oL h hm
 have hb := h.buf c hm
 have hs := h.snd c hm
 unfold sP Wd.get
 rw [e]
 obtain ⟨room, buf, snd, dS, closed⟩ := c
 cases snd with
 | cons w r =>
  obtain ⟨a, b⟩ := hs w (by simp)
  obtain ⟨v, l, hv⟩ : ∃ v l, buf ++ [w.v] = v :: l := by
   cases buf with
   | nil => exact ⟨_, _, rfl⟩
   | cons q t => exact ⟨q, t ++ [w.v], rfl⟩
  have hlen : l.length = buf.length := by
   have := congrArg List.length hv
   simp at this; omega
  have er : aL.recv ⟨room, buf, w :: r, dS, closed⟩ = (⟨room, l, r, dS, closed⟩, v, true, w, true, 0) := by
   unfold aL.recv aL.all
   dsimp only
   rw [hv]
   rfl
  rw [er]
  dsimp only
  have hl : WV p (x.bS k ⟨room, l, r, dS, closed⟩) := h.less hc (by rw [hlen]; exact hb) (fun v hv => hv) (fun v hv => List.mem_cons_of_mem _ hv) (fun q => by
   unfold cw; simp only [List.map_cons, List.cons_append, List.count_cons]; omega)
  have hne : (ae x w.g).wt.op ≠ 18 := by rcases b with b | b; rw [b]; decide; rw [b.1]; decide
  rw [if_pos rfl, if_pos rfl]
  refine ⟨⟨hk, fun _ => h.uM a, ⟨by dsimp only at *; omega, by simp only [List.length_cons] at s2; dsimp only; omega, by dsimp only at *; omega⟩⟩, hl.sent a hne (fun qR => ?_), Wk.bS.trans (Wk.sent (x := x.bS k ⟨room, l, r, dS, closed⟩) a.1 a.2.1 (by show (ae x w.g).st ≠ 1; rw [a.2.2]; decide)), (fun h => by cases h)⟩
  exact AN h hc a.1 a.2.2 qR (by unfold cw; simp only [List.map_cons, List.cons_append, List.count_cons, beq_self_eq_true, if_true]; omega)
 | nil =>
  cases buf with
  | cons q t =>
   have er : aL.recv ⟨room, q :: t, [], dS, closed⟩ = (⟨room, t, [], dS, closed⟩, q, true, .zero, false, 0) := rfl
   rw [er]
   dsimp only
   simp only [Bool.false_eq_true, if_false, if_true]
   simp only [List.length_cons] at s1 hb
   exact ⟨⟨hk, (fun h => by cases h), ⟨by dsimp only; omega, by dsimp only at *; omega, by dsimp only at *; omega⟩⟩, h.less hc ⟨by dsimp only; omega, hb.2⟩ (fun v hv => hv) (fun v hv => hv) (fun q => Nat.le_refl _), Wk.bS, (fun h => by cases h)⟩
  | nil =>
   have er : aL.recv ⟨room, [], [], dS, closed⟩ = (⟨room, [], [], dS, closed⟩, 0, false, .zero, false, if closed then 0 else 5) := rfl
   rw [er]
   dsimp only
   simp only [Bool.false_eq_true, if_false, mz hc]
   exact ⟨⟨hk, (fun h => by cases h), ⟨by dsimp only at *; omega, by dsimp only at *; omega, by dsimp only at *; omega⟩⟩, h, Wk.refl _, fun _ => trivial⟩
end
section
variable {p : ck} {x y z : Wd} {g q k n : Int} {f : List cN} {i : cN} {v : Wt}
def Ro (x : Wd) (v : Wt) : Prop := 0 ≤ v.g ∧ v.g < x.gs.length ∧ ((ae x v.g).st = 2 → (ae x v.g).wt.op = 14 ∧ lA x v.g ∨ (ae x v.g).wt.op = 16 ∧ 0 ≤ v.cs ∧ v.cs < (ae x v.g).wt.b)
def xC (x y : Wd) : Prop := (∀ d ∈ y.ay, ∃ c ∈ x.ay, ∀ q ∈ cw d, q ∈ cw c) ∧ y.aS = x.aS ∧ y.hl = x.hl
theorem xC.refl (x : Wd) : xC x x := ⟨fun d hd => ⟨d, hd, fun _ h => h⟩, rfl, rfl⟩
theorem xC.free (h : xC x y) (hf : lA x g) : lA y g := by
 obtain ⟨a, b, c⟩ := h
 refine ⟨fun d hd hg => ?_, by rw [b]; exact hf.2.1, by rw [c]; exact hf.2.2⟩
 obtain ⟨e, he, hs⟩ := a d hd
 exact hf.1 e he (hs g hg)
theorem xC.leave : xC x (x.leave g) := ⟨fun d hd => by
 obtain ⟨c, hc, rfl⟩ := List.mem_map.1 hd
 exact ⟨c, hc, fun q hq => by rw [xB] at hq; exact (List.mem_filter.1 hq).1⟩, rfl, rfl⟩
theorem xC.received {s : Int} : xC x (x.received p v s) := by
 unfold Wd.received
 dsimp only
 split
 ·exact xC.leave (x := (x.be v.g (nN p ((ae x v.g).wt.a + v.cs)).bN v.v).be v.g _ _)
 ·exact xC.refl x
theorem uu (hp : fm p) : ∀ (l : List Wt) (x : Wd), WV p x → x.ready.length + l.length ≤ 1000000 → (∀ v ∈ l, Ro x v) → ud p x l ∧ WV p (l.foldl (cY p) x) ∧ Wk x (l.foldl (cY p) x)
 | [], x, h, _, _ => ⟨trivial, h, Wk.refl x⟩
 | v :: l, x, h, hr, ha => by
  obtain ⟨h0, hg, h2⟩ := ha v (by simp)
  have iP : x.ready.length ≤ 1000000 := by simp only [List.length_cons] at hr; omega
  by_cases e : (ae x v.g).st = 2
  ·have Ba : At x v.g 2 := ⟨h0, hg, e⟩
   have hne : (ae x v.g).wt.op ≠ 18 := by rcases h2 e with b | b; rw [b.1]; decide; rw [b.1]; decide
   have hw := h.received (v := { v with v := 0 }) Ba hne (fun qR => by
    rcases h2 e with b | b
    ·exact b.2
    ·exact absurd b.1 qR) (s := 0)
   have hk : Wk x (x.received p { v with v := 0 } 0) := Wk.received (v := { v with v := 0 }) h0 hg (by rw [e]; decide)
   have es : cY p x v = x.received p { v with v := 0 } 0 := by unfold cY; rw [if_pos e]
   have hrd : (x.received p { v with v := 0 } 0).ready = x.ready ++ [v.g] := (kf (v := { v with v := 0 }) h0 hg).2
   obtain ⟨r1, r2, r3⟩ := uu hp l (x.received p { v with v := 0 } 0) hw (by rw [hrd]; simp only [List.length_append, List.length_cons, List.length_nil] at *; omega) (fun w So => by
    obtain ⟨b0, b1, b2⟩ := ha w (List.mem_cons_of_mem _ So)
    refine ⟨b0, by rw [tg]; exact b1, fun Sj => ?_⟩
    by_cases ew : w.g = v.g
    ·rw [ew, (kf (v := { v with v := 0 }) h0 hg).1] at Sj; cases Sj
    ·rw [u3 (v := { v with v := 0 }) h0 hg b0 ew] at Sj ⊢
     rcases b2 Sj with c | c
     ·exact .inl ⟨c.1, xC.received.free c.2⟩
     ·exact .inr c)
   refine ⟨⟨h.sm hp iP, h0, hg, fun _ => h.nO (v := { v with v := 0 }) hp Ba ?_, by rw [es]; exact r1⟩, by rw [List.foldl_cons, es]; exact r2, by rw [List.foldl_cons, es]; exact hk.trans r3⟩
   rcases h2 e with b | b
   ·exact .inl b.1
   ·exact .inr b
  ·have es : cY p x v = x := by unfold cY; rw [if_neg e]
   obtain ⟨r1, r2, r3⟩ := uu hp l x h (by simp only [List.length_cons] at hr; omega) (fun w So => ha w (List.mem_cons_of_mem _ So))
   exact ⟨⟨h.sm hp iP, h0, hg, fun Sj => absurd Sj e, by rw [es]; exact r1⟩, by rw [List.foldl_cons, es]; exact r2, by rw [List.foldl_cons, es]; exact r3⟩
end
theorem FB {l : List aZ} {i : Nat} (h : i < l.length) : jS l i = l[i] := by
 unfold jS; rw [List.getD_eq_getElem?_getD, List.getElem?_eq_getElem h]; rfl
theorem ri {l : List aZ} {i j : Nat} (hi : i < l.length) (hj : j < l.length) : (dW l i j).Perm l := by
 unfold dW
 rw [FB hi, FB hj]
 exact List.set_set_perm hi hj
theorem xD : ∀ (f i : Nat) (l : List aZ), i < l.length → (G8 f i l).Perm l
 | 0, _, l, _ => List.Perm.refl l
 | f + 1, i, l, h => by
  unfold G8
  split
  ·exact (xD f _ _ (by rw [eG]; omega)).trans (ri h (by omega))
  ·exact List.Perm.refl l
theorem xE : ∀ (f i : Nat) (l : List aZ), i < l.length → (mH f i l).Perm l
 | 0, _, l, _ => List.Perm.refl l
 | f + 1, i, l, h => by
  unfold mH
  split
  ·exact List.Perm.refl l
  ·have := (zm h).1
   exact (xE f _ _ (by rw [eG]; exact this)).trans (ri h this)
theorem jG {l : List aZ} {x : aZ} : (oA l x).Perm (l ++ [x]) := xD _ _ _ (by simp)
theorem th {l : List aZ} {i : Nat} (h : i < l.length) : l.Perm (jS l i :: ct l i) := by
 have hn : l.length - 1 < l.length := by omega
 have h1 : (dW l i (l.length - 1)).Perm l := ri h hn
 have JV : (dW l i (l.length - 1))[l.length - 1]? = some (jS l i) := by
  unfold dW
  rw [List.getElem?_set_self (by rw [List.length_set]; exact hn)]
 have h2 : dW l i (l.length - 1) = (dW l i (l.length - 1)).take (l.length - 1) ++ [jS l i] := by
  have e : dW l i (l.length - 1) = (dW l i (l.length - 1)).take (l.length - 1 + 1) := by
   rw [List.take_of_length_le (by rw [eG]; omega)]
  conv => lhs; rw [e]
  rw [List.take_add_one, JV]
  rfl
 have h3 : l.Perm (jS l i :: (dW l i (l.length - 1)).take (l.length - 1)) := by
  refine h1.symm.trans ?_
  rw [h2]
  have : (List.take (l.length - 1) (dW l i (l.length - 1)) ++ [jS l i]).take (l.length - 1) = (dW l i (l.length - 1)).take (l.length - 1) := by rw [← h2]
  rw [this]
  exact List.perm_append_comm
 unfold ct
 split
 ·rename_i hlt
  have hlen : ((dW l i (l.length - 1)).take (l.length - 1)).length = l.length - 1 := by rw [List.length_take, eG]; omega
  refine h3.trans (List.Perm.cons _ ?_)
  exact ((xD _ _ _ (by rw [ir, hlen]; exact hlt)).trans (xE _ _ _ (by rw [hlen]; exact hlt))).symm
 ·exact h3
theorem rj : ∀ (f : Nat) (l : List aZ) (now : Int), l.Perm ((cv f l now).2 ++ (cv f l now).1)
 | 0, l, _ => by simp [cv]
 | f + 1, l, now => by
  unfold cv
  split
  ·rename_i h
   refine (th h.1).trans ?_
   dsimp only
   exact List.Perm.cons _ (rj f _ now)
  ·simp
def gH (g : Int) (x y : Wd) : Prop := y.ready.Nodup ∧ g ∉ y.ready ∧ (∀ q ∈ y.ready, 0 ≤ q ∧ q < y.gs.length ∧ ¬ At x q 1 ∧ (ae y q).st = 1) ∧
 (∀ q, 0 ≤ q → q ≠ g → q ∉ y.ready → ae y q = ae x q) ∧ x.gs.length ≤ y.gs.length ∧ ∀ q : Int, x.gs.length ≤ q → q < y.gs.length → q ∈ y.ready
section
variable {p : ck} {x y z : Wd} {g q k n : Int} {f : List cN} {i : cN} {v : Wt}
theorem gH.refl (hr : x.ready = []) : gH g x x := by
 refine ⟨by rw [hr]; exact List.nodup_nil, by rw [hr]; simp, fun q hq => ?_, fun _ _ _ _ => rfl, Nat.le_refl _, fun q a b => by omega⟩
 rw [hr] at hq; cases hq
theorem gH.of (h : Wk x y) (hr : x.ready = []) (hg : At x g 1) : gH g x y := by
 obtain ⟨a1, l, a2, a3, a4, a5⟩ := h
 rw [hr, List.nil_append] at a2
 rw [gH, a2]
 refine ⟨a3, fun hm => (a4 g hm).2.2.1 hg.2.2, fun q hq => ?_, fun q q0 _ hn => a5 q q0 hn, by omega, fun q b c => by omega⟩
 obtain ⟨b1, b2, b3, b4⟩ := a4 q hq
 exact ⟨b1, by omega, fun ha => b3 ha.2.2, b4⟩
theorem gH.Hz (h : gH g x y) (h1 : z.ready = y.ready) (h2 : z.gs.length = y.gs.length) (h3 : ∀ q, 0 ≤ q → q ≠ g → ae z q = ae y q) : gH g x z := by
 obtain ⟨a1, a2, a3, a4, a5, a6⟩ := h
 rw [gH, h1, h2]
 refine ⟨a1, a2, fun q hq => ?_, fun q q0 hne hn => by rw [h3 q q0 hne]; exact a4 q q0 hne hn, a5, a6⟩
 have hne : q ≠ g := fun e => a2 (e ▸ hq)
 obtain ⟨b1, b2, b3, b4⟩ := a3 q hq
 exact ⟨b1, b2, b3, by rw [h3 q b1 hne]; exact b4⟩
theorem gH.pre (h : gH g y z) (h2 : y.gs.length = x.gs.length) (h3 : ∀ q, 0 ≤ q → q ≠ g → ae y q = ae x q) : gH g x z := by
 obtain ⟨a1, a2, a3, a4, a5, a6⟩ := h
 refine ⟨a1, a2, fun q hq => ?_, fun q q0 hne hn => by rw [a4 q q0 hne hn, h3 q q0 hne], by omega, fun q a b => a6 q (by omega) b⟩
 have hne : q ≠ g := fun e => a2 (e ▸ hq)
 obtain ⟨b1, b2, b3, b4⟩ := a3 q hq
 exact ⟨b1, b2, fun ha => b3 ⟨ha.1, by rw [h2]; exact ha.2.1, by rw [h3 q b1 hne]; exact ha.2.2⟩, b4⟩
theorem gH.bN (h : gH g x y) (h0 : 0 ≤ g) (hg : g < y.gs.length) : gH g x (y.be g q n) := h.Hz rfl bI fun m m0 hne => lB h0 hg m0 hne
theorem po {w : cT} (h0 : 0 ≤ g) (hg : g < x.gs.length) {m : Int} (m0 : 0 ≤ m) (hne : m ≠ g) : ae (x.aY g w) m = ae x m := by
 rw [gB hg h0, if_neg (by omega)]
theorem gH.aY {w : cT} (h : gH g x y) (h0 : 0 ≤ g) (hg : g < y.gs.length) : gH g x (y.aY g w) := h.Hz rfl (by simp [Wd.aY]) fun m m0 hne => po h0 hg m0 hne
def gn (p : ck) (g : Int) (x : Wd) : Out Wd → Prop
 | .dM _ y => WV p y ∧ gH g x y
 | .on y => WV p y ∧ gH g x y
 | .cQ _ _ => False
theorem gn.lt {r : Out Wd} (h : gn p g x r) (hg : At x g 1) : g < r.fin.gs.length := by
 cases r with
 | on y => have := h.2.2.2.2.2.1; have := hg.2.1; show g < y.gs.length; omega
 | dM n y => have := h.2.2.2.2.2.1; have := hg.2.1; show g < y.gs.length; omega
 | cQ l y => exact h.elim
theorem lA.vz (h : lA x g) : bQ x.ay g = 0 ∧ fY x.aS g = 0 ∧ AM x.hl g = 0 :=
 ⟨td.2 h.1, vP.2 h.2.1, List.count_eq_zero.2 fun hm => by
  obtain ⟨y, hy, e⟩ := List.mem_map.1 hm
  exact h.2.2 y hy e⟩
theorem At.free (hg : At x g 1) (h : WV p x) : lA x g := h.free (by rw [hg.2.2]; decide) (by rw [hg.2.2]; decide)
theorem Nq (h : WV p x) (hg : At x g 1) (hi : iS p f i) (h9 : i.op = 9) (hr : x.ready = []) : (aU x g ∧ bt i.b) ∧ gn p g x (x.call g i) := by
 obtain ⟨_, _, _, _, _, i9, _⟩ := hi
 obtain ⟨a0, a1, b1, c1⟩ := i9 (.inl h9)
 have hz := h.iM hg.1 hg.2.1
 refine ⟨⟨h.aU hg.1 hg.2.1, b1⟩, ?_⟩
 unfold Wd.call
 split
 ·exact ⟨h, gH.refl hr⟩
 ·rename_i hn
  refine ⟨h.aY hg.1 hg.2.1 ⟨by simp, by simp; omega, fun r hr => ?_, hz.wt, hz.st⟩ rfl rfl, (gH.refl hr).aY hg.1 hg.2.1⟩
  rcases List.mem_append.1 hr with hr | hr
  ·exact hz.fr r hr
  ·simp only [List.mem_singleton] at hr; subst hr
   exact ⟨a0, a1, Int.le_refl 0, (by show (0 : Int) ≤ 64; decide), c1⟩
theorem Nr (h : WV p x) (hp : fm p) (hg : At x g 1) (hi : iS p f i) (h20 : i.op = 20) (hr : x.ready = []) : (aU x g ∧ bt i.a ∧ x.Sm) ∧ gn p g x (x.emit g i) := by
 obtain ⟨_, _, _, _, _, _, i10, _⟩ := hi
 refine ⟨⟨h.aU hg.1 hg.2.1, i10 (.inr (.inr (.inl h20))), h.sm hp (by rw [hr]; decide)⟩, ?_⟩
 unfold Wd.emit
 split
 ·exact ⟨h, gH.refl hr⟩
 ·rename_i hn
  exact ⟨h.congr rfl (fun _ => ⟨rfl, rfl⟩) h.CS rfl rfl rfl (by simp; omega), (gH.refl hr).Hz rfl rfl fun _ _ _ => rfl⟩
theorem Ns (h : WV p x) (hg : At x g 1) (hi : iS p f i) (Ul : i.op = 10) (hr : x.ready = []) : (aU x g ∧ bt i.a ∧ bt (ae x g).top.bK) ∧ gn p g x (.on (x.back g i)) := by
 obtain ⟨_, _, _, _, _, _, i10, _⟩ := hi
 have hz := h.iM hg.1 hg.2.1
 refine ⟨⟨h.aU hg.1 hg.2.1, i10 (.inl Ul), hz.top.2.2.2.2⟩, ?_⟩
 have hf := hg.free h
 unfold Wd.back
 split
 ·rename_i h2
  refine ⟨h.aY hg.1 hg.2.1 ⟨by simp [cT.back]; omega, by have := hz.l2; simp [cT.back]; omega, fun r hr => ?_, hz.wt, hz.st⟩ rfl rfl, (gH.refl hr).aY hg.1 hg.2.1⟩
  rcases List.mem_or_eq_of_mem_set hr with hr | rfl
  ·exact hz.fr r (List.mem_of_mem_take hr)
  ·refine CR.set ?_ _ _
   rw [List.getD_eq_getElem?_getD, List.getElem?_eq_getElem (by omega), Option.getD_some]
   exact hz.fr _ (List.getElem_mem _)
 ·have hd : WV p (x.aY g { ae x g with st := 4 }) := h.Fz hg.1 hg.2.1 hf (hz.KA (by decide) (by decide))
  have OC : gH g x (x.aY g { ae x g with st := 4 }) := (gH.refl hr).aY hg.1 hg.2.1
  split
  ·exact ⟨hd.congr rfl (fun _ => ⟨rfl, rfl⟩) hd.CS rfl rfl rfl hd.out, OC.Hz rfl rfl fun _ _ _ => rfl⟩
  ·exact ⟨hd, OC⟩
theorem Nt (h : WV p x) (hp : fm p) (hg : At x g 1) (hf : f ∈ p.funcs) (hi : iS p f i) (UJ : i.op = 13) (hr : x.ready = []) :
  ((aU x g ∧ bt i.b ∧ mG p x i.a (aT x g i.b) ∧ sW x g i (x.put p i.a (aT x g i.b))) ∧ x.Sm) ∧ gn p g x (x.send p g i) := by
 have hi' := hi
 obtain ⟨_, _, _, _, _, _, _, i13, KE, _⟩ := hi'
 obtain ⟨a0, a1⟩ := i13 (.inl UJ)
 have hk : sO x i.a := ⟨a0, by rw [h.ch]; exact a1⟩
 obtain ⟨p1, p2⟩ := h.put (n := aT x g i.b) hp hk
 have Ki := h.aU hg.1 hg.2.1
 have hs := h.sm hp (by rw [hr]; decide)
 have hfr := hg.free h
 obtain ⟨c, hc, ec⟩ := CU hk
 have hm := List.mem_of_getElem? hc
 obtain ⟨s1, s2, s3⟩ := oL h hm
 unfold Wd.send
 generalize lq : x.put p i.a (aT x g i.b) = r at p2
 match r, p2 with
 | .dM n y, p2 =>
  exact ⟨⟨⟨Ki, KE (.inl UJ), p1, trivial⟩, hs⟩, p2.1, gH.of (Wk.same p2.2.1 p2.2.2) hr hg⟩
 | .on (y, true), p2 =>
  exact ⟨⟨⟨Ki, KE (.inl UJ), p1, trivial⟩, hs⟩, p2.1, gH.of p2.2 hr hg⟩
 | .on (y, false), p2 =>
  have p3 : y = x := p2
  subst p3
  refine ⟨⟨⟨Ki, KE (.inl UJ), p1, Ki, rfl, hk, by rw [ec]; exact ⟨by omega, by omega, by omega⟩⟩, hs⟩, ?_, ?_⟩
  ·have hb := h.block hg hf hi
   have eg : ae (y.block g i) g = { ae y g with st := 2, wt := i } := fW hg.1 hg.2.1
   show WV p ((y.block g i).bS i.a { cR y.ay i.a with snd := (cR y.ay i.a).snd ++ [⟨g, 0, aT y g i.b⟩] })
   rw [ec]
   refine hb.more (c := c) (w := ⟨g, 0, aT y g i.b⟩) hc (h.buf c hm) (fun v hv => .inl hv) (fun v hv => ?_) (fun q => ?_) (fun _ => ?_) ?_
   ·rcases List.mem_append.1 hv with hv | hv
    ·exact .inl hv
    ·refine .inr ⟨by simpa using hv, ⟨hg.1, by simpa [Wd.block, Wd.aY] using hg.2.1, by rw [eg]⟩, .inl (by rw [eg]; exact UJ)⟩
   ·unfold cw
    simp only [List.map_append, List.map_cons, List.map_nil, List.count_append, List.count_cons, List.count_nil]
    by_cases e : q = g
    ·subst e; simp; omega
    ·rw [if_neg e]
     have : (g == q) = false := by simp; exact fun h => e h.symm
     simp [this]
   ·have := hfr.vz
    show bQ y.ay g + fY y.aS g = 0
    omega
   ·have := hfr.vz
    show bQ y.ay g < 32
    omega
  ·exact (gH.refl hr).Hz rfl (by simp [Wd.block, Wd.Fi, Wd.aY, Wd.bS]) fun m m0 hne => by
    show ae (y.aY g _) m = _
    exact po hg.1 hg.2.1 m0 hne
 | .cQ l y, p2 => exact p2.elim
end
section
variable {p : ck} {x y z : Wd} {g q k n : Int} {f : List cN} {i : cN} {v : Wt}
theorem jH (l : List Int) (q g : Int) : (l ++ [g]).count q ≤ l.count q + (if q = g then 1 else 0) := by
 rw [List.count_append, List.count_cons, List.count_nil]
 by_cases e : q = g
 ·subst e; simp
 ·rw [if_neg e]
  have : (g == q) = false := by simp; exact fun h => e h.symm
  simp [this]
theorem Nu (h : WV p x) (hp : fm p) (hg : At x g 1) (hf : f ∈ p.funcs) (hi : iS p f i) (Vx : i.op = 14) (hr : x.ready = []) :
  (ue x g i ∧ x.Sm) ∧ gn p g x (.on (x.recv g i)) := by
 have hi' := hi
 obtain ⟨_, _, _, _, _, _, _, i13, KE, i14, _⟩ := hi'
 obtain ⟨a0, a1⟩ := i13 (.inr (.inl Vx))
 have hk : sO x i.a := ⟨a0, by rw [h.ch]; exact a1⟩
 obtain ⟨p1, p2, p3, p4⟩ := h.get hp hk
 have Ki := h.aU hg.1 hg.2.1
 have hs := h.sm hp (by rw [hr]; decide)
 have hfr := hg.free h
 obtain ⟨c, hc, ec⟩ := CU hk
 have hm := List.mem_of_getElem? hc
 obtain ⟨s1, s2, s3⟩ := oL h hm
 have ek := p3.keep hg.1 hg.2.2
 have el := p3.1
 refine ⟨⟨⟨Ki, KE (.inr Vx), i14 (.inl Vx), p1, p2.aU hg.1 (by rw [el]; exact hg.2.1), by rw [ek], fun e => ?_⟩, hs⟩, ?_⟩
 ·rw [p4 e]
  exact ⟨hk, by rw [ec]; exact ⟨by omega, by omega, by omega⟩⟩
 ·unfold Wd.recv
  have OC : gH g x (x.get i.a).1 := gH.of p3 hr hg
  split
  ·have r1 := p2.be (g := g) (q := i.b) (n := (x.get i.a).2.1) hg.1 (by rw [el]; exact hg.2.1)
   refine ⟨r1.be hg.1 (by rw [bI, el]; exact hg.2.1), (OC.bN hg.1 (by rw [el]; exact hg.2.1)).bN hg.1 (by rw [bI, el]; exact hg.2.1)⟩
  ·rename_i e
   rw [p4 (by simpa using e)]
   have hb := h.block hg hf hi
   have eg : ae (x.block g i) g = { ae x g with st := 2, wt := i } := fW hg.1 hg.2.1
   refine ⟨?_, ?_⟩
   ·show WV p ((x.block g i).bS i.a { cR x.ay i.a with dS := (cR x.ay i.a).dS ++ [⟨g, 0, 0⟩] })
    rw [ec]
    refine hb.more (c := c) (w := ⟨g, 0, 0⟩) hc (h.buf c hm) (fun v hv => ?_) (fun v hv => .inl hv) (fun q => ?_) (fun _ => ?_) ?_
    ·rcases List.mem_append.1 hv with hv | hv
     ·exact .inl hv
     ·exact .inr ⟨by simpa using hv, ⟨hg.1, by simpa [Wd.block, Wd.aY] using hg.2.1, by rw [eg]⟩, .inl (by rw [eg]; exact Vx)⟩
    ·unfold cw
     rw [List.map_append, ← List.append_assoc]
     exact jH _ _ _
    ·have := hfr.vz
     show bQ x.ay g + fY x.aS g = 0
     omega
    ·have := hfr.vz
     show bQ x.ay g < 32
     omega
   ·exact (gH.refl hr).Hz rfl (by simp [Wd.block, Wd.Ck, Wd.aY, Wd.bS]) fun m m0 hne => by
     show ae (x.aY g _) m = _
     exact po hg.1 hg.2.1 m0 hne
theorem Nv (h : WV p x) (hp : fm p) (hg : At x g 1) (hi : iS p f i) (h15 : i.op = 15) (hr : x.ready = []) :
  (mh p x i ∧ x.Sm) ∧ gn p g x (x.shut p i) := by
 have hi' := hi
 obtain ⟨_, _, _, _, _, _, _, i13, _⟩ := hi'
 obtain ⟨a0, a1⟩ := i13 (.inr (.inr h15))
 have hk : sO x i.a := ⟨a0, by rw [h.ch]; exact a1⟩
 have hs := h.sm hp (by rw [hr]; decide)
 obtain ⟨c, hc, ec⟩ := CU hk
 have hm := List.mem_of_getElem? hc
 obtain ⟨s1, s2, s3⟩ := oL h hm
 have hb := h.buf c hm
 have hrc := h.dS c hm
 unfold mh Wd.shut
 rw [ec]
 obtain ⟨room, buf, snd, dS, closed⟩ := c
 cases closed with
 | true =>
  refine ⟨⟨⟨hk, by dsimp only at *; omega, fun e => by simp [aL.close] at e⟩, hs⟩, ?_⟩
  simp only [aL.close, if_true]
  rw [mz hc]
  exact ⟨h, gH.refl hr⟩
 | false =>
  have Q4 : WV p (x.bS i.a ⟨room, buf, [], [], true⟩) := h.less hc hb (fun v hv => by cases hv) (fun v hv => by cases hv) (fun q => by simp [cw])
  have KF := uu hp dS (x.bS i.a ⟨room, buf, [], [], true⟩) Q4 (by show x.ready.length + dS.length ≤ 1000000; rw [hr]; dsimp only [List.length_nil] at *; omega) (fun v hv => by
   obtain ⟨a, b⟩ := hrc v hv
   refine ⟨a.1, a.2.1, fun _ => ?_⟩
   rcases b with b | b
   ·refine .inl ⟨b, AN h hc a.1 a.2.2 (by rw [b]; decide) ?_⟩
    have : 0 < List.count v.g (cw ⟨room, buf, snd, dS, false⟩) := List.count_pos_iff.2 (List.mem_append_right _ (List.mem_map.2 ⟨v, hv, rfl⟩))
    show List.count v.g (cw ⟨room, buf, [], [], true⟩) + 1 ≤ _
    simp only [cw, List.map_nil, List.append_nil, List.count_nil] at *
    omega
   ·exact .inr b)
  refine ⟨⟨⟨hk, by dsimp only at *; omega, fun _ _ => ?_⟩, hs⟩, ?_⟩
  ·simp only [aL.close, Bool.false_eq_true, if_false]
   exact KF.1
  ·simp only [aL.close, Bool.false_eq_true, if_false]
   rw [if_neg (by decide)]
   split
   ·exact ⟨Q4, (gH.refl hr).Hz rfl rfl fun _ _ _ => rfl⟩
   ·exact ⟨KF.2.1, gH.of (Wk.bS.trans KF.2.2) hr hg⟩
theorem KG (h : WV p x) (hp : fm p) (hg : At x g 1) (hi : iS p f i) (h17 : i.op = 17) (hr : x.ready = []) :
  (aU x g ∧ bt i.a ∧ x.hl.length < 1000000) ∧ gn p g x (.on (x.sleep g i)) := by
 obtain ⟨_, _, _, _, _, _, i10, _⟩ := hi
 refine ⟨⟨h.aU hg.1 hg.2.1, i10 (.inr (.inl h17)), by have := h.Fy; omega⟩, ?_⟩
 unfold Wd.sleep
 split
 ·have hf := hg.free h
  have hz := h.iM hg.1 hg.2.1
  have h1 := h.Fz hg.1 hg.2.1 hf (hz.KA (s := 3) (by decide) (by decide))
  have OC : gH g x (x.aY g { ae x g with st := 3 }) := (gH.refl hr).aY hg.1 hg.2.1
  refine ⟨⟨h1.n1, h1.n2, h1.CS, h1.ch, h1.lk, h1.buf, h1.dS, h1.snd, h1.lw, fun w hw => ?_, h1.one, h1.AB, fun q => ?_, h1.out⟩, OC.Hz rfl rfl fun _ _ _ => rfl⟩
  ·have DP := jG.mem_iff.1 hw
   rcases List.mem_append.1 DP with DP | DP
   ·exact h1.hl w DP
   ·simp only [List.mem_singleton] at DP; subst DP
    refine ⟨hg.1, by simpa [Wd.aY] using hg.2.1, ?_⟩
    show (ae (x.aY g { ae x g with st := 3 }) g).st = 3
    rw [fW hg.1 hg.2.1]
  ·show AM (oA x.hl _) q ≤ 1
   unfold AM
   rw [(jG.map aZ.id).count_eq, List.map_append, List.map_cons, List.map_nil]
   have a := jH (x.hl.map aZ.id) q g
   have b := h.h1 q
   unfold AM at b
   by_cases e : q = g
   ·subst e
    have := hf.vz.2.2
    unfold AM at this
    rw [if_pos rfl] at a
    dsimp only at *
    omega
   ·rw [if_neg e] at a
    dsimp only at *
    omega
 ·exact ⟨h, gH.refl hr⟩
theorem OD (hk : AK x k) : ∃ c, x.aS[k.toNat]? = some c ∧ m6 x k = c := by
 obtain ⟨k0, k1⟩ := hk
 obtain ⟨c, hc⟩ := aK (l := x.aS) (i := k.toNat) (by omega)
 exact ⟨c, hc, by simp [m6, hc]⟩
theorem WV.EL (h : WV p x) {c c' : Lk} (hc : x.aS[k.toNat]? = some c) (hr : ∀ v ∈ c'.waits, v ∈ c.waits) (hn : ∀ q, c'.waits.count q ≤ c.waits.count q) : WV p (x.fP k c') := by
 have hm : c ∈ x.aS := List.mem_of_getElem? hc
 refine ⟨h.n1, h.n2, h.CS, h.ch, by simpa [Wd.fP] using h.lk, h.buf, h.dS, h.snd, fun d hd v hv => ?_, h.hl, fun q q0 hq => ?_, h.AB, h.h1, h.out⟩
 ·rcases iz hd with hd | rfl
  ·exact h.lw d hd v hv
  ·exact h.lw c hm v (hr v hv)
 ·have a := h.one q q0 hq
  have b := ke (fun l : Lk => l.waits.count q) x.aS k.toNat c' c hc
  have := hn q
  show bQ x.ay q + fY (x.aS.set k.toNat c') q ≤ 1
  unfold fY at *
  omega
theorem Nw (h : WV p x) (hp : fm p) (hg : At x g 1) (hf : f ∈ p.funcs) (hi : iS p f i) (OB : i.op = 18) (hr : x.ready = []) :
  (aU x g ∧ AK x i.a ∧ x.Sm) ∧ gn p g x (.on (x.lock g i)) := by
 have hi' := hi
 obtain ⟨_, _, _, _, _, _, _, _, _, _, _, i18, _⟩ := hi'
 obtain ⟨a0, a1⟩ := i18 (.inl OB)
 have hk : AK x i.a := ⟨a0, by rw [h.lk]; exact a1⟩
 refine ⟨⟨h.aU hg.1 hg.2.1, hk, h.sm hp (by rw [hr]; decide)⟩, ?_⟩
 obtain ⟨c, hc, ec⟩ := OD hk
 have hm := List.mem_of_getElem? hc
 have hfr := hg.free h
 unfold Wd.lock
 rw [ec]
 unfold Lk.take
 split
 ·dsimp only
  rw [if_pos rfl]
  exact ⟨h.EL hc (fun v hv => hv) (fun q => Nat.le_refl _), (gH.refl hr).Hz rfl rfl fun _ _ _ => rfl⟩
 ·dsimp only
  rw [if_neg (by decide)]
  have hb := h.block hg hf hi
  have eg : ae (x.block g i) g = { ae x g with st := 2, wt := i } := fW hg.1 hg.2.1
  refine ⟨?_, ?_⟩
  ·show WV p ((x.block g i).fP i.a ⟨c.owner, c.waits ++ [g]⟩)
   refine ⟨hb.n1, hb.n2, hb.CS, hb.ch, by simpa [Wd.fP] using hb.lk, hb.buf, hb.dS, hb.snd, fun d hd v hv => ?_, hb.hl, fun q q0 hq => ?_, hb.AB, hb.h1, hb.out⟩
   ·rcases iz hd with hd | rfl
    ·exact hb.lw d hd v hv
    ·rcases List.mem_append.1 hv with hv | hv
     ·exact hb.lw c hm v hv
     ·simp only [List.mem_singleton] at hv; subst hv
      exact ⟨⟨hg.1, by simpa [Wd.fP, Wd.block, Wd.aY] using hg.2.1, by show (ae (x.block v i) v).st = 2; rw [eg]⟩, by show (ae (x.block v i) v).wt.op = 18; rw [eg]; exact OB⟩
   ·have a := hb.one q q0 hq
    have b := ke (fun l : Lk => l.waits.count q) x.aS i.a.toNat ⟨c.owner, c.waits ++ [g]⟩ c hc
    have d := jH c.waits q g
    show bQ x.ay q + fY (x.aS.set i.a.toNat _) q ≤ 1
    have a' : bQ x.ay q + fY x.aS q ≤ 1 := a
    by_cases e : q = g
    ·subst e
     have := hfr.vz
     rw [if_pos rfl] at d
     unfold fY at *
     dsimp only at *
     omega
    ·rw [if_neg e] at d
     unfold fY at *
     dsimp only at *
     omega
  ·exact (gH.refl hr).Hz rfl (by simp [Wd.block, Wd.fP, Wd.aY]) fun m m0 hne => by
    show ae (x.aY g _) m = _
    exact po hg.1 hg.2.1 m0 hne
theorem HA (h : WV p x) (hp : fm p) (hg : At x g 1) (hi : iS p f i) (h19 : i.op = 19) (hr : x.ready = []) :
  (lg x g i ∧ x.Sm) ∧ gn p g x (x.unlock g i) := by
 have hi' := hi
 obtain ⟨_, _, _, _, _, _, _, _, _, _, _, i18, _⟩ := hi'
 obtain ⟨a0, a1⟩ := i18 (.inr h19)
 have hk : AK x i.a := ⟨a0, by rw [h.lk]; exact a1⟩
 have hs := h.sm hp (by rw [hr]; decide)
 obtain ⟨c, hc, ec⟩ := OD hk
 have hm := List.mem_of_getElem? hc
 have hw := h.lw c hm
 unfold lg Wd.unlock
 rw [ec]
 unfold Lk.qd
 split
 ·refine ⟨⟨⟨hk, fun e => absurd rfl e⟩, hs⟩, ?_⟩
  dsimp only
  rw [if_pos (by decide)]
  have e : x.fP i.a c = x := by unfold Wd.fP; rw [eB _ _ _ hc]
  rw [e]
  exact ⟨h, gH.refl hr⟩
 ·obtain ⟨o, ws⟩ := c
  cases ws with
  | nil =>
   refine ⟨⟨⟨hk, fun e => absurd rfl e⟩, hs⟩, ?_⟩
   split
   ·rename_i e; exact absurd rfl e
   ·split
    ·rename_i e; exact absurd rfl e
    ·exact ⟨h.EL (c' := ⟨-1, []⟩) hc (fun v hv => by cases hv) (fun q => by simp), (gH.refl hr).Hz rfl rfl fun _ _ _ => rfl⟩
  | cons w ws =>
   obtain ⟨a, b⟩ := hw w (by simp)
   refine ⟨⟨⟨hk, fun _ => ⟨a.1, a.2.1⟩⟩, hs⟩, ?_⟩
   have hne : w ≠ -1 := by have := a.1; omega
   have hl : WV p (x.fP i.a ⟨w, ws⟩) := h.EL hc (fun v hv => List.mem_cons_of_mem _ hv) (fun q => by simp only [List.count_cons]; omega)
   have hfr : lA (x.fP i.a ⟨w, ws⟩) w := by
    have o1 := h.one w a.1 (by rw [b]; decide)
    have s := ke (fun l : Lk => l.waits.count w) x.aS i.a.toNat ⟨w, ws⟩ ⟨o, w :: ws⟩ hc
    simp only [List.count_cons, beq_self_eq_true, if_true] at s
    have e1 : fY (x.aS.set i.a.toNat ⟨w, ws⟩) w = 0 := by unfold fY at *; omega
    have e2 : bQ x.ay w = 0 := by
     have := xz (fun l : Lk => l.waits.count w) x.aS ⟨o, w :: ws⟩ hm
     simp only [List.count_cons, beq_self_eq_true, if_true] at this
     unfold fY at *; omega
    refine ⟨td.1 e2, vP.1 e1, fun y hy e => ?_⟩
    have := (h.hl y hy).2.2
    rw [e, a.2.2] at this
    cases this
   have hres : gn p g x (.on ((x.fP i.a ⟨w, ws⟩).cO w)) := ⟨hl.cO a.1 a.2.1 hfr, gH.of (Wk.trans (Wk.same rfl rfl) (Wk.cO (x := x.fP i.a ⟨w, ws⟩) a.1 a.2.1 (by show (ae x w).st ≠ 1; rw [a.2.2]; decide))) hr hg⟩
   split
   ·rename_i e; exact absurd rfl e
   ·split
    ·exact hres
    ·rename_i e; exact absurd hne e
end
section
variable {p : ck} {x y z : Wd} {g q k n : Int} {f : List cN} {i : cN} {v : Wt}
theorem jn {w : cT} (h0 : 0 ≤ q) (hq : q < x.gs.length) : ae { x with gs := x.gs ++ [w] } q = ae x q := by
 unfold ae
 dsimp only
 rw [List.getD_eq_getElem?_getD, List.getD_eq_getElem?_getD, List.getElem?_append_left (by omega)]
theorem zC {w : cT} : ae { x with gs := x.gs ++ [w] } (x.gs.length : Int) = w := by
 unfold ae
 dsimp only
 rw [Int.toNat_natCast, List.getD_eq_getElem?_getD, List.getElem?_append_right (Nat.le_refl _)]
 simp
theorem WV.spawn (h : WV p x) (hn : x.gs.length < 100) {w : cT} (hw : m9 p w) : WV p { x with gs := x.gs ++ [w] } := by
 have at_ : ∀ q s, At x q s → At { x with gs := x.gs ++ [w] } q s := fun q s ha => ⟨ha.1, by have := ha.2.1; simp; omega, by rw [jn ha.1 ha.2.1]; exact ha.2.2⟩
 refine ⟨by simp, by simp; omega, fun z hz => ?_, h.ch, h.lk, h.buf, fun c hc v hv => ?_, fun c hc v hv => ?_, fun l hl q hq => ?_, fun z hz => at_ _ _ (h.hl z hz), fun q q0 hq => ?_, h.AB, h.h1, h.out⟩
 ·rcases List.mem_append.1 hz with hz | hz
  ·exact h.CS z hz
  ·simp only [List.mem_singleton] at hz; subst hz; exact hw
 ·obtain ⟨a, b⟩ := h.dS c hc v hv
  rw [jn a.1 a.2.1]
  exact ⟨at_ _ _ a, b⟩
 ·obtain ⟨a, b⟩ := h.snd c hc v hv
  rw [jn a.1 a.2.1]
  exact ⟨at_ _ _ a, b⟩
 ·obtain ⟨a, b⟩ := h.lw l hl q hq
  rw [jn a.1 a.2.1]
  exact ⟨at_ _ _ a, b⟩
 ·by_cases hlt : q < x.gs.length
  ·rw [jn q0 hlt] at hq
   exact h.one q q0 hq
  ·refine h.one q q0 ?_
   unfold ae
   rw [List.getD_eq_getElem?_getD, List.getElem?_eq_none (by omega)]
   decide
theorem KH {w : cT} : Wd.cO { x with gs := x.gs ++ [{ w with st := 0 }] } (x.gs.length : Int) = { x with gs := x.gs ++ [{ w with st := 1 }], ready := x.ready ++ [(x.gs.length : Int)] } := by
 unfold Wd.cO Wd.aY
 rw [zC]
 simp [List.set_append_right]
theorem KI (h : WV p x) (hp : fm p) (hg : At x g 1) (hi : iS p f i) (h11 : i.op = 11) (hr : x.ready = []) : (aU x g ∧ bt i.b ∧ bt i.c ∧ x.Sm) ∧ gn p g x (x.spawn g i) := by
 obtain ⟨_, _, _, _, _, i9, _⟩ := hi
 obtain ⟨a0, a1, b1, c1⟩ := i9 (.inr h11)
 refine ⟨⟨h.aU hg.1 hg.2.1, b1, c1, h.sm hp (by rw [hr]; decide)⟩, ?_⟩
 unfold Wd.spawn
 split
 ·exact ⟨h, gH.refl hr⟩
 ·rename_i hn
  rw [KH (w := ⟨0, [fh.begin i.a (aT x g i.b)], .zero⟩)]
  have hw : m9 p ⟨1, [fh.begin i.a (aT x g i.b)], .zero⟩ := ⟨by simp, by simp, fun r hr => by
   simp only [List.mem_singleton] at hr; subst hr
   exact ⟨a0, a1, Int.le_refl 0, (by show (0 : Int) ≤ 64; decide), by show bt 0; decide⟩, (fun e => by cases e), by show (1 : Int) ≤ 1 ∧ (1 : Int) ≤ 4; decide⟩
  have h1 := (h.spawn (by omega) hw).ready (r := x.ready ++ [(x.gs.length : Int)])
  have hlen : g < (x.gs ++ [(⟨1, [fh.begin i.a (aT x g i.b)], .zero⟩ : cT)]).length := by have := hg.2.1; simp; omega
  refine ⟨h1.be hg.1 hlen, ?_⟩
  have OC : gH g x { x with gs := x.gs ++ [⟨1, [fh.begin i.a (aT x g i.b)], .zero⟩], ready := x.ready ++ [(x.gs.length : Int)] } := by
   rw [gH, hr]
   simp only [List.nil_append, List.length_append, List.length_cons, List.length_nil]
   refine ⟨by simp, by have := hg.2.1; simp; omega, fun q hq => ?_, fun q q0 _ hn => ?_, by omega, fun q a b => by simp; omega⟩
   ·simp only [List.mem_singleton] at hq; subst hq
    exact ⟨by omega, by omega, fun ha => by have := ha.2.1; omega, by show (ae { x with gs := x.gs ++ [_] } _).st = 1; rw [zC]⟩
   ·show ae { x with gs := x.gs ++ [_] } q = ae x q
    by_cases hlt : q < x.gs.length
    ·exact jn q0 hlt
    ·simp only [List.mem_singleton] at hn
     unfold ae
     dsimp only
     rw [List.getD_eq_getElem?_getD, List.getD_eq_getElem?_getD, List.getElem?_eq_none (by simp; omega), List.getElem?_eq_none (by omega)]
  exact OC.bN hg.1 hlen
theorem FC (h : WV p x) (hg : At x g 2) (qR : (ae x g).wt.op = 16) (hf : lA x g) {eV : List Int} {cases : List oY} (hc : ∀ c ∈ cases, c.Ok x.ay.length) (hb : (cases.length : Int) ≤ (ae x g).wt.b) (h32 : cases.length ≤ 32) :
  ∀ j, j ≤ cases.length → WV p { x with ay := dF g eV cases x.ay j } ∧ bQ (dF g eV cases x.ay j) g ≤ j
 | 0, _ => ⟨h, by show bQ x.ay g ≤ 0; have := hf.vz; omega⟩
 | j + 1, hj => by
  obtain ⟨ih, ic⟩ := FC h hg qR hf (eV := eV) hc hb h32 j (by omega)
  obtain ⟨c, AT⟩ := aK (l := cases) (i := j) (by omega)
  have ok := hc c (List.mem_of_getElem? AT)
  unfold dF
  rw [AT]
  dsimp only
  unfold ja
  generalize hcs : dF g eV cases x.ay j = cs at ih ic
  have hlen : cs.length = x.ay.length := by
   have a := ih.ch
   have b := h.ch
   dsimp only at a
   omega
  have key : ∀ d : aL, (c.way = 0 ∨ c.way = 1) → cR cs c.ch = d → ∀ d' : aL, d'.buf = d.buf → d'.room = d.room →
    ((∀ v ∈ d'.dS, v ∈ d.dS ∨ v = ⟨g, j, 0⟩) ∧ d'.snd = d.snd ∨ (∀ v ∈ d'.snd, v ∈ d.snd ∨ v = ⟨g, j, eV.getD c.bN.toNat 0⟩) ∧ d'.dS = d.dS) →
    (∀ q, (cw d').count q ≤ (cw d).count q + (if q = g then 1 else 0)) →
    WV p { x with ay := cs.set c.ch.toNat d' } ∧ bQ (cs.set c.ch.toNat d') g ≤ j + 1 := by
   intro d Rp hd d' e1 e2 e3 hn
   obtain ⟨k0, k1, _⟩ := ok.2.2 (by rcases Rp with e | e <;> rw [e] <;> decide)
   obtain ⟨d2, Sg⟩ := aK (l := cs) (i := c.ch.toNat) (by omega)
   have : d2 = d := by rw [← hd]; simp [cR, Sg]
   subst this
   have hm : d2 ∈ cs := List.mem_of_getElem? Sg
   have UK := ih.buf d2 hm
   refine ⟨?_, ?_⟩
   ·rcases e3 with ⟨e3, e4⟩ | ⟨e3, e4⟩
    ·exact ih.more (k := c.ch) (w := ⟨g, j, 0⟩) Sg (by rw [e1, e2]; exact UK) (fun v hv => by
      rcases e3 v hv with e | e
      ·exact .inl e
      ·exact .inr ⟨e, hg, .inr ⟨qR, by dsimp only; omega, by dsimp only; show (j : Int) < (ae x g).wt.b; omega⟩⟩) (fun v hv => .inl (by rw [← e4]; exact hv)) hn (fun e => absurd qR e) (by show bQ cs g < 32; omega)
    ·exact ih.more (k := c.ch) (w := ⟨g, j, eV.getD c.bN.toNat 0⟩) Sg (by rw [e1, e2]; exact UK) (fun v hv => .inl (by rw [← e4]; exact hv)) (fun v hv => by
      rcases e3 v hv with e | e
      ·exact .inl e
      ·exact .inr ⟨e, hg, .inr ⟨qR, by dsimp only; omega, by dsimp only; show (j : Int) < (ae x g).wt.b; omega⟩⟩) hn (fun e => absurd qR e) (by show bQ cs g < 32; omega)
   ·have a := ke (fun c : aL => (cw c).count g) cs c.ch.toNat d' d2 Sg
    have b := hn g
    rw [if_pos rfl] at b
    unfold bQ at *
    omega
  split
  ·rename_i hw
   refine key _ (.inl hw) rfl _ rfl rfl (.inl ⟨fun v hv => ?_, rfl⟩) (fun q => ?_)
   ·rcases List.mem_append.1 hv with hv | hv
    ·exact .inl hv
    ·exact .inr (by simpa using hv)
   ·unfold cw
    rw [List.map_append, ← List.append_assoc]
    exact jH _ _ _
  ·split
   ·rename_i hw
    refine key _ (.inr hw) rfl _ rfl rfl (.inr ⟨fun v hv => ?_, rfl⟩) (fun q => ?_)
    ·rcases List.mem_append.1 hv with hv | hv
     ·exact .inl hv
     ·exact .inr (by simpa using hv)
    ·unfold cw
     have := jH ((cR cs c.ch).snd.map Wt.g) q g
     simp only [List.map_append, List.map_cons, List.map_nil, List.count_append] at *
     omega
   ·exact ⟨ih, by omega⟩
end
section
variable {p : ck} {x y z : Wd} {g q k n : Int} {f : List cN} {i : cN} {v : Wt} {d : gY}
theorem m9.Nx {w : cT} (h : m9 p w) (vK : w.top.pc + 1 ≤ 64) : m9 p (w.bW w.top.next) :=
 h.bW ⟨h.top.1, h.top.2.1, by have := h.top.2.2.1; show 0 ≤ w.top.pc + 1; omega, vK, h.top.2.2.2.2⟩
theorem WV.next (h : WV p x) (hg : At x g 1) (vK : (ae x g).top.pc + 1 ≤ 64) : WV p (x.next g) ∧ At (x.next g) g 1 ∧ (x.next g).gs.length = x.gs.length ∧ (∀ q, 0 ≤ q → q ≠ g → ae (x.next g) q = ae x q) ∧ (ae (x.next g) g).fs.length = (ae x g).fs.length := by
 have hz := (h.iM hg.1 hg.2.1).Nx vK
 have e : ae (x.next g) g = (ae x g).bW (ae x g).top.next := fW hg.1 hg.2.1
 refine ⟨h.aY hg.1 hg.2.1 hz rfl rfl, ⟨hg.1, by simpa [Wd.next, Wd.aY] using hg.2.1, by rw [e]; exact hg.2.2⟩, by simp [Wd.next, Wd.aY], fun q q0 hne => po hg.1 hg.2.1 q0 hne, by rw [e]; simp [cT.bW]⟩
theorem zD {c : oY} (h : c ∈ aB p i) : c ∈ p.cases := List.mem_of_mem_drop (List.mem_of_mem_take h)
theorem CV {cases : List oY} {cs : List aL} (h : k ∈ enabled cases cs) : ∃ (j : Nat) (c : oY), k = (j : Int) ∧ j < cases.length ∧ cases[j]? = some c ∧ can cs c = true := by
 unfold enabled z8 at h
 obtain ⟨j, hj, rfl⟩ := List.mem_map.1 h
 obtain ⟨h1, h2⟩ := List.mem_filter.1 hj
 rw [List.mem_range] at h1
 obtain ⟨c, hc⟩ := aK (l := cases) (i := j) (by omega)
 unfold I3 at h2
 rw [hc] at h2
 exact ⟨j, c, rfl, h1, hc, h2⟩
theorem HB (h : WV p x) (hp : fm p) (hg : At x g 1) (hf : f ∈ p.funcs) (hi : iS p f i) (qR : i.op = 16) (hr : x.ready = []) (vK : (ae x g).top.pc + 1 ≤ 64)
  (hd : ∀ v, d = .num v → enabled (aB p i) x.ay ≠ [] → 0 ≤ v ∧ v < (enabled (aB p i) x.ay).length) :
  lj p x g i d = true ∧ (gn p g x (x.choose p g i d) ∨ ∃ l, d = .cQ l ∧ x.choose p g i d = .cQ l x) := by
 have hi' := hi
 obtain ⟨_, _, _, _, _, _, _, _, _, i14, i16, _⟩ := hi'
 have hc := i14 (.inr qR)
 obtain ⟨a0, b1, ab⟩ := i16 qR
 have hcs := hp.cs
 have Ki := h.aU hg.1 hg.2.1
 have hs := h.sm hp (by rw [hr]; decide)
 obtain ⟨n1, n2, n3, n4, n5⟩ := h.next hg vK
 have MX := (h.iM hg.1 hg.2.1).top.2.2.1
 have Q4 : (aB p i).length = i.b.toNat := by
  unfold aB
  rw [List.length_take, List.length_drop]; omega
 have Rq : ∀ c ∈ aB p i, c.Ok x.ay.length := fun c hc => by rw [h.ch]; exact (hp.Z9 c (zD hc)).1
 have hne1 : (x.next g).ay = x.ay := rfl
 have OE : ∀ k, k ∈ enabled (aB p i) x.ay → w5 p x g i k ∧ gn p g x (x.oz p g i k) := by
  intro k hk
  obtain ⟨j, c, rfl, hj, AT, hcan⟩ := CV hk
  have hm : c ∈ aB p i := List.mem_of_getElem? AT
  have Vy := (hp.Z9 c (zD hm)).2
  have hok := Rq c hm
  have ec : (aB p i).getD (j : Int).toNat ⟨0, 0, 0⟩ = c := by rw [Int.toNat_natCast, List.getD_eq_getElem?_getD, AT]; rfl
  have Rp : c.way = 0 ∨ c.way = 1 := by
   unfold can at hcan
   split at hcan
   ·rename_i e; exact .inl e
   ·split at hcan
    ·rename_i e; exact .inr e
    ·cases hcan
  obtain ⟨k0, k1, _⟩ := hok.2.2 (by rcases Rp with e | e <;> rw [e] <;> decide)
  have hk1 : sO (x.next g) c.ch := ⟨k0, k1⟩
  unfold w5 Wd.oz
  rw [ec]
  dsimp only
  by_cases hw : c.way = 1
  ·rw [if_pos hw, if_pos hw]
   obtain ⟨p1, p2⟩ := n1.put (n := aT (x.next g) g c.bN) hp hk1
   generalize (x.next g).put p c.ch (aT (x.next g) g c.bN) = r at p2
   match r, p2 with
   | .dM n y, p2 => exact ⟨⟨by omega, by omega, Vy, p1, trivial⟩, p2.1, (gH.of (Wk.same p2.2.1 p2.2.2) hr n2).pre n3 n4⟩
   | .on (y, true), p2 =>
    have ek := p2.2.keep hg.1 n2.2.2
    have el : g < y.gs.length := by rw [p2.2.1, n3]; exact hg.2.1
    exact ⟨⟨by omega, by omega, Vy, p1, p2.1.aU hg.1 el, by rw [ek, n5]⟩, p2.1.be hg.1 el, ((gH.of p2.2 hr n2).pre n3 n4).bN hg.1 el⟩
   | .on (y, false), p2 =>
    have p3 : y = x.next g := p2
    subst p3
    have el : g < (x.next g).gs.length := by rw [n3]; exact hg.2.1
    exact ⟨⟨by omega, by omega, Vy, p1, n1.aU hg.1 el, n5⟩, n1.be hg.1 el, ((gH.refl (x := x.next g) hr).pre n3 n4).bN hg.1 el⟩
   | .cQ l y, p2 => exact p2.elim
  ·rw [if_neg hw, if_neg hw]
   obtain ⟨p1, p2, p3, _⟩ := n1.get hp hk1
   have ek := p3.keep hg.1 n2.2.2
   have el : g < ((x.next g).get c.ch).1.gs.length := by rw [p3.1, n3]; exact hg.2.1
   have r1 := p2.be (g := g) (q := c.bN) (n := ((x.next g).get c.ch).2.1) hg.1 el
   exact ⟨⟨by omega, by omega, Vy, p1, p2.aU hg.1 el, by rw [ek, n5]⟩, r1.be hg.1 (by rw [bI]; exact el), (((gH.of p3 hr n2).pre n3 n4).bN hg.1 el).bN hg.1 (by rw [bI]; exact el)⟩
 refine ⟨?_, ?_⟩
 ·unfold lj
  rw [Bool.and_eq_true]
  refine ⟨decide_eq_true ⟨Ki, ⟨a0, by omega, ab, by omega⟩, hc, hs, by omega, MX, Rq⟩, ?_⟩
  cases d with
  | cQ l => rfl
  | num v =>
   dsimp only
   cases he : enabled (aB p i) x.ay with
   | nil => rfl
   | cons q t =>
    rw [List.isEmpty_cons, Bool.false_or]
    obtain ⟨v0, v1⟩ := hd v rfl (by rw [he]; simp)
    rw [he] at v1
    refine decide_eq_true ⟨v0, v1, (OE _ ?_).1⟩
    rw [he, List.getD_eq_getElem?_getD, List.getElem?_eq_getElem (by omega), Option.getD_some]
    exact List.getElem_mem _
 ·unfold Wd.choose
  split
  ·refine .inl ?_
   unfold Wd.qT
   dsimp only
   split
   ·exact ⟨n1.be hg.1 (by rw [n3]; exact hg.2.1), ((gH.refl (x := x.next g) hr).pre n3 n4).bN hg.1 (by rw [n3]; exact hg.2.1)⟩
   ·have hb := n1.block n2 hf hi
    have eg : ae ((x.next g).block g i) g = { ae (x.next g) g with st := 2, wt := i } := fW hg.1 (by rw [n3]; exact hg.2.1)
    have hfr := n2.free n1
    have hw := (FC (x := (x.next g).block g i) hb ⟨hg.1, by simpa [Wd.block, Wd.aY, n3] using hg.2.1, by rw [eg]⟩ (by rw [eg]; exact qR) hfr (eV := sS (ae (x.next g) g).top) (cases := aB p i) Rq (by rw [eg, Q4]; show ((i.b.toNat : Nat) : Int) ≤ i.b; omega) (by omega) (aB p i).length (Nat.le_refl _)).1
    refine ⟨hw, ((gH.refl (x := x.next g) hr).pre n3 n4).Hz rfl (by simp [Wd.block, Wd.aY]) fun m m0 hne => ?_⟩
    show ae ((x.next g).aY g _) m = _
    exact po hg.1 (by rw [n3]; exact hg.2.1) m0 hne
  ·rename_i hne
   cases d with
   | num v =>
    refine .inl (OE _ ?_).2
    obtain ⟨v0, v1⟩ := hd v rfl hne
    rw [List.getD_eq_getElem?_getD, List.getElem?_eq_getElem (by omega), Option.getD_some]
    exact List.getElem_mem _
   | cQ l => exact .inr ⟨l, rfl, rfl⟩
theorem CW (h : WV p x) (hp : fm p) (h0 : 0 ≤ g) (hd : ∀ v kd n, d = .num v → asks p { x with ready := [] } g = some (kd, n) → 0 ≤ v ∧ v < n) :
  ∃ r rest, j7 p x g d = some (r, rest) ∧ (gn p g { x with ready := [] } r ∧ (lp { x with ready := [] } g ∨ r = .on { x with ready := [] } ∧ rest = true) ∨ ∃ l, d = .cQ l ∧ r = .cQ l { x with ready := [] } ∧ rest = false ∧ lp { x with ready := [] } g ∧ asks p { x with ready := [] } g ≠ none) := by
 have h := h.ready (r := [])
 generalize hx : ({ x with ready := [] } : Wd) = x' at h hd
 have hr : x'.ready = [] := by rw [← hx]
 unfold j7
 rw [hx]
 dsimp only
 split
 ·rename_i KJ
  have hg : At x' g 1 := ⟨KJ.1, KJ.2.1, KJ.2.2.2⟩
  have hz := h.iM hg.1 hg.2.1
  obtain ⟨t1, t2, t3, t4, t5⟩ := hz.top
  rw [if_pos ⟨h.aU hg.1 hg.2.1, t1, t3, by omega⟩]
  obtain ⟨code, iD⟩ := aK (l := p.funcs) (i := (ae x' g).top.fn.toNat) (by omega)
  rw [iD]
  dsimp only
  have hf : code ∈ p.funcs := List.mem_of_getElem? iD
  obtain ⟨c1, c2, c3⟩ := hp.code code hf
  cases jI : code[(ae x' g).top.pc.toNat]? with
  | none => exact ⟨_, _, rfl, .inl ⟨⟨h, gH.refl hr⟩, .inl KJ⟩⟩
  | some i =>
   dsimp only
   have hi : iS p code i := c3 i (List.mem_of_getElem? jI)
   have hi' := hi
   obtain ⟨o0, o1, o2, o7, o8, o9, o10, o13, o13b, o14, o16, o18, o21⟩ := hi'
   have hpl := (List.getElem?_eq_some_iff.1 jI).1
   have vK : (ae x' g).top.pc + 1 ≤ 64 := by omega
   obtain ⟨n1, n2, n3, n4, n5⟩ := h.next hg vK
   have vn : (x'.next g).ready = [] := hr
   have vq : asks p x' g = if i.op = 21 then some (4, i.b) else if i.op = 16 then (if enabled (aB p i) x'.ay = [] then none else some (3, (enabled (aB p i) x'.ay).length)) else none := by
    unfold asks iR
    rw [if_pos KJ, iD]
    dsimp only
    rw [jI]
   have fin : ∀ {r : Out Wd}, gn p g (x'.next g) r → gn p g x' r := by
    intro r hres
    cases r with
    | on y => exact ⟨hres.1, hres.2.pre n3 n4⟩
    | dM n y => exact ⟨hres.1, hres.2.pre n3 n4⟩
    | cQ l y => exact hres.elim
   split
   ·rename_i h8
    try rw [if_pos o2]
    refine ⟨_, _, rfl, .inl ⟨⟨h.aY hg.1 hg.2.1 (hz.bW ?_) rfl rfl, (gH.refl hr).aY hg.1 hg.2.1⟩, .inl KJ⟩⟩
    unfold fh.pure
    have base : CR p (ae x' g).top.next := ⟨t1, t2, by show 0 ≤ (ae x' g).top.pc + 1; omega, vK, t5⟩
    split; exact base
    split; exact base.set _ _
    split; exact base.set _ _
    split; exact base.set _ _
    split; exact base.set _ _
    split; exact base.set _ _
    split; exact base.set _ _
    split
    ·rename_i e
     exact ⟨t1, t2, (o7 e).1, by have := (o7 e).2; show i.a ≤ 64; omega, t5⟩
    ·split
     ·have := o8 (by omega)
      exact ⟨t1, t2, this.1, by show i.b ≤ 64; omega, t5⟩
     ·exact base
   ·rename_i h8
    split
    ·rename_i qR
     have hw := HB (d := d) h hp hg hf hi qR hr vK (fun v hv hne => by
      refine hd v 3 _ hv ?_
      rw [vq, if_neg (by omega), if_pos qR, if_neg hne])
     rw [if_pos hw.1]
     rcases hw.2 with DP | ⟨l, zV, DP⟩
     ·rw [if_pos (DP.lt hg)]
      exact ⟨_, _, rfl, .inl ⟨DP, .inl KJ⟩⟩
     ·rw [DP, if_pos (show g < (Out.fin (.cQ l x')).gs.length from hg.2.1)]
      refine ⟨_, _, rfl, .inr ⟨l, zV, rfl, rfl, KJ, ?_⟩⟩
      rw [vq, if_neg (by omega), if_pos qR]
      split
      ·rename_i e
       unfold Wd.choose at DP
       rw [if_pos e] at DP
       cases DP
      ·simp
    ·rename_i qR
     split
     ·rename_i Q2
      rw [if_pos (o10 (.inr (.inr (.inr Q2))))]
      cases d with
      | num v =>
       have hl : g < (x'.next g).gs.length := by rw [n3]; exact hg.2.1
       have hres : gn p g x' (x'.rand g i (.num v)) := ⟨n1.be hg.1 hl, ((gH.refl (x := x'.next g) hr).pre n3 n4).bN hg.1 hl⟩
       rw [if_pos (hres.lt hg)]
       exact ⟨_, _, rfl, .inl ⟨hres, .inl KJ⟩⟩
      | cQ l =>
       rw [if_pos (show g < (Out.fin (x'.rand g i (.cQ l))).gs.length from hg.2.1)]
       exact ⟨_, _, rfl, .inr ⟨l, rfl, rfl, rfl, KJ, by rw [vq, if_pos Q2]; simp⟩⟩
     ·rename_i Q2
      have go : ∀ r, iE p (x'.next g) g i = some r → gn p g (x'.next g) r → ∃ r rest, (match iE p (x'.next g) g i with
        | none => none
        | some r => if g < r.fin.gs.length then some (r, wX i.op r) else none) = some (r, rest) ∧ (gn p g x' r ∧ (lp x' g ∨ r = .on x' ∧ rest = true) ∨ ∃ l, d = .cQ l ∧ r = .cQ l x' ∧ rest = false ∧ lp x' g ∧ asks p x' g ≠ none) := by
       intro r Oo hres
       rw [Oo]
       dsimp only
       rw [if_pos (hres.lt n2)]
       exact ⟨_, _, rfl, .inl ⟨fin hres, .inl KJ⟩⟩
      have hop : i.op = 9 ∨ i.op = 10 ∨ i.op = 11 ∨ i.op = 12 ∨ i.op = 13 ∨ i.op = 14 ∨ i.op = 15 ∨ i.op = 17 ∨ i.op = 18 ∨ i.op = 19 ∨ i.op = 20 ∨ i.op = 22 := by omega
      rcases hop with e | e | e | e | e | e | e | e | e | e | e | e
      ·have w := Nq n1 n2 hi e vn
       refine go _ ?_ w.2
       unfold iE
       rw [e]; simp only [Int.reduceEq, if_false, if_true]
       rw [if_pos w.1]
      ·have w := Ns n1 n2 hi e vn
       refine go _ ?_ w.2
       unfold iE
       rw [e]; simp only [if_true]
       rw [if_pos w.1]
      ·have w := KI n1 hp n2 hi e vn
       refine go _ ?_ w.2
       unfold iE
       rw [e]; simp only [Int.reduceEq, if_false, if_true]
       rw [if_pos w.1]
      ·refine go (.on (x'.next g)) ?_ ⟨n1, gH.refl vn⟩
       unfold iE
       rw [e]; simp only [Int.reduceEq, if_false, if_true]
      ·have w := Nt n1 hp n2 hf hi e vn
       refine go _ ?_ w.2
       unfold iE
       rw [e]; simp only [Int.reduceEq, if_false, if_true]
       rw [if_pos w.1]
      ·have w := Nu n1 hp n2 hf hi e vn
       refine go _ ?_ w.2
       unfold iE
       rw [e]; simp only [Int.reduceEq, if_false, if_true]
       rw [if_pos w.1]
      ·have w := Nv n1 hp n2 hi e vn
       refine go _ ?_ w.2
       unfold iE
       rw [e]; simp only [Int.reduceEq, if_false, if_true]
       rw [if_pos w.1]
      ·have w := KG n1 hp n2 hi e vn
       refine go _ ?_ w.2
       unfold iE
       rw [e]; simp only [Int.reduceEq, if_false, if_true]
       rw [if_pos w.1]
      ·have w := Nw n1 hp n2 hf hi e vn
       refine go _ ?_ w.2
       unfold iE
       rw [e]; simp only [Int.reduceEq, if_false, if_true]
       rw [if_pos w.1]
      ·have w := HA n1 hp n2 hi e vn
       refine go _ ?_ w.2
       unfold iE
       rw [e]; simp only [Int.reduceEq, if_false, if_true]
       rw [if_pos w.1]
      ·have w := Nr n1 hp n2 hi e vn
       refine go _ ?_ w.2
       unfold iE
       rw [e]; simp only [Int.reduceEq, if_false, if_true]
       rw [if_pos w.1]
      ·refine go (.dM i.a (x'.next g)) ?_ ⟨n1, gH.refl vn⟩
       unfold iE
       rw [e]; simp only [Int.reduceEq, if_false, if_true]
 ·exact ⟨_, _, rfl, .inl ⟨⟨h, gH.refl hr⟩, .inr ⟨rfl, rfl⟩⟩⟩
theorem Ny {w : Wd} {k n : Int} (hp : fm p) (h : asks p w g = some (k, n)) : 1 ≤ n ∧ n < 1099511627776 := by
 unfold asks at h
 split at h
 ·split at h
  ·cases h
  ·rename_i ins hi
   have hio : ∃ f ∈ p.funcs, ins ∈ f := by
    unfold iR at hi
    split at hi
    ·cases hi
    ·rename_i code hc
     exact ⟨code, List.mem_of_getElem? hc, List.mem_of_getElem? hi⟩
   obtain ⟨f, hf, hm⟩ := hio
   have hok := (hp.code f hf).2.2 ins hm
   split at h
   ·rename_i e
    simp only [Option.some.injEq, Prod.mk.injEq] at h
    have := hok.2.2.2.2.2.2.2.2.2.2.2.2 e
    omega
   ·split at h
    ·split at h
     ·cases h
     ·rename_i hne
      simp only [Option.some.injEq, Prod.mk.injEq] at h
      have h1 : (enabled (aB p ins) w.ay).length ≤ (aB p ins).length := BU _ _ _
      have h2 : (aB p ins).length ≤ p.cases.length := by
       unfold aB
       rw [List.length_take, List.length_drop]; omega
      have := hp.cs
      have h3 : 0 < (enabled (aB p ins) w.ay).length := by
       rcases hl : enabled (aB p ins) w.ay with _ | ⟨q, t⟩
       ·exact absurd hl hne
       ·simp
      omega
    ·cases h
 ·cases h
end
section
variable {p : ck} {x y z : Wd} {g q k n : Int}
theorem zE : ∀ (l : List Int) (x : Wd), WV p x → l.Nodup → (∀ q ∈ l, 0 ≤ q ∧ q < x.gs.length ∧ (ae x q).st ≠ 1 ∧ lA x q) → WV p (l.foldl Wd.cO x) ∧ Wk x (l.foldl Wd.cO x) ∧ (l.foldl Wd.cO x).ready = x.ready ++ l
 | [], x, h, _, _ => ⟨h, Wk.refl x, by simp⟩
 | q :: l, x, h, hn, ha => by
  obtain ⟨q0, q1, q2, q3⟩ := ha q (by simp)
  obtain ⟨ML, xU⟩ := List.nodup_cons.1 hn
  obtain ⟨r1, r2, r3⟩ := zE l (x.cO q) (h.cO q0 q1 q3) xU (fun m hm => by
   obtain ⟨m0, m1, m2, m3⟩ := ha m (List.mem_cons_of_mem _ hm)
   have hne : m ≠ q := fun e => ML (e ▸ hm)
   exact ⟨m0, by rw [lC]; exact m1, by rw [pn q0 q1 m0 hne]; exact m2, m3⟩)
  refine ⟨r1, (Wk.cO q0 q1 q2).trans r2, ?_⟩
  rw [List.foldl_cons, r3]
  show (x.ready ++ [q]) ++ l = _
  simp
def Fh (x : Wd) : List Int := (cv x.hl.length x.hl (IntKind.wrap .u64 (x.clock + 1))).2.map aZ.id
theorem Nz (he : x.end_ = 0) : x.tick = (Fh x).foldl Wd.cO { x with clock := IntKind.wrap .u64 (x.clock + 1), hl := (cv x.hl.length x.hl (IntKind.wrap .u64 (x.clock + 1))).1, ready := [] } := by
 unfold Wd.tick
 rw [if_neg (by rw [he]; decide)]
 rfl
theorem NA (h : WV p x) : (∀ y ∈ (cv x.hl.length x.hl (IntKind.wrap .u64 (x.clock + 1))).2, 0 ≤ y.id ∧ y.id < x.gs.length) ∧ WV p x.tick ∧ Wk { x with ready := [] } x.tick ∧ x.tick.ready.length ≤ 100 := by
 generalize hr : cv x.hl.length x.hl (IntKind.wrap .u64 (x.clock + 1)) = r
 have hp : x.hl.Perm (r.2 ++ r.1) := by rw [← hr]; exact rj _ _ _
 have m2 : ∀ y ∈ r.2, y ∈ x.hl := fun y hy => hp.mem_iff.2 (List.mem_append_left _ hy)
 have m1 : ∀ y ∈ r.1, y ∈ x.hl := fun y hy => hp.mem_iff.2 (List.mem_append_right _ hy)
 have hc : ∀ q, (r.2.map aZ.id).count q + (r.1.map aZ.id).count q ≤ 1 := fun q => by
  have a := h.h1 q
  unfold AM at a
  rw [(hp.map aZ.id).count_eq, List.map_append, List.count_append] at a
  exact a
 refine ⟨fun y hy => ⟨(h.hl y (m2 y hy)).1, (h.hl y (m2 y hy)).2.1⟩, ?_⟩
 by_cases he : x.end_ = 0
 ·rw [Nz he]
  unfold Fh
  rw [hr]
  have h1 : WV p { x with clock := IntKind.wrap .u64 (x.clock + 1), hl := r.1, ready := [] } :=
   ⟨h.n1, h.n2, h.CS, h.ch, h.lk, h.buf, h.dS, h.snd, h.lw, fun y hy => h.hl y (m1 y hy), h.one, h.AB, fun q => by have := hc q; unfold AM; dsimp only; omega, h.out⟩
  have hnd : (r.2.map aZ.id).Nodup := List.nodup_iff_count.2 fun q => by have := hc q; omega
  obtain ⟨r1, r2, r3⟩ := zE (r.2.map aZ.id) { x with clock := IntKind.wrap .u64 (x.clock + 1), hl := r.1, ready := [] } h1 hnd (fun q hq => by
   obtain ⟨y, hy, rfl⟩ := List.mem_map.1 hq
   have a := h.hl y (m2 y hy)
   refine ⟨a.1, a.2.1, by show (ae x y.id).st ≠ 1; rw [a.2.2]; decide, fun c Sb hg => ?_, fun l hl hg => ?_, fun w hw e => ?_⟩
   ·have := (h.No Sb hg).1.2.2
    rw [a.2.2] at this; cases this
   ·have := (h.lw l hl _ hg).1.2.2
    rw [a.2.2] at this; cases this
   ·have b := hc y.id
    have c1 : 0 < (r.2.map aZ.id).count y.id := List.count_pos_iff.2 hq
    have c2 : 0 < (r.1.map aZ.id).count y.id := List.count_pos_iff.2 (List.mem_map.2 ⟨w, hw, e⟩)
    omega)
  refine ⟨r1, Wk.trans (Wk.same rfl rfl) r2, ?_⟩
  rw [r3]
  have a := h.Fy
  have b := hp.length_eq
  simp only [List.length_append, List.length_map, List.nil_append] at *
  omega
 ·have e : x.tick = { x with ready := [] } := by unfold Wd.tick; rw [if_pos he]
  rw [e]
  exact ⟨h.ready, Wk.refl _, by simp⟩
theorem Rr (hp : fm p) : WV p (Wd.new p) := by
 have e : ∀ q, ae (Wd.new p) q = if q.toNat = 0 then ⟨1, [fh.begin 0 0], .zero⟩ else ⟨0, [], .zero⟩ := by
  intro q
  unfold ae Wd.new
  dsimp only
  split
  ·rename_i e; rw [e]; rfl
  ·rename_i e
   rw [List.getD_eq_getElem?_getD, List.getElem?_eq_none (by simp; omega)]; rfl
 have vI : ∀ c ∈ (Wd.new p).ay, ∃ n, c = aL.new n := fun c hc => by
  obtain ⟨n, _, rfl⟩ := List.mem_map.1 hc
  exact ⟨n, rfl⟩
 have hlk : ∀ l ∈ (Wd.new p).aS, l.waits = [] := fun l hl => by
  have := List.eq_of_mem_replicate hl
  rw [this]
 have z1 : ∀ q, bQ (Wd.new p).ay q = 0 := fun q => oK _ _ fun c hc => by
  obtain ⟨n, rfl⟩ := vI c hc
  rfl
 have z2 : ∀ q, fY (Wd.new p).aS q = 0 := fun q => oK _ _ fun l hl => by rw [hlk l hl]; rfl
 refine ⟨by simp [Wd.new], by simp [Wd.new], fun y hy => ?_, by simp [Wd.new], by (simp [Wd.new]; have := hp.lk.1; omega), fun c hc => ?_, fun c hc v hv => ?_, fun c hc v hv => ?_, fun l hl q hq => ?_, fun y hy => by simp [Wd.new] at hy, fun q _ _ => by rw [z1, z2]; omega, fun q => by rw [z1]; omega, fun q => by simp [AM, Wd.new], by simp [Wd.new]⟩
 ·simp only [Wd.new, List.mem_singleton] at hy
  subst hy
  refine ⟨by simp, by simp, fun r hr => ?_, (fun e => by cases e), by show (1 : Int) ≤ 1 ∧ (1 : Int) ≤ 4; decide⟩
  simp only [List.mem_singleton] at hr; subst hr
  exact ⟨Int.le_refl 0, by have := hp.f1; show (0 : Int) < _; omega, Int.le_refl 0, (by show (0 : Int) ≤ 64; decide), by show bt 0; decide⟩
 ·obtain ⟨n, rfl⟩ := vI c hc
  exact ⟨Nat.zero_le _, IL n⟩
 ·obtain ⟨n, rfl⟩ := vI c hc
  cases hv
 ·obtain ⟨n, rfl⟩ := vI c hc
  cases hv
 ·rw [hlk l hl] at hq; cases hq
end
def jU (ps : List da) (a : Int) : Nat := ((ps.map da.q).flatMap Loc.all).count a
def AO (ms : List xQ) (a : Int) : Nat := (ms.flatMap fun m => iq m.g).count a
def jJ (x : Sc) (a : Int) : Nat := jU x.ps a + x.gl.count a + AO x.ms a
def KK (q : Loc) : Prop := q.l.length ≤ q.room ∧ q.room ≤ 1024 ∧ 0 < q.room
def MV (P : Nat) (m : xQ) : Prop := (m.p = -1 ∧ m.g = -1 ∧ m.left = 0) ∨ (0 ≤ m.p ∧ m.p < P ∧ -1 ≤ m.g ∧ 0 ≤ m.left ∧ m.left ≤ 1024 ∧ (0 ≤ m.g → 1 ≤ m.left))
structure SV (p : ck) (N : Nat) (x : Sc) : Prop where
 w : WV p x.w
 one : ∀ a, At x.w a 1 → jJ x a = 1
 zero : ∀ a, ¬ At x.w a 1 → jJ x a = 0
 cP : x.c.P = x.ps.length
 cM : x.c.M = x.ms.length
 P1 : 1 ≤ x.ps.length ∧ x.ps.length ≤ 64
 M1 : 1 ≤ x.ms.length ∧ x.ms.length ≤ 64
 cS : 1 ≤ x.c.S ∧ x.c.S ≤ 1024
 room : ∀ pr ∈ x.ps, KK pr.q
 eL : ∀ pr ∈ x.ps, 0 ≤ pr.turns ∧ pr.turns ≤ N
 ms : ∀ m ∈ x.ms, MV x.ps.length m
 gj : ∀ (i : Nat) m, x.ms[i]? = some m → m.p ≠ -1 → (aC x m.p).gj = i
 st : 0 ≤ x.steps ∧ x.steps ≤ N
 tk : x.d.taken.length ≤ 3 * N
 k : x.d.k.Ok
section
variable {p : ck} {N : Nat} {x y z : Sc} {m i g a : Int}
theorem oM {ps : List da} {j : Nat} {pr Ox : da} (h : ps[j]? = some pr) : jU (ps.set j Ox) a + pr.q.all.count a = jU ps a + Ox.q.all.count a := by
 unfold jU
 rw [List.map_set]
 exact MM a (by rw [List.getElem?_map, h]; rfl)
theorem xF : ∀ {ms : List xQ} {j : Nat} {mc tj : xQ}, ms[j]? = some mc → AO (ms.set j tj) a + (iq mc.g).count a = AO ms a + (iq tj.g).count a
 | [], _, _, _, h => by simp at h
 | z :: ms, 0, mc, tj, h => by
  simp only [List.getElem?_cons_zero, Option.some.injEq] at h; subst h
  simp only [AO, List.set_cons_zero, List.flatMap_cons, List.count_append]; omega
 | z :: ms, j + 1, mc, tj, h => by
  have := xF (ms := ms) (tj := tj) (j := j) (by simpa using h)
  simp only [AO, List.set_cons_succ, List.flatMap_cons, List.count_append] at *; omega
theorem rm {α : Type} (f : α → List Int) : ∀ (l : List α) (b : α), b ∈ l → (f b).count a ≤ (l.flatMap f).count a
 | c :: l, b, h => by
  simp only [List.flatMap_cons, List.count_append]
  rcases List.mem_cons.1 h with rfl | h
  ·omega
  ·have := rm f l b h; omega
theorem SV.le1 (h : SV p N x) : jJ x a ≤ 1 := by
 by_cases e : At x.w a 1
 ·rw [h.one a e]; omega
 ·rw [h.zero a e]; omega
theorem SV.at_ (h : SV p N x) (hc : 0 < jJ x a) : At x.w a 1 := Classical.byContradiction fun e => by rw [h.zero a e] at hc; omega
theorem SV.OF (h : SV p N x) : ∀ v ∈ x.gl, 0 ≤ v := fun v hv => (h.at_ (a := v) (by have : 0 < x.gl.count v := List.count_pos_iff.2 hv; unfold jJ; omega)).1
theorem SV.Rs (h : SV p N x) {pr : da} (hp : pr ∈ x.ps) : pr.q.Pos := by
 have fJ : ∀ v ∈ pr.q.all, 0 ≤ v := fun v hv => (h.at_ (a := v) (by
  have h1 := rm (a := v) Loc.all (x.ps.map da.q) pr.q (List.mem_map.2 ⟨pr, hp, rfl⟩)
  have : 0 < pr.q.all.count v := List.count_pos_iff.2 hv
  unfold jJ jU; omega)).1
 refine ⟨?_, fun v hv => fJ v (by unfold Loc.all; simp [hv])⟩
 by_cases hn : pr.q.next = -1
 ·omega
 ·have := fJ pr.q.next (by unfold Loc.all; rw [if_neg hn]; simp)
  omega
theorem SV.Rt (h : SV p N x) : x.gl.length ≤ 100 := by
 have h1 := pg (b := 1) x.w.gs.length x.gl (fun v hv => by
  have := h.at_ (a := v) (by have : 0 < x.gl.count v := List.count_pos_iff.2 hv; unfold jJ; omega)
  exact ⟨this.1, this.2.1⟩) (fun v => by have := h.le1 (a := v); unfold jJ at this; omega)
 have := h.w.n2
 omega
theorem SV.mg (h : SV p N x) {mc : xQ} (hm : mc ∈ x.ms) (h0 : 0 ≤ mc.g) : At x.w mc.g 1 := h.at_ (by
 have h1 := rm (a := mc.g) (fun m : xQ => iq m.g) x.ms mc hm
 have : (iq mc.g).count mc.g = 1 := by rw [gX h0]; simp
 unfold jJ AO; omega)
theorem kI (h0 : 0 ≤ m) (hm : m < x.ms.length) : x.ms[m.toNat]? = some (av x m) := by
 obtain ⟨y, hy⟩ := aK (l := x.ms) (i := m.toNat) (by omega)
 rw [hy]; simp [av, hy]
theorem uv (h0 : 0 ≤ i) (hi : i < x.ps.length) : x.ps[i.toNat]? = some (aC x i) := by
 obtain ⟨y, hy⟩ := aK (l := x.ps) (i := i.toNat) (by omega)
 rw [hy]; simp [aC, hy]
def rE : da := ⟨⟨-1, 0, []⟩, 0, -1⟩
theorem SV.go (h : SV p N x) (m0 : 0 ≤ m) (m1 : m < x.ms.length) (i0 : 0 ≤ i) (i1 : i < x.ps.length) (ps' : List da) (tj : xQ) (Hv : List Int) (d' : kK)
  (hl : ps'.length = x.ps.length) (hr : ∀ pr ∈ ps', KK pr.q ∧ 0 ≤ pr.turns ∧ pr.turns ≤ N + 1) (hb : ∀ j : Nat, j ≠ i.toNat → (ps'.getD j rE).gj = (x.ps.getD j rE).gj)
  (hbi : tj.p = -1 ∨ tj.p = i ∧ (ps'.getD i.toNat rE).gj = m) (hold : (av x m).p = i ∨ (aC x i).gj = -1) (Bb : MV x.ps.length tj)
  (hc : ∀ a, jU ps' a + Hv.count a + (iq tj.g).count a = jU x.ps a + x.gl.count a + (iq (av x m).g).count a) (hd : d'.taken.length ≤ 3 * N + 3) (hk : d'.k.Ok) :
  SV p (N + 1) { x with ps := ps', ms := x.ms.set m.toNat tj, gl := Hv, d := d' } := by
 have lz := kI m0 m1
 have hS : ∀ a, jJ { x with ps := ps', ms := x.ms.set m.toNat tj, gl := Hv, d := d' } a = jJ x a := fun a => by
  have e1 := xF (a := a) (tj := tj) lz
  have e2 := hc a
  unfold jJ
  dsimp only
  omega
 refine ⟨h.w, fun a ha => by rw [hS]; exact h.one a ha, fun a ha => by rw [hS]; exact h.zero a ha, by rw [hl]; exact h.cP, by simpa using h.cM, by rw [hl]; exact h.P1, by simpa using h.M1, h.cS, fun pr hp => (hr pr hp).1, fun pr hp => (by have := (hr pr hp).2; omega), fun mc NB => ?_, fun j mc hj hne => ?_, by have := h.st; dsimp only; omega, by dsimp only; omega, hk⟩
 ·rw [hl]
  rcases iz NB with NB | rfl
  ·exact h.ms mc NB
  ·exact Bb
 ·by_cases e : j = m.toNat
  ·subst e
   rw [List.getElem?_set_self (by omega)] at hj
   simp only [Option.some.injEq] at hj
   subst hj
   rcases hbi with hbi | ⟨e1, e2⟩
   ·exact absurd hbi hne
   ·show (ps'.getD tj.p.toNat rE).gj = _
    rw [e1, e2]; omega
  ·rw [List.getElem?_set_ne (Ne.symm e)] at hj
   have hby := h.gj j mc hj hne
   have hmv2 := h.ms mc (List.mem_of_getElem? hj)
   have Vz : mc.p.toNat ≠ i.toNat := by
    intro e2
    have e3 : mc.p = i := by rcases hmv2 with hh | hh; exact absurd hh.1 hne; omega
    rw [e3] at hby
    rcases hold with e4 | e4
    ·have := h.gj m.toNat (av x m) lz (by rw [e4]; omega)
     rw [e4, hby] at this
     omega
    ·rw [e4] at hby; omega
   show (ps'.getD mc.p.toNat rE).gj = _
   rw [hb _ Vz]
   exact hby
end
section
variable {p : ck} {N : Nat} {x y z : Sc} {m i g a : Int}
theorem NC {q : Loc} (h : ∀ v ∈ q.all, 0 ≤ v) : q.Pos := by
 refine ⟨?_, fun v hv => h v (by unfold Loc.all; simp [hv])⟩
 by_cases hn : q.next = -1
 ·omega
 ·have := h q.next (by unfold Loc.all; rw [if_neg hn]; simp)
  omega
theorem ND {q : Loc} (h : q.Pos) : ∀ v ∈ q.all, 0 ≤ v := by
 intro v hv
 unfold Loc.all at hv
 rcases List.mem_append.1 hv with hv | hv
 ·split at hv
  ·cases hv
  ·simp only [List.mem_singleton] at hv; subst hv; have := h.1; omega
 ·exact h.2 v hv
theorem FD {q : Loc} {t : Int} {gl : List Int} (hq : q.Pos) (hb : KK q) (hg : ∀ v ∈ gl, 0 ≤ v) :
  KK (hJ q t gl).1 ∧ (∀ a, (hJ q t gl).1.all.count a + (hJ q t gl).2.1.count a + (iq (hJ q t gl).2.2.1).count a = q.all.count a + gl.count a) ∧
   ((hJ q t gl).2.2.2 = true → 0 ≤ (hJ q t gl).2.2.1) ∧ ((hJ q t gl).2.2.2 = false → (hJ q t gl).2.2.1 = -1) := by
 have c1 := J1 q gl
 have b1 := MN hb gl
 unfold hJ
 generalize q.eL gl = r at c1 b1
 obtain ⟨q1, g1, n1⟩ := r
 dsimp only at c1 b1 ⊢
 have nn : ∀ v, 0 < q.all.count v + gl.count v → 0 ≤ v := fun v hv => by
  by_cases e : v ∈ gl
  ·exact hg v e
  ·rw [List.count_eq_zero.2 e] at hv
   exact ND hq v (List.count_pos_iff.1 (by omega))
 have p1 : q1.Pos := NC fun v hv => nn v (by have : 0 < q1.all.count v := List.count_pos_iff.2 hv; have := c1 v; omega)
 have G7 : ∀ v ∈ g1, 0 ≤ v := fun v hv => nn v (by have : 0 < g1.count v := List.count_pos_iff.2 hv; have := c1 v; omega)
 split
 ·rename_i hh
  cases g1 with
  | nil => simp at hh
  | cons v l =>
   refine ⟨b1, fun a => ?_, fun _ => G7 v (by simp), fun e => by cases e⟩
   have := c1 a
   simp only [List.drop_succ_cons, List.drop_zero, List.headD_cons]
   rw [gX (G7 v (by simp))]
   simp only [List.count_cons, List.count_nil] at *
   omega
 ·split
  ·rename_i hh
   have hgp := Fm p1
   have h0 : 0 ≤ q1.get.2 := by
    rcases hgp with ⟨e1, e2, _⟩ | ⟨_, h0⟩
    ·unfold qX at hh
     rw [e1, e2] at hh
     cases hh
    ·exact h0
   refine ⟨J4 b1, fun a => ?_, fun _ => h0, fun e => by cases e⟩
   have := c1 a
   have := Fl q1 p1 a
   dsimp only
   omega
  ·rename_i hh
   have e1 : q1.next = -1 ∧ q1.l = [] := by
    unfold qX at hh
    simp only [Bool.or_eq_true, bne_iff_ne, ne_eq, Bool.not_eq_true', List.isEmpty_eq_false_iff, not_or, Decidable.not_not] at hh
    exact hh
   have eg : q1.get = (q1, -1) := by
    unfold Loc.get
    rw [if_neg (by rw [e1.1]; decide), e1.2]
   rw [eg]
   dsimp only
   have c2 := GY q1 g1 G7 0
   refine ⟨J5 b1 _ _, fun a => ?_, fun e => ?_, fun e => ?_⟩
   ·have := c1 a
    have := c2 a
    omega
   ·rcases zi (x := q1) G7 0 with ⟨e2, _⟩ | ⟨_, h0⟩
    ·rw [e2] at e; cases e
    ·exact h0
   ·rcases zi (x := q1) G7 0 with ⟨_, h0⟩ | ⟨e2, _⟩
    ·exact h0
    ·cases g1 with
     | nil => exact absurd rfl e2
     | cons v l => cases e
theorem SV.mono {N' : Nat} (h : SV p N x) (hn : N ≤ N') : SV p N' x :=
 ⟨h.w, h.one, h.zero, h.cP, h.cM, h.P1, h.M1, h.cS, h.room, fun pr hp => by have := h.eL pr hp; omega, h.ms, h.gj, by have := h.st; omega, by have := h.tk; omega, h.k⟩
theorem SV.inc (h : SV p (N + 1) y) (hs : 0 ≤ y.steps ∧ y.steps ≤ N) : SV p (N + 1) { y with steps := y.steps + 1 } :=
 ⟨h.w, h.one, h.zero, h.cP, h.cM, h.P1, h.M1, h.cS, h.room, h.eL, h.ms, h.gj, by dsimp only; omega, h.tk, h.k⟩
theorem SV.draw {d' : kK} (h : SV p N x) (hd : d'.taken.length ≤ 3 * N + 3) (hk : d'.k.Ok) : SV p (N + 1) { x with d := d' } :=
 ⟨h.w, h.one, h.zero, h.cP, h.cM, h.P1, h.M1, h.cS, h.room, fun pr hp => by have := h.eL pr hp; omega, h.ms, h.gj, by have := h.st; dsimp only; omega, by dsimp only; omega, hk⟩
theorem dm {l : List da} {n : Nat} {b : da} (h : n < l.length) : (l.set n b).getD n rE = b := by simp [List.getD_eq_getElem?_getD, List.getElem?_set_self h]
theorem getD_set_ne {l : List da} {n j : Nat} {b : da} (h : j ≠ n) : (l.set n b).getD j rE = l.getD j rE := by simp [List.getD_eq_getElem?_getD, List.getElem?_set_ne (Ne.symm h)]
theorem SV.hold {d' : kK} (h : SV p N x) (m0 : 0 ≤ m) (m1 : m < x.ms.length) (hm : (av x m).p = -1) (hd : d'.taken.length ≤ 3 * N + 3) (hk : d'.k.Ok) : SV p (N + 1) (Sc.hold { x with d := d' } m).1 ∧ (Sc.hold { x with d := d' } m).1.steps = x.steps := by
 unfold Sc.hold
 dsimp only
 have lz := kI m0 m1
 split
 ·rename_i n hn
  obtain ⟨hlt, hb, _⟩ := List.findIdx?_eq_some_iff_getElem.1 hn
  have lq := uv (x := x) (i := (n : Int)) (by omega) (by omega)
  rw [Int.toNat_natCast] at lq
  have eb : (aC x (n : Int)).gj = -1 := by
   rw [List.getElem?_eq_getElem hlt, Option.some.injEq] at lq
   rw [← lq]; simpa using hb
  have Bb := h.ms _ (List.mem_of_getElem? lz)
  have hg : (av x m).g = -1 ∧ (av x m).left = 0 := by rcases Bb with e | e; exact e.2; omega
  refine ⟨?_, rfl⟩
  refine h.go (i := (n : Int)) m0 m1 (by omega) (by omega) (x.ps.set n { aC x (n : Int) with gj := m }) { av x m with p := (n : Int) } x.gl d' (by simp) (fun pr hp => ?_) (fun j hj => ?_) (.inr ⟨rfl, ?_⟩) (.inr eb) (.inr ⟨by dsimp only; omega, by dsimp only; omega, by dsimp only; omega, by dsimp only; omega, by dsimp only; omega, by dsimp only; omega⟩) (fun a => ?_) hd hk
  ·rcases List.mem_or_eq_of_mem_set hp with hp | rfl
   ·exact ⟨h.room pr hp, by have := h.eL pr hp; omega⟩
   ·have hm := List.mem_of_getElem? lq
    exact ⟨h.room (aC x (n : Int)) hm, by have := h.eL _ hm; dsimp only; omega⟩
  ·rw [Int.toNat_natCast] at hj
   rw [getD_set_ne hj]
  ·rw [Int.toNat_natCast, dm hlt]
  ·have := oM (a := a) (Ox := { aC x (n : Int) with gj := m }) lq
   dsimp only at *
   omega
 ·exact ⟨h.draw hd hk, rfl⟩
theorem SV.tick {d' : kK} (h : SV p N x) (hd : d'.taken.length ≤ 3 * N + 3) (hk : d'.k.Ok) : xd { x with d := d' } ∧ SV p (N + 1) (Sc.tick { x with d := d' }).1 ∧ (Sc.tick { x with d := d' }).1.steps = x.steps := by
 obtain ⟨t1, t2, t3, t4⟩ := NA h.w
 have hg := h.Rt
 refine ⟨⟨by have := h.w.Fy; dsimp only; omega, t1, by dsimp only; omega⟩, ?_, rfl⟩
 unfold Sc.tick
 dsimp only
 obtain ⟨a1, l, a2, a3, a4, a5⟩ := t3
 rw [List.nil_append] at a2
 rw [a2]
 have hS : ∀ a, jJ { x with w := x.w.tick, gl := x.gl ++ l, d := d' } a = jJ x a + l.count a := fun a => by
  unfold jJ; dsimp only; rw [List.count_append]; omega
 have hA : ∀ a, At x.w.tick a 1 ↔ At x.w a 1 ∨ a ∈ l := fun a => by
  constructor
  ·rintro ⟨b1, b2, b3⟩
   by_cases e : a ∈ l
   ·exact .inr e
   ·refine .inl ⟨b1, by rw [a1] at b2; exact b2, ?_⟩
    rw [a5 a b1 e] at b3; exact b3
  ·rintro (⟨b1, b2, b3⟩ | e)
   ·by_cases e : a ∈ l
    ·exact ⟨b1, by rw [a1]; exact b2, (a4 a e).2.2.2⟩
    ·exact ⟨b1, by rw [a1]; exact b2, by rw [a5 a b1 e]; exact b3⟩
   ·obtain ⟨c1, c2, c3, c4⟩ := a4 a e
    exact ⟨c1, by rw [a1]; exact c2, c4⟩
 have hn : ∀ a, a ∈ l → ¬ At x.w a 1 := fun a e hh => (a4 a e).2.2.1 hh.2.2
 refine ⟨t2, fun a ha => ?_, fun a ha => ?_, h.cP, h.cM, h.P1, h.M1, h.cS, h.room, fun pr hp => by have := h.eL pr hp; omega, h.ms, h.gj, by have := h.st; dsimp only; omega, by dsimp only; omega, hk⟩
 ·rw [hS]
  rcases (hA a).1 ha with e | e
  ·rw [h.one a e, List.count_eq_zero.2 (fun hm => hn a hm e)]
  ·rw [h.zero a (hn a e), Nat.le_antisymm (List.nodup_iff_count.1 a3 a) (List.count_pos_iff.2 e)]
 ·rw [hS, h.zero a (fun e => ha ((hA a).2 (.inl e))), List.count_eq_zero.2 (fun e => ha ((hA a).2 (.inr e)))]
end
section
variable {p : ck} {N : Nat} {x y z : Sc} {m i g a kind : Int}
theorem SV.bL {AP : List da} {UL : List Int} {dz : kK} {t : Bool} (h : SV p N x) (m0 : 0 ≤ m) (m1 : m < x.ms.length) (hmp : (av x m).p = i) (i0 : 0 ≤ i) (i1 : i < x.ps.length) (hg : (av x m).g = -1)
  (hl : AP.length = x.ps.length) (hr : ∀ pr ∈ AP, KK pr.q ∧ 0 ≤ pr.turns ∧ pr.turns ≤ N) (hb : ∀ j : Nat, (AP.getD j rE).gj = (x.ps.getD j rE).gj)
  (hc : ∀ a, jU AP a + UL.count a + (iq g).count a = jU x.ps a + x.gl.count a) (hok : t = true → 0 ≤ g) (hno : t = false → iq g = []) (hd : dz.taken.length ≤ 3 * N + 3) (hk : dz.k.Ok) :
  SV p (N + 1) (Sc.bL { x with ps := AP, gl := UL, d := dz } m i kind g t).1 ∧ (Sc.bL { x with ps := AP, gl := UL, d := dz } m i kind g t).1.steps = x.steps := by
 have lz := kI m0 m1
 have e0 : iq (av x m).g = [] := by rw [hg]; rfl
 have Vz : AP[i.toNat]? = some (AP.getD i.toNat rE) := by
  rw [List.getD_eq_getElem?_getD, List.getElem?_eq_getElem (by omega)]; rfl
 have hmem := List.mem_of_getElem? Vz
 have hby : (x.ps.getD i.toNat rE).gj = m := by
  have := h.gj m.toNat (av x m) lz (by rw [hmp]; omega)
  rw [hmp] at this
  show (aC x i).gj = m
  rw [this]; omega
 have wS : ∀ b : da, b.q = (AP.getD i.toNat rE).q → ∀ a, jU (AP.set i.toNat b) a = jU AP a := fun b e a => by
  have := oM (a := a) (Ox := b) Vz
  rw [e] at this
  omega
 unfold Sc.bL
 cases t with
 | true =>
  rw [if_pos rfl]
  refine ⟨?_, rfl⟩
  have Bb := h.ms _ (List.mem_of_getElem? lz)
  refine h.go (i := i) m0 m1 i0 i1 (AP.set i.toNat { AP.getD i.toNat rE with turns := (AP.getD i.toNat rE).turns + 1 }) ⟨(av x m).p, g, x.c.S⟩ UL dz (by simp [hl]) (fun pr hp => ?_) (fun j hj => by rw [getD_set_ne hj]; exact hb j) (.inr ⟨hmp, ?_⟩) (.inl hmp) (.inr ⟨by dsimp only; omega, by dsimp only; omega, by dsimp only; have := hok rfl; omega, by have := h.cS; dsimp only; omega, by have := h.cS; dsimp only; omega, fun _ => by have := h.cS; dsimp only; omega⟩) (fun a => ?_) hd hk
  ·rcases List.mem_or_eq_of_mem_set hp with hp | rfl
   ·have := hr pr hp; exact ⟨this.1, by omega⟩
   ·have := hr _ hmem; exact ⟨this.1, by dsimp only; omega⟩
  ·rw [dm (by omega)]
   exact (hb _).trans hby
  ·rw [wS { AP.getD i.toNat rE with turns := (AP.getD i.toNat rE).turns + 1 } rfl, e0]
   have := hc a
   simp only [List.count_nil]
   omega
 | false =>
  rw [if_neg (by decide)]
  refine ⟨?_, rfl⟩
  refine h.go (i := i) m0 m1 i0 i1 (AP.set i.toNat { AP.getD i.toNat rE with gj := -1 }) ⟨-1, -1, 0⟩ UL dz (by simp [hl]) (fun pr hp => ?_) (fun j hj => by rw [getD_set_ne hj]; exact hb j) (.inl rfl) (.inl hmp) (.inl ⟨rfl, rfl, rfl⟩) (fun a => ?_) hd hk
  ·rcases List.mem_or_eq_of_mem_set hp with hp | rfl
   ·have := hr pr hp; exact ⟨this.1, by omega⟩
   ·have := hr _ hmem; exact ⟨this.1, by dsimp only; omega⟩
  ·rw [wS { AP.getD i.toNat rE with gj := -1 } rfl, e0]
   have := hc a
   rw [hno rfl] at this
   simp only [List.count_nil] at *
   have e1 : iq (-1) = [] := rfl
   rw [e1, List.count_nil]
   omega
theorem xG {d : kK} {k n : Int} (hk : d.k.Ok) : (d.draw k n).1.taken.length ≤ d.taken.length + 1 := by
 generalize uW : d.draw k n = r
 obtain ⟨d', o⟩ := r
 cases o with
 | num v =>
  have := (oI hk uW).2.2
  dsimp only
  rw [this]; simp
 | cQ l =>
  have := (CI uW).1
  dsimp only
  rw [this]; omega
theorem SV.find {d' : kK} (h : SV p N x) (m0 : 0 ≤ m) (m1 : m < x.ms.length) (hp : (av x m).p ≠ -1) (hg : (av x m).g = -1) (hN : N ≤ 10000000) (hd : d'.taken.length ≤ 3 * N + 1) (hk : d'.k.Ok) :
  uo { x with d := d' } m ∧ SV p (N + 1) (Sc.find { x with d := d' } m).1 ∧ (Sc.find { x with d := d' } m).1.steps = x.steps := by
 have lz := kI m0 m1
 have Bb := h.ms _ (List.mem_of_getElem? lz)
 have hr : 0 ≤ (av x m).p ∧ (av x m).p < x.ps.length ∧ 0 ≤ (av x m).left ∧ (av x m).left ≤ 1024 := by
  rcases Bb with e | e
  ·exact absurd e.1 hp
  ·omega
 obtain ⟨i0, i1, l0, l1⟩ := hr
 have lq := uv i0 i1
 have hpm := List.mem_of_getElem? lq
 have ht := h.eL _ hpm
 have hroom := h.room _ hpm
 have hpos := h.Rs hpm
 have e0 : iq (av x m).g = [] := by rw [hg]; rfl
 have hcP := h.cP
 have hP1 := h.P1
 refine ⟨⟨m0, m1, i0, i1, by have := h.Rt; dsimp only; omega, ht.1, by have := ht.2; show (aC x (av x m).p).turns < 1000000000; omega, by dsimp only; omega, by dsimp only; omega, by dsimp only; omega⟩, ?_⟩
 have own := FD (t := (aC x (av x m).p).turns) hpos hroom h.OF
 unfold Sc.find
 dsimp only
 have em : av { x with d := d' } m = av x m := rfl
 have ep : ∀ j, aC { x with d := d' } j = aC x j := fun _ => rfl
 rw [em]
 simp only [ep]
 generalize hi : (av x m).p = i at *
 have wS : ∀ b : da, ∀ a, jU (x.ps.set i.toNat b) a + (aC x i).q.all.count a = jU x.ps a + b.q.all.count a := fun b a => oM lq
 split
 ·rename_i hn
  refine ⟨?_, rfl⟩
  have hgp := Fm hpos
  have h0 : 0 ≤ (aC x i).q.get.2 := by
   rcases hgp with ⟨e1, _⟩ | ⟨_, h0⟩
   ·exact absurd e1 hn.2
   ·exact h0
  have hby : (aC x i).gj = m := by
   have := h.gj m.toNat (av x m) lz (by rw [hi]; omega)
   rw [hi] at this
   rw [this]; omega
  refine h.go (i := i) m0 m1 i0 i1 (x.ps.set i.toNat { aC x i with q := (aC x i).q.get.1 }) ⟨i, (aC x i).q.get.2, (av x m).left⟩ x.gl d' (by simp) (fun pr hp => ?_) (fun j hj => by rw [getD_set_ne hj]) (.inr ⟨rfl, by rw [dm (by omega)]; exact hby⟩) (.inl hi) (.inr ⟨by dsimp only; omega, by dsimp only; omega, by dsimp only; omega, l0, l1, fun _ => by have := hn.1; dsimp only; omega⟩) (fun a => ?_) (by omega) hk
  ·rcases List.mem_or_eq_of_mem_set hp with hp | rfl
   ·exact ⟨h.room pr hp, by have := h.eL pr hp; omega⟩
   ·exact ⟨J4 hroom, by dsimp only; omega⟩
  ·have a1 := wS { aC x i with q := (aC x i).q.get.1 } a
   have a2 := Fl _ hpos a
   rw [e0]
   simp only [List.count_nil] at *
   try dsimp only at *
   omega
 ·
  have hown : Sc.own { x with d := d' } i = ({ x with ps := x.ps.set i.toNat { aC x i with q := (hJ (aC x i).q (aC x i).turns x.gl).1 }, gl := (hJ (aC x i).q (aC x i).turns x.gl).2.1, d := d' }, (hJ (aC x i).q (aC x i).turns x.gl).2.2.1, (hJ (aC x i).q (aC x i).turns x.gl).2.2.2) := rfl
  rw [hown]
  generalize hJ (aC x i).q (aC x i).turns x.gl = r at own
  obtain ⟨q1, g1, v1, has⟩ := r
  obtain ⟨o1, o2, o3, o4⟩ := own
  dsimp only at o1 o2 o3 o4 ⊢
  have Ru : ∀ pr ∈ x.ps.set i.toNat { aC x i with q := q1 }, KK pr.q ∧ 0 ≤ pr.turns ∧ pr.turns ≤ N := fun pr hp => by
   rcases List.mem_or_eq_of_mem_set hp with hp | rfl
   ·exact ⟨h.room pr hp, h.eL pr hp⟩
   ·exact ⟨o1, ht⟩
  have NF : ∀ j : Nat, ((x.ps.set i.toNat { aC x i with q := q1 }).getD j rE).gj = (x.ps.getD j rE).gj := fun j => by
   by_cases e : j = i.toNat
   ·subst e
    rw [dm (by omega)]
    rfl
   ·rw [getD_set_ne e]
  have Uq : ∀ a, jU (x.ps.set i.toNat { aC x i with q := q1 }) a + g1.count a + (iq v1).count a = jU x.ps a + x.gl.count a := fun a => by
   have a1 := wS { aC x i with q := q1 } a
   have a2 := o2 a
   dsimp only at *
   omega
  split
  ·rename_i hh
   have ev1 : iq v1 = [] := by rw [o4 hh.1]; rfl
   have zV := xG (k := 2) (n := x.c.P) hk
   have xn := my (kind := 2) (n := x.c.P) hk
   split
   ·rename_i d2 l uW
    rw [uW] at zV xn
    refine ⟨?_, rfl⟩
    have : SV p (N + 1) { x with ps := x.ps.set i.toNat { aC x i with q := q1 }, ms := x.ms.set m.toNat (av x m), gl := g1, d := d2 } :=
     h.go (i := i) m0 m1 i0 i1 _ (av x m) g1 d2 (by simp) (fun pr hp => by have := Ru pr hp; exact ⟨this.1, by omega⟩) (fun j hj => NF j) (.inr ⟨hi, by
      rw [NF]
      have := h.gj m.toNat (av x m) lz (by rw [hi]; omega)
      rw [hi] at this
      show (aC x i).gj = m
      rw [this]; omega⟩) (.inl hi) Bb (fun a => by have := Uq a; rw [ev1] at this; simp only [List.count_nil] at this; exact congrArg (· + (iq (av x m).g).count a) this) (by dsimp only at zV; omega) xn
    rw [eB _ _ _ lz] at this
    exact this
   ·rename_i d2 v uW
    rw [uW] at zV xn
    have hvr := oI hk uW
    have Su : jT x.c.P = x.c.P := by unfold jT; rw [if_neg (by omega)]
    rw [Su] at hvr
    dsimp only at zV xn ⊢
    split
    ·exact h.bL (g := -1) m0 m1 hi i0 i1 hg (by simp) Ru NF (fun a => by have := Uq a; rw [ev1] at this; exact this) (fun e => by cases e) (fun _ => rfl) (by omega) xn
    ·rename_i Vt
     have hne : v.toNat ≠ i.toNat := by omega
     have epi : aC { x with ps := x.ps.set i.toNat { aC x i with q := q1 }, gl := g1, d := d2 } i = { aC x i with q := q1 } := dm (by omega)
     have epv : aC { x with ps := x.ps.set i.toNat { aC x i with q := q1 }, gl := g1, d := d2 } v = aC x v := getD_set_ne hne
     have Ko := uv (x := x) (i := v) hvr.1 (by omega)
     have hvm := List.mem_of_getElem? Ko
     have KL := h.Rs hvm
     have Rv := h.room _ hvm
     have hst := GZ q1 (aC x v).q KL o1.1
     have VA := J6 o1 Rv
     have hsp := G0 (x := q1) KL o1.1
     rw [epi, epv]
     dsimp only
     generalize q1.cZ (aC x v).q = s at hst VA hsp
     obtain ⟨s1, s2, s3⟩ := s
     dsimp only at hst VA hsp ⊢
     have hz : Sc.cj (Sc.cj { x with ps := x.ps.set i.toNat { aC x i with q := q1 }, gl := g1, d := d2 } i { aC x i with q := s1 }) v { aC x v with q := s2 } = { x with ps := (x.ps.set i.toNat { aC x i with q := s1 }).set v.toNat { aC x v with q := s2 }, gl := g1, d := d2 } := by
      unfold Sc.cj
      dsimp only
      rw [List.set_set]
     rw [hz]
     refine h.bL (g := s3) m0 m1 hi i0 i1 hg (by simp) (fun pr hp => ?_) (fun j => ?_) (fun a => ?_) (fun e => ?_) (fun e => ?_) (by omega) xn
     ·rcases List.mem_or_eq_of_mem_set hp with hp | rfl
      ·rcases List.mem_or_eq_of_mem_set hp with hp | rfl
       ·exact ⟨h.room pr hp, h.eL pr hp⟩
       ·exact ⟨VA.1, ht⟩
      ·exact ⟨VA.2, h.eL (aC x v) hvm⟩
     ·by_cases e : j = v.toNat
      ·subst e
       rw [dm (by simp; omega)]
       rfl
      ·rw [getD_set_ne e]
       by_cases e2 : j = i.toNat
       ·subst e2
        rw [dm (by omega)]
        rfl
       ·rw [getD_set_ne e2]
     ·have a1 := wS { aC x i with q := s1 } a
      have a2 := oM (ps := x.ps.set i.toNat { aC x i with q := s1 }) (a := a) (Ox := { aC x v with q := s2 }) (j := v.toNat) (pr := aC x v) (by rw [List.getElem?_set_ne (Ne.symm hne)]; exact Ko)
      have a3 := hst a
      have a4 := o2 a
      rw [ev1] at a4
      simp only [List.count_nil] at a4
      dsimp only at *
      omega
     ·unfold iG at e
      rcases hsp with ⟨e1, e2⟩ | ⟨_, e2⟩
      ·rw [e1] at e
       have h1 := KL.1
       simp at e
       omega
      ·exact e2
     ·unfold iG at e
      simp only [Bool.or_eq_false_iff, bne_eq_false_iff_eq] at e
      rw [e.1]; rfl
  ·rename_i hh
   exact h.bL (g := v1) m0 m1 hi i0 i1 hg (by simp) Ru NF Uq o3 (fun e => by rw [o4 e]; rfl) (by omega) hk
end
section
variable {p : ck} {N : Nat} {x y z : Sc} {m i g a kind : Int}
theorem zF : ∀ (l : List Int) (z : Sc), 0 ≤ (av z m).p → (av z m).p < z.ps.length → (∀ v ∈ l, 0 ≤ v) → (∀ pr ∈ z.ps, KK pr.q) →
  (∀ a, jU (l.foldl (aI m) z).ps a + (l.foldl (aI m) z).gl.count a = jU z.ps a + z.gl.count a + l.count a) ∧
  (∀ pr ∈ (l.foldl (aI m) z).ps, KK pr.q) ∧ (∀ j : Nat, ((l.foldl (aI m) z).ps.getD j rE).gj = (z.ps.getD j rE).gj ∧ ((l.foldl (aI m) z).ps.getD j rE).turns = (z.ps.getD j rE).turns)
 | [], z, _, _, _, hr => ⟨fun a => by simp, hr, fun j => ⟨rfl, rfl⟩⟩
 | r :: l, z, h0, h1, hv, hr => by
  have lq := uv (x := z) h0 h1
  have hps : (aI m z r).ps.length = z.ps.length := by simp [aI, Sc.cj]
  have lz : av (aI m z r) m = av z m := rfl
  have hrm := hr _ (List.mem_of_getElem? lq)
  have Oo : ∀ pr ∈ (aI m z r).ps, KK pr.q := fun pr hp => by
   rcases List.mem_or_eq_of_mem_set hp with hp | rfl
   ·exact hr pr hp
   ·exact J3 hrm _ _
  obtain ⟨a1, a2, a3⟩ := zF l (aI m z r) (by rw [lz]; exact h0) (by rw [lz, hps]; exact h1) (fun v hm => hv v (List.mem_cons_of_mem _ hm)) Oo
  rw [List.foldl_cons]
  refine ⟨fun a => ?_, a2, fun j => ?_⟩
  ·have b1 := a1 a
   have b2 := GX (aC z (av z m).p).q r (by have := hv r (by simp); omega) z.gl a
   have b3 := oM (a := a) (Ox := { aC z (av z m).p with q := ((aC z (av z m).p).q.ready r z.gl).1 }) lq
   have b4 : jU (aI m z r).ps a = jU (z.ps.set (av z m).p.toNat { aC z (av z m).p with q := ((aC z (av z m).p).q.ready r z.gl).1 }) a := rfl
   have b5 : (aI m z r).gl = ((aC z (av z m).p).q.ready r z.gl).2.1 := rfl
   rw [b4, b5] at b1
   simp only [List.count_cons, List.count_nil] at *
   try dsimp only at *
   omega
  ·obtain ⟨c1, c2⟩ := a3 j
   rw [c1, c2]
   show ((z.ps.set (av z m).p.toNat _).getD j rE).gj = _ ∧ ((z.ps.set (av z m).p.toNat _).getD j rE).turns = _
   by_cases e : j = (av z m).p.toNat
   ·subst e
    rw [dm (by omega)]
    exact ⟨rfl, rfl⟩
   ·rw [getD_set_ne e]
    exact ⟨rfl, rfl⟩
theorem NG {w y : Wd} (hy : WV p y) (h : gH g w y) : y.ready.length ≤ 100 := by
 have h1 := pg (b := 1) y.gs.length y.ready (fun v hv => ⟨(h.2.2.1 v hv).1, (h.2.2.1 v hv).2.1⟩) (fun v => List.nodup_iff_count.1 h.1 v)
 have := hy.n2
 omega
theorem Rw {w y : Wd} (h : gH g w y) (h0 : 0 ≤ g) (hg : g < w.gs.length) : (At y a 1 ↔ (a = g ∧ (ae y g).st = 1) ∨ a ∈ y.ready ∨ (a ≠ g ∧ At w a 1)) := by
 obtain ⟨_, a2, a3, a4, a5, a6⟩ := h
 constructor
 ·rintro ⟨b1, b2, b3⟩
  by_cases e : a = g
  ·exact .inl ⟨e, by rw [← e]; exact b3⟩
  ·by_cases er : a ∈ y.ready
   ·exact .inr (.inl er)
   ·refine .inr (.inr ⟨e, b1, ?_, by rw [← a4 a b1 e er]; exact b3⟩)
    by_cases hl : a < w.gs.length
    ·exact hl
    ·exact absurd (a6 a (by omega) b2) er
 ·rintro (⟨rfl, e⟩ | e | ⟨e, b1, b2, b3⟩)
  ·exact ⟨h0, by omega, e⟩
  ·exact ⟨(a3 a e).1, (a3 a e).2.1, (a3 a e).2.2.2⟩
  ·by_cases er : a ∈ y.ready
   ·exact ⟨(a3 a er).1, (a3 a er).2.1, (a3 a er).2.2.2⟩
   ·exact ⟨b1, by omega, by rw [a4 a b1 e er]; exact b3⟩
theorem SV.g7 {d' : kK} {y : Wd} {rest : Bool} (h : SV p N x) (m0 : 0 ≤ m) (m1 : m < x.ms.length) (hp : (av x m).p ≠ -1) (hg : 0 ≤ (av x m).g) (hy : WV p y) (hr : gH (av x m).g { x.w with ready := [] } y)
  (hd : d'.taken.length ≤ 3 * N + 3) (hk : d'.k.Ok) {d0 : kK} : ∃ z o, g7 { x with d := d0 } m (av x m).g d' y rest = some (z, o) ∧ SV p (N + 1) z ∧ z.steps = x.steps := by
 have lz := kI m0 m1
 have NB := List.mem_of_getElem? lz
 have Bb := h.ms _ NB
 have Ba := h.mg NB hg
 have hbd : 0 ≤ (av x m).p ∧ (av x m).p < x.ps.length ∧ 1 ≤ (av x m).left ∧ (av x m).left ≤ 1024 := by
  rcases Bb with e | e
  ·exact absurd e.1 hp
  ·have := e.2.2.2.2.2 hg; omega
 obtain ⟨i0, i1, l0, l1⟩ := hbd
 have iP := NG hy hr
 have hglt : (av x m).g < y.gs.length := by have := hr.2.2.2.2.1; have := Ba.2.1; dsimp only at *; omega
 unfold Proofs.g7
 rw [if_pos ⟨by omega, hglt⟩]
 have f1 := gA (m := m) y.ready { x with w := y, d := d' } i0 i1
 have f2 := zF (m := m) y.ready { x with w := y, d := d' } i0 i1 (fun v hv => (hr.2.2.1 v hv).1) h.room
 (try dsimp only at f1 f2 ⊢)
 generalize List.foldl (aI m) { x with w := y, d := d' } y.ready = z at f1 f2
 obtain ⟨z1, z2, z3, z4, z5, z6, _⟩ := f1
 obtain ⟨c1, c2, c3⟩ := f2
 have UM := fun a => Rw (a := a) hr hg Ba.2.1
 have OG : ∀ a, a ∈ y.ready → ¬ At x.w a 1 ∧ a ≠ (av x m).g ∧ y.ready.count a = 1 := fun a ha =>
  ⟨(hr.2.2.1 a ha).2.2.1, fun e => hr.2.1 (e ▸ ha), Nat.le_antisymm (List.nodup_iff_count.1 hr.1 a) (List.count_pos_iff.2 ha)⟩
 have UN : ∀ pr ∈ z.ps, 0 ≤ pr.turns ∧ pr.turns ≤ N := fun pr lq => by
  obtain ⟨j, hj, e⟩ := List.getElem_of_mem lq
  have e2 : z.ps.getD j rE = pr := by rw [List.getD_eq_getElem?_getD, List.getElem?_eq_getElem hj, e]; rfl
  have Dw : j < x.ps.length := by omega
  have e3 : x.ps.getD j rE = x.ps[j] := by rw [List.getD_eq_getElem?_getD, List.getElem?_eq_getElem Dw]; rfl
  have := (c3 j).2
  rw [e2, e3] at this
  rw [this]
  exact h.eL _ (List.getElem_mem Dw)
 have done : ∀ (tj : xQ) (Hv : List Int), tj.p = (av x m).p → 0 ≤ tj.left → tj.left ≤ 1024 → -1 ≤ tj.g → (0 ≤ tj.g → 1 ≤ tj.left) →
   (∀ a, Hv.count a + (iq tj.g).count a = z.gl.count a + (if (ae y (av x m).g).st = 1 then [(av x m).g].count a else 0)) →
   SV p (N + 1) { z with ms := z.ms.set m.toNat tj, gl := Hv } := by
  intro tj Hv e1 e2 e3 e4 e5 e6
  have hS : ∀ a, jJ { z with ms := z.ms.set m.toNat tj, gl := Hv } a + [(av x m).g].count a = jJ x a + y.ready.count a + (if (ae y (av x m).g).st = 1 then [(av x m).g].count a else 0) := fun a => by
   have q1 := xF (a := a) (tj := tj) lz
   have q2 := c1 a
   have q3 := e6 a
   rw [gX hg] at q1
   unfold jJ
   (try dsimp only)
   rw [z1]
   (try dsimp only at q2)
   omega
  have hwz : z.w = y := z3
  refine ⟨by (try dsimp only); rw [hwz]; exact hy, fun a ha => ?_, fun a ha => ?_, by (try dsimp only); rw [z5, z2]; exact h.cP, by (try dsimp only); rw [z5, z1]; simpa using h.cM, by (try dsimp only); rw [z2]; exact h.P1, by (try dsimp only); rw [z1]; simpa using h.M1, by (try dsimp only); rw [z5]; exact h.cS, c2, fun pr lq => by have := UN pr lq; omega, fun mc KM => ?_, fun j mc hj hne => ?_, by have := h.st; (try dsimp only); rw [z6]; (try dsimp only); omega, by (try dsimp only); rw [z4]; (try dsimp only); omega, by (try dsimp only); rw [z4]; exact hk⟩
  ·(try dsimp only at ha)
   rw [hwz] at ha
   have hs := hS a
   rcases (UM a).1 ha with ⟨e, es⟩ | e | ⟨e, ew⟩
   ·subst e
    have n1 : y.ready.count (av x m).g = 0 := List.count_eq_zero.2 hr.2.1
    have n2 := h.one _ Ba
    rw [if_pos es] at hs
    omega
   ·obtain ⟨w1, w2, w3⟩ := OG a e
    have n2 := h.zero a w1
    have n3 : [(av x m).g].count a = 0 := List.count_eq_zero.2 (by simpa using w2)
    rw [n3] at hs
    have : (if (ae y (av x m).g).st = 1 then 0 else 0) = 0 := by split <;> rfl
    omega
   ·have n3 : [(av x m).g].count a = 0 := List.count_eq_zero.2 (by simpa using e)
    have n2 := h.one a ew
    have n1 : y.ready.count a = 0 := List.count_eq_zero.2 (fun e2 => (OG a e2).1 ew)
    rw [n3] at hs
    have : (if (ae y (av x m).g).st = 1 then 0 else 0) = 0 := by split <;> rfl
    omega
  ·(try dsimp only at ha)
   rw [hwz] at ha
   have hs := hS a
   have hn := fun e => ha ((UM a).2 e)
   by_cases e : a = (av x m).g
   ·subst e
    have n1 : y.ready.count (av x m).g = 0 := List.count_eq_zero.2 hr.2.1
    have n2 := h.one _ Ba
    have n3 : [(av x m).g].count (av x m).g = 1 := by simp
    rw [if_neg (fun es => hn (.inl ⟨rfl, es⟩))] at hs
    omega
   ·have n3 : [(av x m).g].count a = 0 := List.count_eq_zero.2 (by simpa using e)
    have n2 := h.zero a (fun ew => hn (.inr (.inr ⟨e, ew⟩)))
    have n1 : y.ready.count a = 0 := List.count_eq_zero.2 (fun e2 => hn (.inr (.inl e2)))
    rw [n3] at hs
    have : (if (ae y (av x m).g).st = 1 then 0 else 0) = 0 := by split <;> rfl
    omega
  ·(try dsimp only at KM ⊢)
   rw [z2]
   rw [z1] at KM
   rcases iz KM with KM | rfl
   ·exact h.ms mc KM
   ·exact .inr ⟨by omega, by (try dsimp only); omega, e4, e2, e3, e5⟩
  ·(try dsimp only at hj)
   rw [z1] at hj
   show (z.ps.getD mc.p.toNat rE).gj = _
   rw [(c3 _).1]
   by_cases e : j = m.toNat
   ·subst e
    rw [List.getElem?_set_self (by (try dsimp only); omega)] at hj
    simp only [Option.some.injEq] at hj
    subst hj
    rw [e1]
    exact h.gj m.toNat _ lz hp
   ·rw [List.getElem?_set_ne (Ne.symm e)] at hj
    exact h.gj j mc hj hne
 have hzm : av z m = av x m := by unfold av; rw [z1]
 have hzs : z.steps = x.steps := z6
 unfold Sc.oJ
 rw [hzm]
 split
 ·rename_i hkp
  refine ⟨_, _, rfl, ?_, hzs⟩
  have hst : (ae y (av x m).g).st = 1 := by
   have := hkp.1
   unfold dZ at this
   simp only [Bool.and_eq_true, beq_iff_eq] at this
   exact this.2
  exact done { av x m with left := (av x m).left - 1 } z.gl rfl (by (try dsimp only); omega) (by (try dsimp only); omega) (by (try dsimp only); omega) (fun _ => by (try dsimp only); omega) (fun a => by rw [if_pos hst]; (try dsimp only); rw [gX hg])
 ·refine ⟨_, _, rfl, ?_, hzs⟩
  refine done { av x m with left := (av x m).left - 1, g := -1 } _ rfl (by (try dsimp only); omega) (by (try dsimp only); omega) (by (try dsimp only); omega) (fun e => by (try dsimp only at e); omega) (fun a => ?_)
  have e1 : iq (-1) = [] := rfl
  (try dsimp only)
  rw [e1, z3]
  split
  ·rw [List.count_append]; simp
  ·simp
end
section
variable {p : ck} {N : Nat} {x y z : Sc} {m i g a kind : Int}
theorem SV.KN (h : SV p N x) {r : List Int} {d' : kK} (hd : d'.taken.length ≤ 3 * N + 3) (hk : d'.k.Ok) : SV p (N + 1) { x with w := { x.w with ready := r }, d := d' } :=
 ⟨h.w.ready, h.one, h.zero, h.cP, h.cM, h.P1, h.M1, h.cS, h.room, fun pr hp => by have := h.eL pr hp; omega, h.ms, h.gj, by have := h.st; dsimp only; omega, by dsimp only; omega, hk⟩
theorem SV.run {d' : kK} (h : SV p N x) (hp : fm p) (m0 : 0 ≤ m) (m1 : m < x.ms.length) (hmp : (av x m).p ≠ -1) (hg : (av x m).g ≠ -1) (hN : N ≤ 1000000) (hd : d'.taken.length ≤ 3 * N + 1) (hk : d'.k.Ok) :
  ∃ z o, Sc.run p { x with d := d' } m = some (z, o) ∧ SV p (N + 1) z ∧ z.steps = x.steps := by
 have lz := kI m0 m1
 have NB := List.mem_of_getElem? lz
 have Bb := h.ms _ NB
 have hbd : 0 ≤ (av x m).p ∧ (av x m).p < x.ps.length ∧ 0 ≤ (av x m).g ∧ 1 ≤ (av x m).left ∧ (av x m).left ≤ 1024 := by
  rcases Bb with e | e
  ·exact absurd e.1 hmp
  ·have := e.2.2.2.2.2; omega
 obtain ⟨i0, i1, g0, l0, l1⟩ := hbd
 have Ba := h.mg NB g0
 unfold Sc.run
 have em : av { x with d := d' } m = av x m := rfl
 rw [em]
 rw [if_pos (show xl p { x with d := d' } m from ⟨m0, m1, i0, i1, by have := h.Rt; dsimp only; omega, by dsimp only; omega, l0, by show (av x m).left < 1000000000; omega, g0⟩)]
 dsimp only
 generalize vq : asks p { x.w with ready := [] } (av x m).g = ak
 have hbk : ∀ k n, ak = some (k, n) → 1 ≤ n ∧ n < 1099511627776 := fun k n e => Ny hp (by rw [vq]; exact e)
 rw [if_pos (show Ks ak = true from by
  cases ak with
  | none => rfl
  | some kn => obtain ⟨k, n⟩ := kn; have := hbk k n rfl; exact decide_eq_true (by omega))]
 have vo : ∀ d2 dr, eu d' ak = (d2, dr) → d2.k.Ok ∧ d2.taken.length ≤ 3 * N + 2 ∧ (∀ v kd n, dr = .num v → ak = some (kd, n) → 0 ≤ v ∧ v < n) := by
  intro d2 dr e
  cases ak with
  | none =>
   unfold eu at e
   cases e
   exact ⟨hk, by omega, fun v kd n _ e => by cases e⟩
  | some kn =>
   obtain ⟨k, n⟩ := kn
   unfold eu at e
   dsimp only at e
   have a1 := my (kind := k) (n := n) hk
   have a2 := xG (k := k) (n := n) hk
   rw [e] at a1 a2
   dsimp only at a1 a2
   refine ⟨a1, by omega, fun v kd n' e1 e2 => ?_⟩
   subst e1
   cases e2
   have := oI hk e
   have hb := hbk _ _ rfl
   rw [show jT n = n from by unfold jT; rw [if_neg (by omega)]] at this
   exact ⟨this.1, this.2.1⟩
 generalize uW : eu d' ak = dd at vo
 obtain ⟨d2, dr⟩ := dd
 obtain ⟨k2, t2, v2⟩ := vo d2 dr rfl
 dsimp only
 obtain ⟨r, rest, hex, hres⟩ := CW (d := dr) h.w hp g0 (fun v kd n e1 e2 => v2 v kd n e1 (by rw [← vq]; exact e2))
 rw [hex]
 rcases hres with ⟨hres, _⟩ | ⟨l, e1, e2, _⟩
 ·cases r with
  | on y => exact h.g7 m0 m1 hmp g0 hres.1 hres.2 (by omega) k2
  | dM n y => exact h.g7 (y := { y with end_ := 2, code := n }) m0 m1 hmp g0 (hres.1.fin (e := 2) (c := n)) (hres.2.Hz rfl rfl fun _ _ _ => rfl) (by omega) k2
  | cQ l y => exact hres.elim
 ·subst e2
  exact ⟨_, _, rfl, h.KN (by omega) k2, rfl⟩
theorem SV.step (h : SV p N x) (hp : fm p) (hN : N ≤ 1000000) : ∃ y o, x.step p = some (y, o) ∧ SV p (N + 1) y := by
 have hst := h.st
 have Rd := h.tk
 have hM := h.cM
 have hM1 := h.M1
 have hP1 := h.P1
 unfold Sc.step
 rw [if_pos (show vO x from ⟨by have := h.w.n2; omega, hM, by omega, by omega, by omega, hst.1, by omega⟩)]
 split
 ·exact ⟨_, _, rfl, h.mono (by omega)⟩
 ·rename_i hs
  have zV := xG (k := 1) (n := x.c.M + 1) h.k
  have xn := my (kind := 1) (n := x.c.M + 1) h.k
  split
  ·rename_i d' l uW
   rw [uW] at zV xn
   dsimp only at zV xn
   exact ⟨_, _, rfl, h.draw (by omega) xn⟩
  ·rename_i d' m uW
   rw [uW] at zV xn
   dsimp only at zV xn
   have hv := oI h.k uW
   rw [show jT (x.c.M + 1) = x.c.M + 1 from by unfold jT; rw [if_neg (by omega)]] at hv
   obtain ⟨m0, mM, _⟩ := hv
   have fin : ∀ z o, SV p (N + 1) z → z.steps = x.steps → ∃ y o', Option.map xm (some (z, o)) = some (y, o') ∧ SV p (N + 1) y := fun z o hz hzs => by
    cases o with
    | ev e => exact ⟨_, _, rfl, hz.inc (by rw [hzs]; exact hst)⟩
    | cQ l => exact ⟨_, _, rfl, hz⟩
   unfold Sc.act
   dsimp only
   split
   ·obtain ⟨t1, t2, t3⟩ := h.tick (d' := d') (by omega) xn
    rw [if_pos t1]
    exact fin _ _ t2 t3
   ·rename_i hmM
    have m1 : m < x.ms.length := by omega
    have em : av { x with d := d' } m = av x m := rfl
    rw [em]
    split
    ·rename_i hmp
     obtain ⟨t2, t3⟩ := h.hold (d' := d') m0 m1 hmp (by omega) xn
     exact fin _ _ t2 t3
    ·rename_i hmp
     split
     ·rename_i OH
      obtain ⟨t1, t2, t3⟩ := h.find (d' := d') m0 m1 hmp OH (by omega) (by omega) xn
      rw [if_pos t1]
      exact fin _ _ t2 t3
     ·rename_i OH
      obtain ⟨z, o, t1, t2, t3⟩ := h.run (d' := d') hp m0 m1 hmp OH hN (by omega) xn
      rw [t1]
      exact fin _ _ t2 t3
theorem SV.new {c : Ow} {d : kK} (hp : fm p) (hP : 1 ≤ c.P ∧ c.P ≤ 64) (hM : 1 ≤ c.M ∧ c.M ≤ 64) (hS : 1 ≤ c.S ∧ c.S ≤ 1024) (hd : d.taken = []) (hk : d.k.Ok) : SV p 0 (Sc.new p c d) := by
 have hw := Rr hp
 have hA : ∀ a, At (Wd.new p) a 1 ↔ a = 0 := fun a => by
  constructor
  ·rintro ⟨b1, b2, _⟩
   simp [Wd.new] at b2
   omega
  ·rintro rfl
   exact ⟨by decide, by simp [Wd.new], rfl⟩
 have hQ : ∀ a, jU (List.replicate c.P.toNat ⟨⟨-1, fN c.R, []⟩, 0, -1⟩) a = 0 := fun a => by
  unfold jU
  rw [List.count_eq_zero]
  intro hm
  obtain ⟨q, hq, h2⟩ := List.mem_flatMap.1 hm
  obtain ⟨pr, lq, rfl⟩ := List.mem_map.1 hq
  rw [List.eq_of_mem_replicate lq] at h2
  simp [Loc.all] at h2
 have hMm : ∀ a, AO (List.replicate c.M.toNat ⟨-1, -1, 0⟩) a = 0 := fun a => by
  unfold AO
  rw [List.count_eq_zero]
  intro hm
  obtain ⟨q, hq, h2⟩ := List.mem_flatMap.1 hm
  rw [List.eq_of_mem_replicate hq] at h2
  simp [iq] at h2
 have hC : ∀ a, jJ (Sc.new p c d) a = [(0 : Int)].count a := fun a => by
  unfold jJ Sc.new
  dsimp only
  rw [hQ, hMm]; omega
 have cap := Fj c.R
 refine ⟨hw, fun a ha => ?_, fun a ha => ?_, by simp [Sc.new]; omega, by simp [Sc.new]; omega, by simp [Sc.new]; omega, by simp [Sc.new]; omega, hS, fun pr lq => ?_, fun pr lq => ?_, fun mc lz => ?_, fun j mc hj hne => ?_, by simp [Sc.new], by simp [Sc.new, hd], hk⟩
 ·rw [hC, (hA a).1 ha]; rfl
 ·rw [hC]
  exact List.count_eq_zero.2 (fun e => ha ((hA a).2 (by simpa using e)))
 ·rw [List.eq_of_mem_replicate lq]
  exact ⟨by simp, cap.2, cap.1⟩
 ·rw [List.eq_of_mem_replicate lq]
  simp
 ·rw [List.eq_of_mem_replicate lz]
  exact .inl ⟨rfl, rfl, rfl⟩
 ·have := List.eq_of_mem_replicate (List.mem_of_getElem? hj)
  rw [this] at hne
  exact absurd rfl hne
end
section
variable {p : ck} {N i : Nat} {x y z : Sc} {g a v : Int} {l : List Int}
structure One (l : List Int) (i : Nat) (x : Sc) : Prop where
 ps : x.ps.length = 1
 ms : x.ms.length = 1
 gj : (av x 0).p = -1 → (aC x 0).gj = -1
 k : x.d.k = .m7 l i
inductive Sk (p : ck) (x y : Sc) : Prop where
 | held (h : (av x 0).p = -1) (hw : y.w = x.w) (h1 : (av y 0).p = 0) (h2 : (av y 0).g = -1) (hg : y.gl = x.gl)
 | next (h : (av x 0).p = 0) (h0 : (av x 0).g = -1) (hw : y.w = x.w) (h1 : (av y 0).p = 0) (h2 : (av y 0).g = (aC x 0).q.next) (h3 : (aC x 0).q.next ≠ -1)
 | own (h : (av x 0).p = 0) (h0 : (av x 0).g = -1) (hw : y.w = x.w) (h1 : (av y 0).p = 0) (h2 : (av y 0).g = (hJ (aC x 0).q (aC x 0).turns x.gl).2.2.1) (h3 : (hJ (aC x 0).q (aC x 0).turns x.gl).2.2.2 = true) (ht : (aC y 0).turns = (aC x 0).turns + 1)
 | CM (h : (av x 0).p = 0) (h0 : (av x 0).g = -1) (hw : y.w = x.w) (h1 : (av y 0).p = -1) (h2 : (av y 0).g = -1) (h3 : (hJ (aC x 0).q (aC x 0).turns x.gl).2.2.2 = false) (hg : y.gl = (hJ (aC x 0).q (aC x 0).turns x.gl).2.1)
 | Sn (w : Wd) (keep : Bool) (h : (av x 0).p = 0) (h0 : 0 ≤ (av x 0).g) (he : exec p x.w (av x 0).g (.num 0) = some (w, keep)) (hw : y.w = w) (h1 : (av y 0).p = 0)
   (h2 : keep = true ∧ (av y 0).g = (av x 0).g ∨ (av y 0).g = -1 ∧ ((ae w (av x 0).g).st = 1 → y.gl.getLast? = some (av x 0).g)) (ht : (aC y 0).turns = (aC x 0).turns)
theorem UO (h : SV p N x) (o : One l i x) : (av x 0).p = -1 ∨ (av x 0).p = 0 := by
 have h1 := o.ms
 have Bb := h.ms _ (List.mem_of_getElem? (kI (x := x) (m := 0) (by omega) (by omega)))
 rw [o.ps] at Bb
 rcases Bb with e | e
 ·exact .inl e.1
 ·omega
theorem g8 (h : x.ms.length = 1) {c : xQ} : av (x.fB 0 c) 0 = c := by simp [av, Sc.fB, h]
theorem NH {c : xQ} : aC (x.fB 0 c) 0 = aC x 0 := rfl
theorem lD {c : xQ} : (x.fB 0 c).ms.length = x.ms.length := by simp [Sc.fB]
theorem KO {c : da} : (x.cj 0 c).ps.length = x.ps.length := by simp [Sc.cj]
theorem KP (h : z.ps.length = 1) (h2 : x.ps.length = 1) (e : bH [0] z.ps = bH [0] x.ps) : (aC z 0).turns = (aC x 0).turns := by
 obtain ⟨a, ha⟩ := List.length_eq_one_iff.1 h
 obtain ⟨b, hb⟩ := List.length_eq_one_iff.1 h2
 rw [ha, hb] at e
 simp only [bH, List.zipWith_cons_cons, List.zipWith_nil_left, List.cons.injEq, Prod.mk.injEq] at e
 unfold aC
 rw [ha, hb]
 exact e.1.2.1
theorem NI {d' : kK} (h : SV p N x) (o : One l i x) (hx : (av x 0).p = 0) (hg : 0 ≤ (av x 0).g) (ha : asks p { x.w with ready := [] } (av x 0).g = none) {e : lu}
  (hp : fm p) (hr : Sc.run p { x with d := d' } 0 = some (y, e)) : (∃ e', e = .ev e') ∧ y.ps.length = 1 ∧ y.ms.length = 1 ∧ y.d = d' ∧ Sk p x y := by
 have o1 := o.ps
 have o2 := o.ms
 unfold Sc.run at hr
 have em : av { x with d := d' } 0 = av x 0 := rfl
 rw [em] at hr
 split at hr
 ·dsimp only at hr
  rw [ha] at hr
  rw [if_pos (show Ks none = true from rfl)] at hr
  have ea : eu d' none = (d', .num 0) := rfl
  rw [ea] at hr
  dsimp only at hr
  have key : ∀ (r : Out Wd) (w : Wd) (rest : Bool), exec p x.w (av x 0).g (.num 0) = some (w, dZ w (av x 0).g rest) → g7 { x with d := d' } 0 (av x 0).g d' w rest = some (y, e) →
    (∃ e', e = .ev e') ∧ y.ps.length = 1 ∧ y.ms.length = 1 ∧ y.d = d' ∧ Sk p x y := by
   intro r w rest hex hro
   unfold g7 at hro
   split at hro
   ·have f1 := gA (m := 0) w.ready { x with w := w, d := d' } (by show 0 ≤ (av x 0).p; omega) (by show (av x 0).p < x.ps.length; omega)
    generalize List.foldl (aI 0) { x with w := w, d := d' } w.ready = z at f1 hro
    obtain ⟨z1, z2, z3, z4, z5, z6, z7⟩ := f1
    dsimp only at z1 z2 z3 z4 z5 z6 z7
    have f2 := KP (z2.trans o1) o1 (z7 [0])
    have hzm : av z 0 = av x 0 := by unfold av; rw [z1]
    have UP : z.ms.length = 1 := by rw [z1]; exact o2
    simp only [Option.some.injEq, Prod.mk.injEq] at hro
    obtain ⟨hy, he⟩ := hro
    refine ⟨⟨_, he.symm⟩, ?_⟩
    unfold Sc.oJ at hy
    rw [hzm] at hy
    split at hy
    ·rename_i hkp
     subst hy
     refine ⟨by rw [← z2.trans o1]; rfl, by rw [lD]; exact UP, z4, .Sn w _ hx hg hex z3 (by rw [g8 UP]; exact hx) (.inl ⟨hkp.1, by rw [g8 UP]⟩) (by rw [NH]; exact f2)⟩
    ·subst hy
     have e1 : ∀ (c : xQ) (gl : List Int), av { z.fB 0 c with gl := gl } 0 = c := fun c gl => g8 (x := z) UP
     refine ⟨by rw [← z2.trans o1]; rfl, (lD (x := z)).trans UP, z4, .Sn w _ hx hg hex z3 (by rw [e1]; exact hx) (.inr ⟨by rw [e1], fun hs => ?_⟩) (by exact f2)⟩
     dsimp only
     rw [z3, if_pos hs]
     simp
   ·cases hro
  have UQ : ∀ r rest, j7 p x.w (av x 0).g (.num 0) = some (r, rest) → exec p x.w (av x 0).g (.num 0) = match r with
    | .on y => some (y, dZ y (av x 0).g rest)
    | .dM n y => some ({ y with end_ := 2, code := n }, dZ { y with end_ := 2, code := n } (av x 0).g rest)
    | .cQ _ _ => none := fun r rest e1 => by
   unfold exec
   rw [e1]
   cases r <;> rfl
  split at hr
  ·cases hr
  ·rename_i l1 y1 rest he
   exfalso
   obtain ⟨r2, rest2, hex, hres⟩ := CW (d := .num 0) h.w hp hg (fun v kd n e1 e2 => by rw [ha] at e2; cases e2)
   rw [he] at hex
   cases hex
   rcases hres with ⟨hres, _⟩ | ⟨l3, e1, _⟩
   ·exact hres.elim
   ·cases e1
  ·rename_i y1 rest he
   exact key (.on y1) y1 rest (UQ _ _ he) hr
  ·rename_i n1 y1 rest he
   exact key (.on y1) _ rest (UQ _ _ he) hr
 ·cases hr
theorem CX (h : SV p N x) (hp : fm p) (hN : N ≤ 1000000) (o : One l i x) (hs : x.status = 0) (hi : l[i]? = some v) (hv : Int.tmod v 2 = 0) (ha : 0 ≤ (av x 0).g → asks p { x.w with ready := [] } (av x 0).g = none) :
  ∃ y e, x.step p = some (y, .ev e) ∧ SV p (N + 1) y ∧ One l (i + 1) y ∧ Sk p x y := by
 obtain ⟨y, oo, hst, OI⟩ := h.step hp hN
 have o1 := o.ps
 have o2 := o.ms
 have hM := h.cM
 have hP := h.cP
 have hx := UO h o
 suffices hh : (∃ e', oo = .ev e') ∧ y.ps.length = 1 ∧ y.ms.length = 1 ∧ y.d.k = .m7 l (i + 1) ∧ ((av y 0).p = -1 → (aC y 0).gj = -1) ∧ Sk p x y by
  obtain ⟨⟨e, rfl⟩, h1, h2, h3, h4, h5⟩ := hh
  exact ⟨y, e, hst, OI, ⟨h1, h2, h4, h3⟩, h5⟩
 unfold Sc.step at hst
 split at hst
 ·rw [if_neg (by omega)] at hst
  have vo : x.d.draw 1 (x.c.M + 1) = (⟨.m7 l (i + 1), x.d.taken ++ [(1, 0)]⟩, .num 0) := by
   unfold kK.draw gx.next
   rw [o.k, hM, o2]
   dsimp only
   rw [hi]
   dsimp only
   rw [show jT (((1 : Nat) : Int) + 1) = 2 from rfl, hv]
  rw [vo] at hst
  dsimp only at hst
  cases hac : Sc.act p { x with d := ⟨.m7 l (i + 1), x.d.taken ++ [(1, 0)]⟩ } 0 with
  | none => rw [hac] at hst; cases hst
  | some w =>
   obtain ⟨w, e⟩ := w
   rw [hac] at hst
   simp only [Option.map_some, Option.some.injEq] at hst
   suffices hw : (∃ e', e = .ev e') ∧ w.ps.length = 1 ∧ w.ms.length = 1 ∧ w.d.k = .m7 l (i + 1) ∧ ((av w 0).p = -1 → (aC w 0).gj = -1) ∧ Sk p x w by
    obtain ⟨⟨e', rfl⟩, h1, h2, h3, h4, h5⟩ := hw
    unfold xm at hst
    dsimp only at hst
    simp only [Prod.mk.injEq] at hst
    obtain ⟨rfl, rfl⟩ := hst
    refine ⟨⟨_, rfl⟩, h1, h2, h3, h4, ?_⟩
    cases h5 with
    | held a1 a2 a3 a4 a5 => exact .held a1 a2 a3 a4 a5
    | next a1 a2 a3 a4 a5 a6 => exact .next a1 a2 a3 a4 a5 a6
    | own a1 a2 a3 a4 a5 a6 a7 => exact .own a1 a2 a3 a4 a5 a6 a7
    | CM a1 a2 a3 a4 a5 a6 a7 => exact .CM a1 a2 a3 a4 a5 a6 a7
    | Sn w' k' a1 a2 a3 a4 a5 a6 a7 => exact .Sn w' k' a1 a2 a3 a4 a5 a6 a7
   unfold Sc.act at hac
   dsimp only at hac
   rw [if_neg (by omega)] at hac
   have em : av { x with d := ⟨.m7 l (i + 1), x.d.taken ++ [(1, 0)]⟩ } 0 = av x 0 := rfl
   rw [em] at hac
   split at hac
   ·rename_i hmp
    cases hac
    refine ⟨⟨_, rfl⟩, ?_⟩
    obtain ⟨q, hq⟩ := List.length_eq_one_iff.1 o1
    have hb := o.gj hmp
    have K4 : q.gj = -1 := by unfold aC at hb; rw [hq] at hb; exact hb
    unfold Sc.hold
    dsimp only
    rw [hq]
    rw [show List.findIdx? (fun pr : da => pr.gj == -1) [q] = some 0 from by simp [K4]]
    dsimp only
    refine ⟨rfl, by rw [lD]; exact o2, rfl, fun e => ?_, .held hmp rfl ?_ ?_ rfl⟩
    ·exfalso
     rw [show ((0 : Nat) : Int) = 0 from rfl, g8 (by exact o2)] at e
     dsimp only at e
     omega
    ·rw [show ((0 : Nat) : Int) = 0 from rfl, g8 (by exact o2)]
    ·rw [show ((0 : Nat) : Int) = 0 from rfl, g8 (by exact o2)]
     show (av x 0).g = -1
     have Bb := h.ms _ (List.mem_of_getElem? (kI (x := x) (m := 0) (by omega) (by omega)))
     rcases Bb with e | e
     ·exact e.2.1
     ·omega
   ·rename_i hmp
    have hx0 : (av x 0).p = 0 := by omega
    split at hac
    ·rename_i OH
     split at hac
     ·simp only [Option.some.injEq] at hac
      unfold Sc.find at hac
      rw [em, hx0] at hac
      dsimp only at hac
      have ep : aC { x with d := ⟨.m7 l (i + 1), x.d.taken ++ [(1, 0)]⟩ } 0 = aC x 0 := rfl
      rw [ep] at hac
      split at hac
      ·rename_i Oz
       cases hac
       have eg : (aC x 0).q.get.2 = (aC x 0).q.next := by unfold Loc.get; rw [if_pos Oz.2]
       refine ⟨⟨_, rfl⟩, (KO (x := x)).trans o1, (lD (x := x)).trans o2, rfl, fun e => ?_, .next hx0 OH rfl ?_ ?_ Oz.2⟩
       ·exfalso
        rw [g8 (by exact o2)] at e
        dsimp only at e
        omega
       ·rw [g8 (by exact o2)]
        exact hx0
       ·rw [g8 (by exact o2)]
        exact eg
      ·rw [if_neg (fun e => by have := e.2; omega)] at hac
       have hown : Sc.own { x with d := ⟨.m7 l (i + 1), x.d.taken ++ [(1, 0)]⟩ } 0 = ({ x.cj 0 { aC x 0 with q := (hJ (aC x 0).q (aC x 0).turns x.gl).1 } with gl := (hJ (aC x 0).q (aC x 0).turns x.gl).2.1, d := ⟨.m7 l (i + 1), x.d.taken ++ [(1, 0)]⟩ }, (hJ (aC x 0).q (aC x 0).turns x.gl).2.2.1, (hJ (aC x 0).q (aC x 0).turns x.gl).2.2.2) := rfl
       rw [hown] at hac
       unfold Sc.bL at hac
       dsimp only at hac
       split at hac
       ·rename_i hh
        cases hac
        refine ⟨⟨_, rfl⟩, ?_, (lD (x := x)).trans o2, rfl, fun e => ?_, .own hx0 OH rfl ?_ ?_ hh ?_⟩
        ·simp [Sc.cj, Sc.fB, o1]
        ·exfalso
         rw [g8 (by exact o2)] at e
         exact hmp e
        ·rw [g8 (by exact o2)]; exact hx0
        ·rw [g8 (by exact o2)]
        ·simp [Sc.cj, Sc.fB, aC, o1]
       ·rename_i hh
        cases hac
        have hh : (hJ (aC x 0).q (aC x 0).turns x.gl).2.2.2 = false := by simpa using hh
        refine ⟨⟨_, rfl⟩, ?_, (lD (x := x)).trans o2, rfl, fun e => ?_, .CM hx0 OH rfl ?_ ?_ hh rfl⟩
        ·simp [Sc.cj, Sc.fB, o1]
        ·simp [Sc.cj, Sc.fB, aC, o1]
        ·rw [g8 (by exact o2)]
        ·rw [g8 (by exact o2)]
     ·cases hac
    ·rename_i OH
     have Bb := h.ms _ (List.mem_of_getElem? (kI (x := x) (m := 0) (by omega) (by omega)))
     have hg : 0 ≤ (av x 0).g := by
      rcases Bb with e | e
      ·omega
      ·omega
     obtain ⟨h1, h2, h3, h4, h5⟩ := NI h o hx0 hg (ha hg) hp hac
     refine ⟨h1, h2, h3, by rw [h4], fun e => ?_, h5⟩
     cases h5 with
     | held a1 => omega
     | next a1 a2 => omega
     | own a1 a2 => omega
     | CM a1 a2 => omega
     | Sn w' k' a1 a2 a3 a4 a5 => omega
 ·cases hst
theorem NJ {q : Loc} {t : Int} {gl : List Int} (h : (hJ q t gl).2.2.2 = false) (hq : KK q) : q.next = -1 ∧ q.l = [] ∧ gl = [] ∧ (hJ q t gl).2.1 = [] := by
 unfold hJ at h ⊢
 dsimp only at h ⊢
 split at h
 ·cases h
 ·rename_i h1
  rw [if_neg h1]
  split at h
  ·cases h
  ·rename_i h2
   rw [if_neg h2]
   have h2 : (q.eL gl).1.next = -1 ∧ (q.eL gl).1.l = [] := by
    simp only [qX, Bool.or_eq_true, bne_iff_ne, ne_eq, Bool.not_eq_true', List.isEmpty_eq_false_iff, not_or, Decidable.not_not] at h2
    exact h2
   have h3 : (q.eL gl).2.1 = [] := by simpa using h
   by_cases e : q.next = -1
   ·have et : q.eL gl = (q, gl, 0) := by unfold Loc.eL; rw [if_pos e]
    rw [et] at h2 h3 ⊢
    dsimp only at h2 h3 ⊢
    refine ⟨e, h2.2, h3, ?_⟩
    subst h3
    unfold Loc.dV
    simp
   ·exfalso
    unfold Loc.eL Loc.put at h2 h3
    rw [if_neg e] at h2 h3
    dsimp only at h2 h3
    split at h2
    ·simp at h2
    ·rename_i hl
     rw [if_neg hl] at h3
     simp at h3
end
section
variable {p : ck} {x w : Wd} {g : Int} {i : cN} {d : gY} {keep : Bool} {n Y c j : Nat}
theorem lE (h : exec p x g d = some (w, keep)) (hc : lp { x with ready := [] } g) (hi : iR p { x with ready := [] } g = some i) (h8 : 8 < i.op) (qR : i.op ≠ 16) (Q2 : i.op ≠ 21) :
  ∃ r, iE p (Wd.next { x with ready := [] } g) g i = some r ∧ w = r.fin ∧ keep = dZ w g (wX i.op r) := by
 unfold exec at h
 cases he : j7 p x g d with
 | none => rw [he] at h; cases h
 | some q =>
  obtain ⟨r, rest⟩ := q
  rw [he] at h
  have hr : iE p (Wd.next { x with ready := [] } g) g i = some r ∧ rest = wX i.op r := by
   unfold j7 at he
   dsimp only at he
   rw [if_pos hc] at he
   unfold iR at hi
   split at he
   ·split at he
    ·cases he
    ·rename_i code iD
     rw [iD] at hi
     dsimp only at hi
     rw [hi] at he
     dsimp only at he
     rw [if_neg (by omega), if_neg qR, if_neg Q2] at he
     split at he
     ·cases he
     ·rename_i r' HW
      obtain ⟨_, e⟩ := b6 he
      cases e
      exact ⟨HW, rfl⟩
   ·cases he
  obtain ⟨h1, h2⟩ := hr
  cases r with
  | on y => cases h; exact ⟨_, h1, rfl, by rw [← h2]⟩
  | dM k y => cases h; exact ⟨_, h1, rfl, by rw [← h2]⟩
  | cQ l y => cases h
theorem uw (h : exec p x g d = some (w, keep)) (hc : lp { x with ready := [] } g) (hi : iR p { x with ready := [] } g = some i) (h0 : 0 ≤ i.op) (h8 : i.op ≤ 8) :
  w = Wd.aY { x with ready := [] } g ((ae { x with ready := [] } g).bW ((ae { x with ready := [] } g).top.next.pure i)) ∧ keep = dZ w g false := by
 unfold exec at h
 cases he : j7 p x g d with
 | none => rw [he] at h; cases h
 | some q =>
  obtain ⟨r, rest⟩ := q
  rw [he] at h
  have hr : r = .on (Wd.aY { x with ready := [] } g ((ae { x with ready := [] } g).bW ((ae { x with ready := [] } g).top.next.pure i))) ∧ rest = false := by
   unfold j7 at he
   dsimp only at he
   rw [if_pos hc] at he
   unfold iR at hi
   split at he
   ·split at he
    ·cases he
    ·rename_i code iD
     rw [iD] at hi
     dsimp only at hi
     rw [hi] at he
     dsimp only at he
     rw [if_pos ⟨h0, h8⟩] at he
     obtain ⟨_, e⟩ := b6 he
     cases e
     exact ⟨rfl, rfl⟩
   ·cases he
  obtain ⟨rfl, rfl⟩ := hr
  cases h
  exact ⟨rfl, rfl⟩
def dK (f : cT → Nat) : List cT → Nat
 | [] => 0
 | k :: l => f k + dK f l
theorem oN {f : cT → Nat} {k' : cT} : ∀ {l : List cT} {j : Nat} {k : cT}, l[j]? = some k → dK f (l.set j k') + f k = dK f l + f k'
 | [], _, _, h => by simp at h
 | a :: l, 0, k, h => by
  simp only [List.getElem?_cons_zero, Option.some.injEq] at h; subst h
  simp only [List.set_cons_zero, dK]; omega
 | a :: l, j + 1, k, h => by
  have := oN (f := f) (k' := k') (l := l) (j := j) (by simpa using h)
  simp only [List.set_cons_succ, dK]; omega
theorem ux {f : cT → Nat} {k : cT} : ∀ {l : List cT}, dK f (l ++ [k]) = dK f l + f k
 | [] => by simp [dK]
 | a :: l => by simp only [List.cons_append, dK, ux]; omega
end
section
variable {p : ck} {x y : Sc} {w : Wd} {g v : Int} {N n Y i : Nat} {l : List Int} {pc AQ : Nat} {ks ks' : List cT}
theorem NK (h : ∀ f ∈ p.funcs, ∀ i ∈ f, i.op ≠ 21 ∧ i.op ≠ 16) : asks p w g = none := by
 unfold asks
 split
 ·unfold iR
  cases hf : p.funcs[(ae w g).top.fn.toNat]? with
  | none => rfl
  | some f =>
   cases hi : f[(ae w g).top.pc.toNat]? with
   | none => simp [hi]
   | some i =>
    have := h f (List.mem_of_getElem? hf) i (List.mem_of_getElem? hi)
    simp [hi, this]
 ·rfl
theorem vQ {f : cT → Nat} : ∀ {l : List cT}, 0 < dK f l → ∃ (j : Nat) (k : cT), l[j]? = some k ∧ 0 < f k
 | [], h => by simp [dK] at h
 | a :: l, h => by
  by_cases e : 0 < f a
  ·exact ⟨0, a, rfl, e⟩
  ·obtain ⟨j, k, h1, h2⟩ := vQ (f := f) (l := l) (by unfold dK at h; omega)
   exact ⟨j + 1, k, by simpa using h1, h2⟩
theorem NL (o : One l i x) (a : Int) : jJ x a = (aC x 0).q.all.count a + x.gl.count a + (iq (av x 0).g).count a := by
 obtain ⟨q, hq⟩ := List.length_eq_one_iff.1 o.ps
 obtain ⟨m, hm⟩ := List.length_eq_one_iff.1 o.ms
 unfold jJ jU AO aC av
 rw [hq, hm]
 simp
theorem NM (h : SV p N x) (o : One l i x) : KK (aC x 0).q := by
 have := o.ps
 exact h.room _ (List.mem_of_getElem? (uv (x := x) (i := 0) (by omega) (by omega)))
end
end Go.Proofs
