/- A part of proofs about one program. -/
import Derived.Test.YtnnlgknlialpmaaGreatZFairAny4
set_option linter.unusedVariables false
namespace Go.Proofs
open Go.AF
set_option maxRecDepth 100000
set_option maxHeartbeats 1000000
attribute [local irreducible] aJ de fm cy aB dZ aF aK bh aY bA aO
def OF (R : Mem) (pa : PA) (p : b7) (b wb db : Nat) (L' : List HP) (K : Value → Mem → Prop) (Kp : List PanicEntry → Mem → Prop) (y : Sc) : gW → Prop
 | .ev e => ∀ R' A c M', R.le R' → RS bB R' A c e.ready → Hp R' (az (eU pa p wb db) b y :: L') M' → K (K0 e A c) M'
 | .cT l => ∀ M', Hp R (az (eU pa p wb db) b y :: L') M' → Kp l M'
section
variable {R : Mem} {L L' L2 : List HP} {M : Mem} {K : Value → Mem → Prop} {Kp : List PanicEntry → Mem → Prop} {pa : PA} {p : b7} {b wb db : Nat} {x : Sc} {m i : Int} {a : SA}
theorem OG {A : Option Addr} {q o : Nat} {G : Nat → Nat → Prop} (e : A = some ⟨q, o, none⟩) (g : G q o) : aF A G := by subst e; exact bp g
theorem Fi {q2 k1 c : Nat} {g : Int} {kp : Bool} {A : Option Addr} {w : Wd} {d' : jz} {rest : Bool} {y : Sc} {o : gW}
  (h : Hp R (gI (dQ b wb db a x) x.gl :: az (bI pa p) wb w :: az (cK .nilFunc) db d' :: b6 a.ap a.cp (bS a.lb x.ps) :: bg bJ a.lb (x.ps.map dm.q) :: cq (some ⟨q2, 0, none⟩) a.cm x.ms :: pt k1 [.int .i64 0, .int .i64 0, .int .i64 0, .slice none 0 0] 43 :: L') M)
  (yb : RS bB R A c w.ready) (I7 : a.am = some ⟨q2, 0, none⟩) (hl : a.lb.length = x.ps.length) (hpre : wv p x m) (hg : g = (ax x m).g) (hkp : kp = g9 w g rest) (he : fk x m g d' w rest = some (y, o)) (k : OF R pa p b wb db L' K Kp y o) :
  ∃ t13 : Bool, ∃ oT : Option Addr, ∃ iW : Nat, ∃ fH : Nat, ((Value.agg #[.bool kp, .slice A w.ready.length c]) = (.agg #[(.bool t13), (.slice oT iW fH)])) ∧
bh M (.cells #[(.bool false), (.slice none 0 0)] 250 (0, 0)) fun fx um =>
aK um ⟨fx, 0, none⟩ (.bool t13) fun jB =>
aK jB ⟨fx, (0 + 1), none⟩ (.slice oT iW fH) fun vL =>
aB (Mem.ld vL ⟨fx, (0 + 1), none⟩) fun CT iw jm =>
∃ U6 : Nat → List Value → Mem → Prop, (∃ qP : Nat, U6 qP [(.int .i64 0)] vL) ∧
∀ sj : Nat, ∀ U7 : Nat → Value, ∀ wU : Int, ∀ oS : Mem, (U6 sj [(.int .i64 wU)] oS) → aO (decide ((wU : Int) < ((iw : Nat) : Int)))
 (((0 : Int) ≤ wU) ∧
 ((wU : Int) < ((iw : Nat) : Int)) ∧
 aF CT fun mH qD =>
 aJ (Mem.ld oS ⟨mH, (qD + (Int.toNat wU)), none⟩) .i64 fun n32 =>
 aB (Mem.ld oS ⟨b, (0 + 5), none⟩) fun J4 qC BO =>
 aJ (Mem.ld oS ⟨q2, (m.toNat * 3), none⟩) .i64 fun vP =>
 ((0 : Int) ≤ vP) ∧
 ((vP : Int) < ((qC : Nat) : Int)) ∧
 aF J4 fun jS iR =>
 cy (Mem.ld oS ⟨jS, (iR + ((Int.toNat vP) * 3)), none⟩) fun A39 =>
 aa Tryz.prog 152 #[(.pointer A39), (.int .i64 n32), (.pointer (some ⟨b, (0 + 7), none⟩))] oS (fun Kf Ap =>
 aJ (some Kf) .i64 fun FL =>
 ∃ yM : Nat, (yM < sj) ∧
 U6 yM [(.int .i64 (IntKind.wrap .i64 (wU + 1)))] Ap) Kp)
 (aJ (Mem.ld oS ⟨q2, ((m.toNat * 3) + 2), none⟩) .i64 fun CX =>
 aK oS ⟨q2, ((m.toNat * 3) + 2), none⟩ (.int .i64 (IntKind.wrap .i64 (CX - 1))) fun tM =>
 de (Mem.ld tM ⟨fx, 0, none⟩) fun t46 =>
 aO (!t46)
  (aK tM ⟨q2, ((m.toNat * 3) + 1), none⟩ (.int .i64 (-1)) fun wY =>
  cy (Mem.ld wY ⟨b, 0, none⟩) fun Np =>
  aa Tryz.prog 119 #[(.pointer Np), (.int .i64 g)] wY (fun J3 xS =>
  aJ (some J3) .i64 fun GC =>
  aO (GC == 1)
   (bh xS (.cells #[(.int .i64 g)] 3 (0, 0)) fun sM GD =>
   aa Tryz.prog 58 #[(.pointer (some ⟨b, (0 + 7), none⟩)), (.slice (some ⟨sM, 0, none⟩) 1 1)] GD (fun Nv vT =>
   (Nv = (.tuple #[])) ∧
   aB (Mem.ld vT ⟨fx, (0 + 1), none⟩) fun QM Au Gr =>
   aK vT ⟨k1, 0, none⟩ (.int .i64 7) fun Aw =>
   aK Aw ⟨k1, (0 + 1), none⟩ (.int .i64 m) fun pD =>
   aK pD ⟨k1, (0 + 2), none⟩ (.int .i64 g) fun DF =>
   aK DF ⟨k1, (0 + 3), none⟩ (.slice QM Au Gr) fun vj =>
   aJ (Mem.ld vj ⟨k1, 0, none⟩) .i64 fun Gs =>
   aJ (Mem.ld vj ⟨k1, (0 + 1), none⟩) .i64 fun n64 =>
   aJ (Mem.ld vj ⟨k1, (0 + 2), none⟩) .i64 fun xT =>
   aB (Mem.ld vj ⟨k1, (0 + 3), none⟩) fun Nx xw xD =>
   K (.agg #[(.int .i64 Gs), (.int .i64 n64), (.int .i64 xT), (.slice Nx xw xD)]) vj) Kp)
   (aB (Mem.ld xS ⟨fx, (0 + 1), none⟩) fun U8 IC PE =>
   aK xS ⟨k1, 0, none⟩ (.int .i64 7) fun Sp =>
   aK Sp ⟨k1, (0 + 1), none⟩ (.int .i64 m) fun tN =>
   aK tN ⟨k1, (0 + 2), none⟩ (.int .i64 g) fun Ew =>
   aK Ew ⟨k1, (0 + 3), none⟩ (.slice U8 IC PE) fun AQ =>
   aJ (Mem.ld AQ ⟨k1, 0, none⟩) .i64 fun J7 =>
   aJ (Mem.ld AQ ⟨k1, (0 + 1), none⟩) .i64 fun CR =>
   aJ (Mem.ld AQ ⟨k1, (0 + 2), none⟩) .i64 fun C5 =>
   aB (Mem.ld AQ ⟨k1, (0 + 3), none⟩) fun TZ No T0 =>
   K (.agg #[(.int .i64 J7), (.int .i64 CR), (.int .i64 C5), (.slice TZ No T0)]) AQ)) Kp)
  (aJ (Mem.ld tM ⟨q2, ((m.toNat * 3) + 2), none⟩) .i64 fun Lx =>
  aO (Lx == 0)
   (aK tM ⟨q2, ((m.toNat * 3) + 1), none⟩ (.int .i64 (-1)) fun Av =>
   cy (Mem.ld Av ⟨b, 0, none⟩) fun A84 =>
   aa Tryz.prog 119 #[(.pointer A84), (.int .i64 g)] Av (fun T7 GH =>
   aJ (some T7) .i64 fun Yx =>
   aO (Yx == 1)
    (bh GH (.cells #[(.int .i64 g)] 3 (0, 0)) fun LB Ez =>
    aa Tryz.prog 58 #[(.pointer (some ⟨b, (0 + 7), none⟩)), (.slice (some ⟨LB, 0, none⟩) 1 1)] Ez (fun Nm lj =>
    (Nm = (.tuple #[])) ∧
    aB (Mem.ld lj ⟨fx, (0 + 1), none⟩) fun Yc Ub TX =>
    aK lj ⟨k1, 0, none⟩ (.int .i64 7) fun PG =>
    aK PG ⟨k1, (0 + 1), none⟩ (.int .i64 m) fun PI =>
    aK PI ⟨k1, (0 + 2), none⟩ (.int .i64 g) fun Qv =>
    aK Qv ⟨k1, (0 + 3), none⟩ (.slice Yc Ub TX) fun DJ =>
    aJ (Mem.ld DJ ⟨k1, 0, none⟩) .i64 fun LC =>
    aJ (Mem.ld DJ ⟨k1, (0 + 1), none⟩) .i64 fun qQ =>
    aJ (Mem.ld DJ ⟨k1, (0 + 2), none⟩) .i64 fun MQ =>
    aB (Mem.ld DJ ⟨k1, (0 + 3), none⟩) fun y5 mV EF =>
    K (.agg #[(.int .i64 LC), (.int .i64 qQ), (.int .i64 MQ), (.slice y5 mV EF)]) DJ) Kp)
    (aB (Mem.ld GH ⟨fx, (0 + 1), none⟩) fun C6 xz Kn =>
    aK GH ⟨k1, 0, none⟩ (.int .i64 7) fun U9 =>
    aK U9 ⟨k1, (0 + 1), none⟩ (.int .i64 m) fun uk =>
    aK uk ⟨k1, (0 + 2), none⟩ (.int .i64 g) fun Va =>
    aK Va ⟨k1, (0 + 3), none⟩ (.slice C6 xz Kn) fun nK =>
    aJ (Mem.ld nK ⟨k1, 0, none⟩) .i64 fun yO =>
    aJ (Mem.ld nK ⟨k1, (0 + 1), none⟩) .i64 fun MT =>
    aJ (Mem.ld nK ⟨k1, (0 + 2), none⟩) .i64 fun MU =>
    aB (Mem.ld nK ⟨k1, (0 + 3), none⟩) fun Vb Kv Vc =>
    K (.agg #[(.int .i64 yO), (.int .i64 MT), (.int .i64 MU), (.slice Vb Kv Vc)]) nK)) Kp)
   (aB (Mem.ld tM ⟨fx, (0 + 1), none⟩) fun Vd GP Ve =>
   aK tM ⟨k1, 0, none⟩ (.int .i64 7) fun Vf =>
   aK Vf ⟨k1, (0 + 1), none⟩ (.int .i64 m) fun Vg =>
   aK Vg ⟨k1, (0 + 2), none⟩ (.int .i64 g) fun Vh =>
   aK Vh ⟨k1, (0 + 3), none⟩ (.slice Vd GP Ve) fun vV =>
   aJ (Mem.ld vV ⟨k1, 0, none⟩) .i64 fun GQ =>
   aJ (Mem.ld vV ⟨k1, (0 + 1), none⟩) .i64 fun Vi =>
   aJ (Mem.ld vV ⟨k1, (0 + 2), none⟩) .i64 fun C7 =>
   aB (Mem.ld vV ⟨k1, (0 + 3), none⟩) fun Vj N0 Vk =>
   K (.agg #[(.int .i64 GQ), (.int .i64 Vi), (.int .i64 C7), (.slice Vj N0 Vk)]) vV))) := by
 obtain ⟨m0, m1, i0, i1, W8, Rp, l1, l2, g0⟩ := hpre
 rw [← hg] at g0
 unfold fk at he
 split at he
 ·rename_i hc
  obtain ⟨hr, hgw⟩ := hc
  simp only [Option.some.injEq, Prod.mk.injEq] at he
  obtain ⟨Bf, tv⟩ := he
  have jD := qm m0 m1
  have m2 : m.toNat < x.ms.length := by omega
  refine ⟨_, _, _, _, rfl, ?_⟩
  refine aq h ?_
  clear h; intro fx M h
  refine au h ?_
  clear h; intro M h
  refine au h ?_
  clear h; intro M h
  refine aS h ?_
  generalize Dh : ({ x with w := w, d := d' } : Sc) = x1 at Bf tv
  have q1 : x1.ps = x.ps := by rw [← Dh]
  have Xa : x1.ms = x.ms := by rw [← Dh]
  have q3 : x1.gl = x.gl := by rw [← Dh]
  have q4 : x1.w = w := by rw [← Dh]
  have q5 : x1.d = d' := by rw [← Dh]
  have q6 : dQ b wb db a x1 = dQ b wb db a x := by rw [← Dh]
  have q7 : ax x1 m = ax x m := by rw [← Dh]; rfl
  have hf := fE (m := m) (l := w.ready) (z := x1) (by rw [q7]; exact i0) (by rw [q7, q1]; exact i1)
  rw [← q1, ← Xa, ← q3, ← q4, ← q5, ← q6] at h
  rw [← q4] at yb hgw hr
  rw [show w.ready = x1.w.ready from by rw [q4]] at Bf tv hf ⊢
  clear Dh
  have key : ∀ j, j ≤ x1.w.ready.length → ((x1.w.ready.take j).foldl (aE m) x1).ms = x1.ms ∧ ((x1.w.ready.take j).foldl (aE m) x1).ps.length = x1.ps.length ∧ ((x1.w.ready.take j).foldl (aE m) x1).w = x1.w ∧ ((x1.w.ready.take j).foldl (aE m) x1).d = x1.d ∧ ((x1.w.ready.take j).foldl (aE m) x1).c = x1.c ∧ ((x1.w.ready.take j).foldl (aE m) x1).steps = x1.steps ∧ ∀ bs, bS bs ((x1.w.ready.take j).foldl (aE m) x1).ps = bS bs x1.ps :=
   fun j _ => fE (m := m) (l := x1.w.ready.take j) (z := x1) (by rw [q7]; exact i0) (by rw [q7, q1]; exact i1)
  refine ⟨fun d vs M => ∃ j : Nat, vs = [.int .i64 (j : Int)] ∧ d = x1.w.ready.length - j ∧ j ≤ x1.w.ready.length ∧ ((x1.w.ready.take j).foldl (aE m) x1).gl.length ≤ 1000000 + 1030 * j ∧
    Hp R (gI (dQ b wb db a x1) ((x1.w.ready.take j).foldl (aE m) x1).gl :: az (bI pa p) wb x1.w :: az (cK .nilFunc) db x1.d :: b6 a.ap a.cp (bS a.lb x1.ps) :: bg bJ a.lb (((x1.w.ready.take j).foldl (aE m) x1).ps.map dm.q) :: cq (some ⟨q2, 0, none⟩) a.cm x1.ms :: zO fx kp A x1.w.ready.length c :: pt k1 [.int .i64 0, .int .i64 0, .int .i64 0, .slice none 0 0] 43 :: L') M,
   ⟨_, 0, rfl, rfl, by omega, by rw [List.take_zero, List.foldl_nil, q3]; omega, h.sub bD⟩, ?_⟩
  clear h
  rintro d _ nn M ⟨j, he3, hd, hj, Wc, h⟩
  simp only [List.cons.injEq, Value.int.injEq, and_true, true_and] at he3
  subst he3
  obtain ⟨z1, z2, z3, z4, z5, z6, z7⟩ := key j hj
  refine aM.2 ⟨fun hlt => ?_, fun hge => ?_⟩
  ·obtain ⟨rv, hrv⟩ := aP (l := x1.w.ready) (i := j) (by omega)
   refine ⟨by omega, hlt, ?_⟩
   obtain ⟨rb, ro, hrb⟩ := yb.some (by omega) (by decide)
   have ZG := yb
   rw [hrb] at ZG
   refine OG hrb ?_
   simp only [Int.toNat_natCast]
   refine aZ (Src.at (ZG.src (L := _)) h (i := j) (j := 0) hrv rfl (by simp [bB])) ?_
   have hstep : (x1.w.ready.take (j + 1)).foldl (aE m) x1 = aE m ((x1.w.ready.take j).foldl (aE m) x1) rv := by rw [dB hrv, List.foldl_append]; rfl
   generalize hz : (x1.w.ready.take j).foldl (aE m) x1 = z at h hstep z1 z2 z3 z4 z5 z6 z7 Wc
   have ZH : ax z m = ax x m := by unfold ax; rw [z1, Xa]
   have hps : z.ps.length = x.ps.length := by rw [z2, q1]
   rw [OD h]
   refine bk ?_
   refine aZ (Src.at (h.src (A := some ⟨q2, 0, none⟩)) h (i := m.toNat) (j := 0) (a := ax x m) (by rw [Xa]; exact jD) rfl (by show _ = 0 + (m.toNat * 3 + 0); simp)) ?_
   refine ⟨i0, by rw [q1]; exact i1, ?_⟩
   have ZI : a.lb.length = z.ps.length := by rw [hps]; exact hl
   obtain ⟨lb, hlb, jC, hrow⟩ := ql (i := (ax x m).p) (x := z) ZI i0 (by rw [hps]; exact i1)
   rw [z7] at hrow
   obtain ⟨q, hq⟩ := h.bF (A := a.ap) (l := bS a.lb x1.ps) (by rw [kV (by rw [q1]; exact hl), q1]; omega) (by decide)
   have hs0 := (h.src (A := a.ap)) M h
   rw [hq] at hs0
   refine OG hq ?_
   refine mD (Sl.at hs0 (i := (ax x m).p.toNat * 3 + 0) (by simp) (iz.mE (E := qf) hrow rfl)) ?_
   clear hs0
   have hqz : (z.ps.map dm.q)[(ax x m).p.toNat]? = some (ay z (ax x m).p).q := by rw [List.getElem?_map, jC]; rfl
   replace h := h.c6 bJ hlb hqz
   replace h : Hp R (az bJ lb (ay z (ax x m).p).q :: gI (dQ b wb db a x1) z.gl :: lG bJ a.lb (z.ps.map dm.q) (ax x m).p.toNat :: az (bI pa p) wb x1.w :: az (cK .nilFunc) db x1.d :: b6 a.ap a.cp (bS a.lb x1.ps) :: cq (some ⟨q2, 0, none⟩) a.cm x1.ms :: zO fx kp A x1.w.ready.length c :: pt k1 [.int .i64 0, .int .i64 0, .int .i64 0, .slice none 0 0] 43 :: L') M := h.sub bD
   have hbd := wg h (b := lb)
   have jR := K5 (q := (ay z (ax x m).p).q) (r := rv) (gl := z.gl)
   refine EW (P := dQ b wb db a x1) zG h (by omega) ?_
   clear h; intro M h
   refine cG ?_
   replace h := h.dN bJ lb hlb (by rw [List.length_map]; omega)
   refine ⟨x1.w.ready.length - (j + 1), by omega, j + 1, by rw [aV (by omega)], rfl, by omega, ?_, ?_⟩
   ·rw [hstep]
    unfold aE
    rw [ZH]
    dsimp only
    obtain ⟨b1, b2, b3⟩ := hbd
    omega
   ·rw [hstep]
    have e2 : (aE m z rv).ps.map dm.q = (z.ps.map dm.q).set (ax x m).p.toNat ((ay z (ax x m).p).q.ready rv z.gl).1 := by
     unfold aE; rw [ZH]; simp [Sc.bT, List.map_set]
    have e3 : (aE m z rv).gl = ((ay z (ax x m).p).q.ready rv z.gl).2.1 := by unfold aE; rw [ZH]
    rw [e2, e3]
    exact h.sub bD
  ·have Lu : j = x1.w.ready.length := by omega
   subst Lu
   rw [List.take_length] at z1 z2 z3 z4 z5 z6 z7 Wc h
   clear key hf
   generalize hrd : x1.w.ready = rd at *
   generalize hz : rd.foldl (aE m) x1 = z at h z1 z2 z3 z4 z5 z6 z7 Wc Bf tv
   have ZH : ax z m = ax x m := by unfold ax; rw [z1, Xa]
   have ez : dQ b wb db a z = dQ b wb db a x1 := by unfold dQ dY; rw [z1, z2, z5, z6]
   have ZI : a.lb.length = z.ps.length := by rw [z2, q1]; exact hl
   rw [← ez, ← z3, ← z4, ← z7, ← z1] at h
   have ZJ : z.ms[m.toNat]? = some (ax z m) := qm m0 (by rw [z1, Xa]; exact m1)
   have m1z : m < z.ms.length := by rw [z1, Xa]; exact m1
   have m2z : m.toNat < z.ms.length := by omega
   rw [← ZH] at l1 l2
   refine aZ (Src.at (h.src (A := some ⟨q2, 0, none⟩)) h (i := m.toNat) (j := 2) ZJ rfl (by show _ = 0 + (m.toNat * 3 + 2); omega)) ?_
   rw [cQ (by omega) (by omega)]
   refine gH (E := lO) (a' := { ax z m with left := (ax z m).left - 1 }) m.toNat 2 h ZJ (by decide) rfl rfl ?_
   clear h; intro M h
   replace h : Hp R (gI (dQ b wb db a z) z.gl :: az (bI pa p) wb z.w :: az (cK .nilFunc) db z.d :: b6 a.ap a.cp (bS a.lb z.ps) :: bg bJ a.lb (z.ps.map dm.q) :: cq (some ⟨q2, 0, none⟩) a.cm (z.ms.set m.toNat { ax z m with left := (ax z m).left - 1 }) :: zO fx kp A rd.length c :: pt k1 [.int .i64 0, .int .i64 0, .int .i64 0, .slice none 0 0] 43 :: L') M := h.sub bD
   refine Ik h ?_
   have hgz : g < z.w.gs.length := by rw [z3]; exact hgw
   have ZK : (¬ (g9 w g rest = true ∧ (ax z m).left - 1 ≠ 0)) → ∀ M', Hp R (az (eU pa p wb db) b { z.gV m { ax z m with left := (ax z m).left - 1, g := -1 } with gl := if (aj z.w g).st = 1 then z.gl ++ [g] else z.gl } :: L') M' → K (K0 ⟨7, m, g, rd⟩ A c) M' := by
    intro hno M' h'
    unfold Sc.gM at Bf tv
    rw [if_neg hno] at Bf tv
    dsimp only at Bf tv
    subst tv
    exact k R A c M' (Mem.le_refl _) yb (by rw [← Bf]; exact h')
   cases hk : kp with
   | false =>
    subst hk
    refine ae ?_
    exact Fh h I7 ZI m0 m1z g0 hgz (by omega) (ZK (fun hc => by rw [← hkp] at hc; cases hc.1))
   | true =>
    subst hk
    refine ai ?_
    refine aZ (Src.at (h.src (A := some ⟨q2, 0, none⟩)) h (i := m.toNat) (j := 2) (a := { ax z m with left := (ax z m).left - 1 }) (by simp [m2z]) rfl (by show _ = 0 + (m.toNat * 3 + 2); omega)) ?_
    refine aR.2 ⟨fun e0 => ?_, fun e0 => ?_⟩
    ·exact Fh h I7 ZI m0 m1z g0 hgz (by omega) (ZK (fun hc => hc.2 e0))
    ·refine aS h ?_
     refine qj h ?_
     clear h; intro M h
     refine qk h ?_
     unfold Sc.gM at Bf tv
     rw [if_pos ⟨hkp.symm, e0⟩] at Bf tv
     dsimp only at Bf tv
     subst tv
     refine k R A c M (Mem.le_refl _) yb ?_
     rw [← Bf]
     refine hH (a := a) (x := z.gV m { ax z m with left := (ax z m).left - 1 }) ZI ?_
     rw [zK]
     show Hp R (_ :: _ :: _ :: _ :: _ :: cq a.am a.cm (z.ms.set m.toNat { ax z m with left := (ax z m).left - 1 }) :: _) M
     rw [I7]
     exact h.sub bD
 ·cases he
end
section
variable {R : Mem} {L L' L2 : List HP} {M : Mem} {K : Value → Mem → Prop} {Kp : List PanicEntry → Mem → Prop} {pa : PA} {p : b7} {b wb db : Nat} {x : Sc} {m i : Int}
theorem K6 {y : Sc} {o : gW} (h : Hp R L M) [q : qg b L pa p wb db x L'] (hp : oM R pa p) (hd : x.d.k.Ok) (he : x.run p m = some (y, o)) (k : OF R pa p b wb db L' K Kp y o) :
  aa Tryz.prog 111 #[.pointer (some ⟨b, 0, none⟩), .int .i64 m] M K Kp := by
 unfold Sc.run at he
 split at he
 ·rename_i hpre
  have ZL := hpre
  obtain ⟨m0, m1, i0, i1, W8, Rp, l1, l2, g0⟩ := ZL
  split at he
  ·rename_i jL
   have zN : x.d.Ok := ⟨hd, by omega⟩
   refine th ?_
   refine aq h ?_
   clear h
   intro k1 M h
   have h' := fj h (b := b)
   clear h
   obtain ⟨a, hl, h⟩ := h'
   have jD := qm m0 m1
   obtain ⟨q2, lI⟩ := h.bF (A := a.am) (l := x.ms) (by omega) (by decide)
   replace h : Hp R (gI (dQ b wb db a x) x.gl :: az (bI pa p) wb x.w :: az (cK .nilFunc) db x.d :: b6 a.ap a.cp (bS a.lb x.ps) :: bg bJ a.lb (x.ps.map dm.q) :: cq (some ⟨q2, 0, none⟩) a.cm x.ms :: pt k1 [.int .i64 0, .int .i64 0, .int .i64 0, .slice none 0 0] 43 :: L') M := by
    unfold iP at h
    rw [show cq a.am a.cm x.ms = cq (some ⟨q2, 0, none⟩) a.cm x.ms from by rw [lI]] at h
    exact h.sub bD
   rw [zM h]
   refine bk ⟨m0, m1, ?_⟩
   refine OG lI ?_
   refine aZ (Src.at (h.src (A := some ⟨q2, 0, none⟩)) h (i := m.toNat) (j := 1) jD rfl (by show _ = 0 + (m.toNat * 3 + 1); omega)) ?_
   simp only [Nat.zero_add]
   rw [Zz h]
   refine js ?_
   rw [show M.ld ⟨b, 8, none⟩ = some (.pointer (some ⟨db, 0, none⟩)) from Wa h]
   refine js ⟨trivial, ?_⟩
   replace h : Hp R (az (bI pa p) wb x.w :: az (cK .nilFunc) db x.d :: gI (dQ b wb db a x) x.gl :: b6 a.ap a.cp (bS a.lb x.ps) :: bg bJ a.lb (x.ps.map dm.q) :: cq (some ⟨q2, 0, none⟩) a.cm x.ms :: pt k1 [.int .i64 0, .int .i64 0, .int .i64 0, .slice none 0 0] 43 :: L') M := h.sub bD
   generalize OH : (gI (dQ b wb db a x) x.gl :: b6 a.ap a.cp (bS a.lb x.ps) :: bg bJ a.lb (x.ps.map dm.q) :: cq (some ⟨q2, 0, none⟩) a.cm x.ms :: pt k1 [.int .i64 0, .int .i64 0, .int .i64 0, .slice none 0 0] 43 :: L') = LL at h
   have hds : match asks p { x.w with ready := [] } (ax x m).g with
     | none => (az (cK .nilFunc) db (dh x.d (asks p { x.w with ready := [] } (ax x m).g)).1 :: LL) = (az (cK .nilFunc) db x.d :: LL)
     | some (kd, n) => iO R (.func (.func 107) #[.pointer (some ⟨db, 0, none⟩)] #[]) kd n (dh x.d (asks p { x.w with ready := [] } (ax x m).g)).2 (az (cK .nilFunc) db x.d :: LL) (az (cK .nilFunc) db (dh x.d (asks p { x.w with ready := [] } (ax x m).g)).1 :: LL) := by
    cases hak : asks p { x.w with ready := [] } (ax x m).g with
    | none => rfl
    | some kn =>
     obtain ⟨kd, n⟩ := kn
     rw [hak] at jL
     exact KZ zN (of_decide_eq_true jL) Rp
   have Hr : ∀ l, (dh x.d (asks p { x.w with ready := [] } (ax x m).g)).2 = .cT l → B9 l (xI l) := by
    intro l hl
    cases hak : asks p { x.w with ready := [] } (ax x m).g with
    | none => rw [hak] at hl; cases hl
    | some kn =>
     obtain ⟨kd, n⟩ := kn
     rw [hak] at hl
     exact (qo (x' := (x.d.draw kd n).1) (by rw [← hl]; rfl)).2
   generalize jM : dh x.d (asks p { x.w with ready := [] } (ax x m).g) = dd at he hds Hr
   obtain ⟨d', dr⟩ := dd
   dsimp only at he hds Hr
   cases hex : w7 p x.w (ax x m).g dr with
   | none => rw [hex] at he; cases he
   | some rr =>
    obtain ⟨r, rest⟩ := rr
    rw [hex] at he
    refine KW h hp ⟨_, _, _, rfl⟩ hex hds ?_
    cases r with
    | cT l w =>
     dsimp only at he
     simp only [Option.some.injEq, Prod.mk.injEq] at he
     obtain ⟨Bf, tv⟩ := he
     obtain ⟨Bd, hw⟩ := Cg hex
     refine ⟨xI l, Hr l Bd, ?_⟩
     intro M h
     subst tv
     refine k M ?_
     rw [← Bf]
     rw [← OH] at h
     have h9 : Hp R (gI (dQ b wb db a { x with w := w, d := d' }) x.gl :: az (bI pa p) wb w :: az (cK .nilFunc) db d' :: b6 a.ap a.cp (bS a.lb x.ps) :: bg bJ a.lb (x.ps.map dm.q) :: cq a.am a.cm x.ms :: L') M := by
      rw [show cq a.am a.cm x.ms = cq (some ⟨q2, 0, none⟩) a.cm x.ms from by rw [lI], show dQ b wb db a { x with w := w, d := d' } = dQ b wb db a x from rfl]
      exact h.sub bD
     exact hH (a := a) (x := { x with w := w, d := d' }) hl h9
    | on w =>
     intro R' A c M hle yb h
     rw [← OH] at h
     have h2 : Hp R' (gI (dQ b wb db a x) x.gl :: az (bI pa p) wb w :: az (cK .nilFunc) db d' :: b6 a.ap a.cp (bS a.lb x.ps) :: bg bJ a.lb (x.ps.map dm.q) :: cq (some ⟨q2, 0, none⟩) a.cm x.ms :: pt k1 [.int .i64 0, .int .i64 0, .int .i64 0, .slice none 0 0] 43 :: L') M := h.sub bD
     refine Fi (K := K) (Kp := Kp) (w := w) (g := (ax x m).g) (kp := g9 w (ax x m).g rest) (rest := rest) h2 yb lI hl hpre rfl rfl he ?_
     cases o with
     | ev e => exact fun R2 A2 c2 M2 We => k R2 A2 c2 M2 (Mem.le_trans hle We)
     | cT l =>
      dsimp only at he
      unfold fk at he
      split at he
      ·simp only [Option.some.injEq, Prod.mk.injEq] at he; cases he.2
      ·cases he
    | eC n w =>
     intro R' A c M hle yb h
     rw [← OH] at h
     have h2 : Hp R' (gI (dQ b wb db a x) x.gl :: az (bI pa p) wb { w with end_ := 2, code := n } :: az (cK .nilFunc) db d' :: b6 a.ap a.cp (bS a.lb x.ps) :: bg bJ a.lb (x.ps.map dm.q) :: cq (some ⟨q2, 0, none⟩) a.cm x.ms :: pt k1 [.int .i64 0, .int .i64 0, .int .i64 0, .slice none 0 0] 43 :: L') M := h.sub bD
     refine Fi (K := K) (Kp := Kp) (w := { w with end_ := 2, code := n }) (g := (ax x m).g) (kp := g9 { w with end_ := 2, code := n } (ax x m).g rest) (rest := rest) h2 yb lI hl hpre rfl rfl he ?_
     cases o with
     | ev e => exact fun R2 A2 c2 M2 We => k R2 A2 c2 M2 (Mem.le_trans hle We)
     | cT l =>
      dsimp only at he
      unfold fk at he
      split at he
      ·simp only [Option.some.injEq, Prod.mk.injEq] at he; cases he.2
      ·cases he
  ·cases he
 ·cases he
theorem OI {e : Ev} {o : gW} {y z : Sc} (h : hJ (z, .ev e) = (y, o)) : o = .ev e ∧ y = { z with steps := z.steps + 1 } := by
 unfold hJ at h; cases h; exact ⟨rfl, rfl⟩
theorem HH {y : Sc} {o : gW} (h : Hp R L M) [q : qg b L pa p wb db x L'] (hp : oM R pa p) (hd : x.d.k.Ok) (he : x.step p = some (y, o)) (k : OF R pa p b wb db L' K Kp y o) :
  aa Tryz.prog 54 #[.pointer (some ⟨b, 0, none⟩)] M K Kp := by
 unfold Sc.step at he
 split at he
 ·rename_i hpre
  obtain ⟨V6, hcM, hps, PL, Rp, hst0, hst1⟩ := hpre
  refine rN ?_
  refine aq h ?_
  clear h
  intro k1 M h
  refine u5 h V6 ?_
  refine cG ?_
  split at he
  ·rename_i hst
   simp only [Option.some.injEq, Prod.mk.injEq] at he
   obtain ⟨Bf, tv⟩ := he
   subst Bf; subst tv
   refine eJ.2 ⟨fun _ => ?_, fun hn => absurd hn hst⟩
   refine qj h ?_
   clear h; intro M h
   refine qk h ?_
   exact k R none 0 M (Mem.le_refl _) (RS.nil _ _) (h.drop.pick q.pick)
  ·rename_i hst
   refine eJ.2 ⟨fun hn => absurd hn hst, fun _ => ?_⟩
   have h' := fj h (b := b)
   clear h
   obtain ⟨a, hl, h⟩ := h'
   rw [Wa h]
   refine js ?_
   rw [Zy h]
   refine cG ?_
   have zN : x.d.Ok := ⟨hd, by omega⟩
   have hnw : IntKind.wrap .i64 (x.c.M + 1) = x.c.M + 1 := cQ (by omega) (by omega)
   rw [hnw]
   replace h : Hp R (az (cK .nilFunc) db x.d :: gI (dQ b wb db a x) x.gl :: az (bI pa p) wb x.w :: b6 a.ap a.cp (bS a.lb x.ps) :: bg bJ a.lb (x.ps.map dm.q) :: cq a.am a.cm x.ms :: pt k1 [.int .i64 0, .int .i64 0, .int .i64 0, .slice none 0 0] 43 :: L') M := h.sub bD
   refine qe h zN (by omega) (by omega) ?_
   clear h
   have ZM := lP (kind := 1) (n := x.c.M + 1) hd
   have HB : ∀ x' v, x.d.draw 1 (x.c.M + 1) = (x', .num v) → 0 ≤ v ∧ v < x.c.M + 1 ∧ x'.taken = x.d.taken ++ [(1, v)] := by
    intro x' v hv
    have := eF hd hv
    rw [show gU (x.c.M + 1) = x.c.M + 1 from by unfold gU; rw [if_neg (by omega)]] at this
    exact this
   generalize jM : x.d.draw 1 (x.c.M + 1) = dd at he ZM HB
   obtain ⟨d', dr⟩ := dd
   have mk : ∀ {M : Mem}, Hp R (az (cK .nilFunc) db d' :: gI (dQ b wb db a x) x.gl :: az (bI pa p) wb x.w :: b6 a.ap a.cp (bS a.lb x.ps) :: bg bJ a.lb (x.ps.map dm.q) :: cq a.am a.cm x.ms :: pt k1 [.int .i64 0, .int .i64 0, .int .i64 0, .slice none 0 0] 43 :: L') M → Hp R (az (eU pa p wb db) b { x with d := d' } :: pt k1 [.int .i64 0, .int .i64 0, .int .i64 0, .slice none 0 0] 43 :: L') M :=
    fun h => hH (a := a) (x := { x with d := d' }) hl (h.sub bD)
   cases dr with
   | cT l =>
    dsimp only at he ⊢
    simp only [Option.some.injEq, Prod.mk.injEq] at he
    obtain ⟨Bf, tv⟩ := he
    intro M h
    subst tv
    refine k M ?_
    rw [← Bf]
    exact (mk h).bW
   | num mm =>
    dsimp only at he ⊢
    obtain ⟨v0, v1, htk2⟩ := HB d' mm rfl
    intro M h
    replace h := mk h
    clear mk
    refine cG ?_
    generalize Dh : ({ x with d := d' } : Sc) = x1 at h he
    have e1 : x1.c = x.c := by rw [← Dh]
    have e2 : x1.ms = x.ms := by rw [← Dh]
    have e3 : x1.ps = x.ps := by rw [← Dh]
    have e4 : x1.d.k.Ok := by rw [← Dh]; exact ZM
    have e5 : x1.steps = x.steps := by rw [← Dh]
    clear Dh
    refine aq h ?_
    clear h; intro fQ M h
    replace h : Hp R (az (eU pa p wb db) b x1 :: pt k1 [.int .i64 0, .int .i64 0, .int .i64 0, .slice none 0 0] 43 :: pt fQ [.int .i64 0, .int .i64 0, .int .i64 0, .slice none 0 0] 43 :: L') M := h.sub bD
    have fin : ∀ (R' : Mem) (A : Option Addr) (c : Nat) (M : Mem) (z : Sc) (e : Ev), R.le R' → RS bB R' A c e.ready → z.steps = x.steps → hJ (z, .ev e) = (y, o) → Hp R' (az (eU pa p wb db) b z :: pt k1 [.int .i64 0, .int .i64 0, .int .i64 0, .slice none 0 0] 43 :: pt fQ [.int .i64 0, .int .i64 0, .int .i64 0, .slice none 0 0] 43 :: L') M →
      aK M ⟨fQ, 0, none⟩ (.int .i64 e.kind) fun sk => aK sk ⟨fQ, (0 + 1), none⟩ (.int .i64 e.m) fun Ao => aK Ao ⟨fQ, (0 + 2), none⟩ (.int .i64 e.g) fun sq => aK sq ⟨fQ, (0 + 3), none⟩ (.slice A e.ready.length c) fun AP =>
      aJ (Mem.ld AP ⟨b, (0 + 9), none⟩) .i64 fun vP => aK AP ⟨b, (0 + 9), none⟩ (.int .i64 (IntKind.wrap .i64 (vP + 1))) fun GF =>
      aJ (Mem.ld GF ⟨fQ, 0, none⟩) .i64 fun J1 => aJ (Mem.ld GF ⟨fQ, (0 + 1), none⟩) .i64 fun J2 => aJ (Mem.ld GF ⟨fQ, (0 + 2), none⟩) .i64 fun Nd => aB (Mem.ld GF ⟨fQ, (0 + 3), none⟩) fun X9 Lw yM =>
      aK GF ⟨k1, 0, none⟩ (.int .i64 J1) fun AO => aK AO ⟨k1, (0 + 1), none⟩ (.int .i64 J2) fun tM => aK tM ⟨k1, (0 + 2), none⟩ (.int .i64 Nd) fun FM => aK FM ⟨k1, (0 + 3), none⟩ (.slice X9 Lw yM) fun wY =>
      aJ (Mem.ld wY ⟨k1, 0, none⟩) .i64 fun Kh => aJ (Mem.ld wY ⟨k1, (0 + 1), none⟩) .i64 fun T8 => aJ (Mem.ld wY ⟨k1, (0 + 2), none⟩) .i64 fun Nb => aB (Mem.ld wY ⟨k1, (0 + 3), none⟩) fun Qj sM qB =>
      K (.agg #[(.int .i64 Kh), (.int .i64 T8), (.int .i64 Nb), (.slice Qj sM qB)]) wY := by
     intro R' A c M z e hle yb hzs hinc h
     obtain ⟨ho, hy⟩ := OI hinc
     subst ho; subst hy
     refine qj h ?_
     clear h; intro M h
     have h' := fj h (b := b)
     clear h
     obtain ⟨a3, PK, h⟩ := h'
     have h' := nT h
     clear h
     obtain ⟨A4, c4, h⟩ := h'
     refine aI h ?_
     rw [cQ (by omega) (by omega)]
     refine au h ?_
     clear h; intro M h
     refine qk h ?_
     refine qj h ?_
     clear h; intro M h
     refine qk h ?_
     refine k R' A c M hle yb (hH (a := a3) (x := { z with steps := z.steps + 1 }) PK ?_)
     exact yd (x := { z with steps := z.steps + 1 }) (h.sub bD)
    have h' := fj h (b := b)
    clear h
    obtain ⟨a5, hl5, h⟩ := h'
    rw [Zy h]
    refine cG ?_
    have Cd : ∀ {M : Mem}, Hp R (gI (dQ b wb db a5 x1) x1.gl :: az (bI pa p) wb x1.w :: az (cK .nilFunc) db x1.d :: iP a5 x1 (pt k1 [.int .i64 0, .int .i64 0, .int .i64 0, .slice none 0 0] 43 :: pt fQ [.int .i64 0, .int .i64 0, .int .i64 0, .slice none 0 0] 43 :: L')) M → Hp R (az (eU pa p wb db) b x1 :: pt k1 [.int .i64 0, .int .i64 0, .int .i64 0, .slice none 0 0] 43 :: pt fQ [.int .i64 0, .int .i64 0, .int .i64 0, .slice none 0 0] 43 :: L') M := fun h => hH (a := a5) hl5 h
    unfold Sc.act at he
    refine aR.2 ⟨fun em => ?_, fun em => ?_⟩
    ·rw [if_pos em] at he
     split at he
     ·rename_i ZN
      simp only [Option.map_some, Option.some.injEq] at he
      refine HC (Cd h) ZN ?_
      clear h; intro R' A c M hle yb h
      refine ⟨_, _, _, _, _, _, rfl, ?_⟩
      exact fin R' A c M _ _ hle yb (by rw [← e5]; rfl) he h
     ·cases he
    rw [if_neg em] at he
    have mlt : mm < x1.ms.length := by
     have a1 : x1.c.M = x.c.M := by rw [e1]
     have a2 : x1.ms.length = x.ms.length := by rw [e2]
     omega
    have jD := qm v0 mlt
    obtain ⟨q2, lI⟩ := h.bF (A := a5.am) (l := x1.ms) (by omega) (by decide)
    have hs0 := (h.src (A := a5.am)) M h
    rw [lI] at hs0
    rw [zM h]
    refine bk ⟨v0, mlt, ?_⟩
    refine OG lI ?_
    refine aZ (Sl.at hs0 (i := mm.toNat * 3 + 0) (by simp) (iz.mE (E := lO) jD rfl)) ?_
    refine aR.2 ⟨fun ep => ?_, fun ep => ?_⟩
    ·rw [if_pos ep] at he
     simp only [Option.map_some, Option.some.injEq] at he
     refine HD (Cd h) v0 mlt (by rw [e3]; omega) ?_
     clear h hs0; intro M h
     have Gd : (x1.hold mm).2.ready = [] := by unfold Sc.hold; split <;> rfl
     have tD : (x1.hold mm).1.steps = x.steps := by rw [← e5]; unfold Sc.hold; split <;> rfl
     refine ⟨_, _, _, _, _, _, rfl, ?_⟩
     exact fin R none 0 M _ _ (Mem.le_refl _) (by rw [Gd]; exact RS.nil _ _) tD he h
    rw [if_neg ep] at he
    refine bk ⟨v0, mlt, ?_⟩
    refine OG lI ?_
    refine aZ (Sl.at hs0 (i := mm.toNat * 3 + 1) (by simp) (iz.mE (E := lO) jD rfl)) ?_
    clear hs0
    refine aR.2 ⟨fun eg => ?_, fun eg => ?_⟩
    ·rw [if_pos eg] at he
     split at he
     ·rename_i hfo
      simp only [Option.map_some, Option.some.injEq] at he
      have tD : (x1.find mm).1.steps = x.steps := by
       rw [← e5]
       have Cb : ∀ (z : Sc) a b c d e, (z.be a b c d e).1.steps = z.steps := by intro z a b c d e; unfold Sc.be; split <;> rfl
       unfold Sc.find
       dsimp only
       split
       ·rfl
       ·split
        ·split
         ·rfl
         ·split <;> exact Cb ..
        ·exact Cb ..
      have hrd : ∀ e, (x1.find mm).2 = .ev e → e.ready = [] := by
       have Cb : ∀ (z : Sc) a b c d e, (z.be a b c d e).2.ready = [] := by intro z a b c d e; unfold Sc.be; split <;> rfl
       intro e Gd
       unfold Sc.find at Gd
       dsimp only at Gd
       split at Gd
       ·cases Gd; rfl
       ·split at Gd
        ·split at Gd
         ·cases Gd
         ·split at Gd <;> · cases Gd; exact Cb ..
        ·cases Gd; exact Cb ..
      refine HF (Cd h) hfo e4 ?_
      clear h
      generalize JY : x1.find mm = ff at he tD hrd ⊢
      obtain ⟨z, oo⟩ := ff
      cases oo with
      | ev e =>
       dsimp only at tD hrd ⊢
       intro M h
       refine ⟨_, _, _, _, _, _, rfl, ?_⟩
       have W6 : e.ready = [] := hrd e rfl
       exact fin R none 0 M _ e (Mem.le_refl _) (by rw [W6]; exact RS.nil _ _) tD he h
      | cT l =>
       dsimp only
       intro M h
       unfold hJ at he
       cases he
       exact k M h.bW
     ·cases he
    rw [if_neg eg] at he
    cases hrun : x1.run p mm with
    | none => rw [hrun] at he; cases he
    | some rr =>
     obtain ⟨z, oo⟩ := rr
     rw [hrun] at he
     simp only [Option.map_some, Option.some.injEq] at he
     refine K6 (Cd h) hp e4 hrun ?_
     clear h
     have tD : z.steps = x.steps := by
      rw [← e5]
      unfold Sc.run at hrun
      split at hrun
      ·rename_i ZO
       obtain ⟨_, _, i0, i1, _⟩ := ZO
       have Ma : ∀ d w rest, fk x1 mm (ax x1 mm).g d w rest = some (z, oo) → z.steps = x1.steps := by
        intro d w rest Ma
        unfold fk at Ma
        split at Ma
        ·simp only [Option.some.injEq, Prod.mk.injEq] at Ma
         rw [← Ma.1]
         have := fE (m := mm) w.ready { x1 with w := w, d := d } i0 i1
         unfold Sc.gM
         split <;> exact this.2.2.2.2.2.1
        ·cases Ma
       split at hrun
       ·split at hrun
        ·cases hrun
        ·simp only [Option.some.injEq, Prod.mk.injEq] at hrun; rw [← hrun.1]
        ·exact Ma _ _ _ hrun
        ·exact Ma _ _ _ hrun
       ·cases hrun
      ·cases hrun
     cases oo with
     | ev e =>
      intro R' A c M hle yb h
      refine ⟨_, _, _, _, _, _, rfl, ?_⟩
      exact fin R' A c M _ e hle yb tD he h
     | cT l =>
      intro M h
      unfold hJ at he
      cases he
      exact k M h.bW
 ·cases he
end
def Sc.new (p : b7) (c : OB) (d : jz) : Sc := ⟨Wd.new p, c, List.replicate c.P.toNat ⟨⟨-1, fN c.R, []⟩, 0, -1⟩, List.replicate c.M.toNat ⟨-1, -1, 0⟩, [0], d, 0⟩
theorem I8 : bn Tryz.prog 132 141 3 24 [.pointer none, .int .i64 0, .int .i64 0] := bn.mk' (zv := .agg #[.pointer none, .int .i64 0, .int .i64 0]) (by kernel_rfl) (by kernel_rfl) rfl (by omega)
theorem Rq : bn Tryz.prog 133 143 3 24 [.int .i64 0, .int .i64 0, .int .i64 0] := bn.mk' (zv := .agg #[.int .i64 0, .int .i64 0, .int .i64 0]) (by kernel_rfl) (by kernel_rfl) rfl (by omega)
theorem Ch {bs : List Nat} {ps : List dm} {b : Nat} {y : dm} (h : bs.length = ps.length) : bS (bs ++ [b]) (ps ++ [y]) = bS bs ps ++ [(b, y.turns, y.eN)] := by
 unfold bS; rw [List.zipWith_append h]; rfl
section
variable {R : Mem} {L L' L2 : List HP} {M : Mem} {K : Value → Mem → Prop} {Kp : List PanicEntry → Mem → Prop} {pa : PA} {p : b7} {b wb db : Nat} {x : Sc} {m i : Int}
theorem K7 {c : OB} {d : jz} (h : Hp R L M) [o : bZ (cK .nilFunc) db L d L'] (xZ : RS bB R pa.c pa.cc p.eG) (hc : p.eG.length ≤ 1000000) (hk : 0 ≤ p.aL ∧ p.aL ≤ 1000000) (hP : 0 ≤ c.P ∧ c.P ≤ 1000000) (hM : 0 ≤ c.M ∧ c.M ≤ 1000000)
  (k : ∀ b wb M', Hp R (az (eU pa p wb db) b (Sc.new p c d) :: L') M' → K (.pointer (some ⟨b, 0, none⟩)) M') :
  aa Tryz.prog 15 #[.agg #[.slice pa.f p.funcs.length pa.fc, .slice pa.c p.eG.length pa.cc, .int .i64 p.aL, .slice pa.k p.cases.length pa.kc], .agg #[.int .i64 c.P, .int .i64 c.M, .int .i64 c.R, .int .i64 c.S], .pointer (some ⟨db, 0, none⟩)] M K Kp := by
 refine C0 ?_
 replace h := h.front (cK .nilFunc) db
 refine aq h ?_
 clear h; intro k1 M h
 refine aq h ?_
 clear h; intro k3 M h
 refine aS h (aS h (aI h (aS h ?_)))
 refine aI h (aI h (aI h (aI h ?_)))
 refine KK (p := p) (pa := pa) h xZ hc hk ?_
 clear h; intro wb M h
 refine js ⟨jt (bM h) (jt (bM h) (jt (bM h) (jt (bM h) tZ))), ?_⟩
 refine aq h ?_
 clear h; intro b M h
 refine aI h ?_
 replace h := ((((h.cC qf 141).ur bJ).cC lO 143).cC bB 3)
 obtain ⟨nP, hnP⟩ := Int.eq_ofNat_of_zero_le hP.1
 obtain ⟨nM, hnM⟩ := Int.eq_ofNat_of_zero_le hM.1
 refine ⟨fun dd vs M => ∃ (j : Nat) (A : Option Addr) (ca : Nat) (vl : List Nat), vs = [.int .i64 (j : Int)] ∧ dd = nP - j ∧ j ≤ nP ∧ vl.length = j ∧
   Hp R (pt b [.pointer (some ⟨wb, 0, none⟩), .int .i64 c.P, .int .i64 c.M, .int .i64 c.R, .int .i64 c.S, .slice A j ca, .slice none 0 0, .slice none 0 0, .pointer (some ⟨db, 0, none⟩), .int .i64 0] 137 ::
    b6 A ca (bS vl (List.replicate j ⟨⟨-1, fN c.R, []⟩, 0, -1⟩)) :: bg bJ vl (List.replicate j ⟨-1, fN c.R, []⟩) :: cq none 0 [] :: lz none 0 [] :: az (bI pa p) wb (Wd.new p) :: az (cK .nilFunc) db d :: pt k3 [.int .i64 c.P, .int .i64 c.M, .int .i64 c.R, .int .i64 c.S] 29 :: L') M,
  ⟨_, 0, none, 0, [], rfl, rfl, by omega, rfl, h.sub bD⟩, ?_⟩
 clear h
 rintro dd _ nn M ⟨j, A, ca, vl, he, hd, hj, hlb, h⟩
 simp only [List.cons.injEq, Value.int.injEq, and_true, true_and] at he
 subst he
 refine aM.2 ⟨fun hlt => ?_, fun hge => ?_⟩
 ·have jR : (List.replicate j (⟨⟨-1, fN c.R, []⟩, 0, -1⟩ : dm)).length = j := List.length_replicate
  refine ⟨fun vs M => ∃ (A : Option Addr) (ca : Nat) (lb : Nat),
   Hp R (pt b [.pointer (some ⟨wb, 0, none⟩), .int .i64 c.P, .int .i64 c.M, .int .i64 c.R, .int .i64 c.S, .slice A (j + 1) ca, .slice none 0 0, .slice none 0 0, .pointer (some ⟨db, 0, none⟩), .int .i64 0] 137 ::
    b6 A ca (bS (vl ++ [lb]) (List.replicate (j + 1) ⟨⟨-1, fN c.R, []⟩, 0, -1⟩)) :: bg bJ (vl ++ [lb]) (List.replicate (j + 1) ⟨-1, fN c.R, []⟩) :: cq none 0 [] :: lz none 0 [] :: az (bI pa p) wb (Wd.new p) :: az (cK .nilFunc) db d :: pt k3 [.int .i64 c.P, .int .i64 c.M, .int .i64 c.R, .int .i64 c.S] 29 :: L') M, aI h ⟨?_, ?_, trivial⟩, ?_⟩
  ·refine aS h ?_
   refine B4 h ?_
   clear h; intro lb M h
   refine js ?_
   refine aq h ?_
   clear h; intro yY M h
   refine h.gS (A := A) I8 [(lb, 0, -1)] rfl (by rw [kV (by rw [hlb, jR]), jR]) rfl (by rw [kV (by rw [hlb, jR]), jR]; simp only [List.length_singleton]; omega) ?_
   clear h; intro A' c' M h
   refine bk ?_
   refine au h ?_
   clear h; intro M h
   replace h := h.kD bJ lb (by rw [hlb, List.length_replicate])
   refine ⟨A', c', lb, ?_⟩
   have e1 : bS (vl ++ [lb]) (List.replicate (j + 1) (⟨⟨-1, fN c.R, []⟩, 0, -1⟩ : dm)) = bS vl (List.replicate j ⟨⟨-1, fN c.R, []⟩, 0, -1⟩) ++ [(lb, 0, -1)] := by
    rw [List.replicate_succ', Ch (by rw [hlb, jR])]
   have e2 : List.replicate (j + 1) (⟨-1, fN c.R, []⟩ : Loc) = List.replicate j ⟨-1, fN c.R, []⟩ ++ [⟨-1, fN c.R, []⟩] := List.replicate_succ'
   rw [e1, e2]
   exact h.sub bD
  ·refine B4 h ?_
   clear h; intro lb M h
   refine js ?_
   refine aS h ?_
   refine aq h ?_
   clear h; intro yY M h
   refine h.gS (A := A) I8 [(lb, 0, -1)] rfl (by rw [kV (by rw [hlb, jR]), jR]) rfl (by rw [kV (by rw [hlb, jR]), jR]; simp only [List.length_singleton]; omega) ?_
   clear h; intro A' c' M h
   refine bk ?_
   refine au h ?_
   clear h; intro M h
   replace h := h.kD bJ lb (by rw [hlb, List.length_replicate])
   refine ⟨A', c', lb, ?_⟩
   have e1 : bS (vl ++ [lb]) (List.replicate (j + 1) (⟨⟨-1, fN c.R, []⟩, 0, -1⟩ : dm)) = bS vl (List.replicate j ⟨⟨-1, fN c.R, []⟩, 0, -1⟩) ++ [(lb, 0, -1)] := by
    rw [List.replicate_succ', Ch (by rw [hlb, jR])]
   have e2 : List.replicate (j + 1) (⟨-1, fN c.R, []⟩ : Loc) = List.replicate j ⟨-1, fN c.R, []⟩ ++ [⟨-1, fN c.R, []⟩] := List.replicate_succ'
   rw [e1, e2]
   exact h.sub bD
  ·clear h
   rintro _ M ⟨A', c', lb, h⟩
   rw [aV (by omega)]
   exact ⟨nP - (j + 1), by omega, j + 1, A', c', vl ++ [lb], rfl, rfl, by omega, by simp [hlb], h⟩
 have Si : j = nP := by omega
 subst Si
 refine aI h ?_
 refine ⟨fun dd vs M => ∃ (q : Nat) (B : Option Addr) (cb : Nat), vs = [.int .i64 (q : Int)] ∧ dd = nM - q ∧ q ≤ nM ∧
   Hp R (pt b [.pointer (some ⟨wb, 0, none⟩), .int .i64 c.P, .int .i64 c.M, .int .i64 c.R, .int .i64 c.S, .slice A j ca, .slice B q cb, .slice none 0 0, .pointer (some ⟨db, 0, none⟩), .int .i64 0] 137 ::
    b6 A ca (bS vl (List.replicate j ⟨⟨-1, fN c.R, []⟩, 0, -1⟩)) :: bg bJ vl (List.replicate j ⟨-1, fN c.R, []⟩) :: cq B cb (List.replicate q ⟨-1, -1, 0⟩) :: lz none 0 [] :: az (bI pa p) wb (Wd.new p) :: az (cK .nilFunc) db d :: pt k3 [.int .i64 c.P, .int .i64 c.M, .int .i64 c.R, .int .i64 c.S] 29 :: L') M,
  ⟨_, 0, none, 0, rfl, rfl, by omega, h.sub bD⟩, ?_⟩
 clear h
 rintro dd _ nn M ⟨q, B, cb, he, Rr, hq, h⟩
 simp only [List.cons.injEq, Value.int.injEq, and_true, true_and] at he
 subst he
 refine aM.2 ⟨fun hlt => ?_, fun Wf => ?_⟩
 ·refine aS h ?_
  refine aq h ?_
  clear h; intro Au M h
  refine h.gS (A := B) Rq [(⟨-1, -1, 0⟩ : uZ)] rfl (by simp) rfl (by simp; omega) ?_
  clear h; intro B' cb' M h
  refine bk ?_
  refine au h ?_
  clear h; intro M h
  rw [aV (by omega)]
  have e : List.replicate q (⟨-1, -1, 0⟩ : uZ) ++ [⟨-1, -1, 0⟩] = List.replicate (q + 1) ⟨-1, -1, 0⟩ := List.replicate_succ'.symm
  rw [e] at h
  exact ⟨nM - (q + 1), by omega, q + 1, B', cb', rfl, rfl, by omega, h.sub bD⟩
 have hqn : q = nM := by omega
 subst hqn
 refine aq h ?_
 clear h; intro Nn M h
 have e0 : Sc.new p c d = ⟨Wd.new p, c, List.replicate j ⟨⟨-1, fN c.R, []⟩, 0, -1⟩, List.replicate q ⟨-1, -1, 0⟩, [0], d, 0⟩ := by
  unfold Sc.new; rw [hnP, hnM]; rfl
 have e3 : (List.replicate j (⟨⟨-1, fN c.R, []⟩, 0, -1⟩ : dm)).map dm.q = List.replicate j ⟨-1, fN c.R, []⟩ := by simp
 replace h := (h.pt Nn).lV (E := bB) (l := [0]) rfl
 generalize hz : (⟨Wd.new p, c, List.replicate j ⟨⟨-1, fN c.R, []⟩, 0, -1⟩, List.replicate q ⟨-1, -1, 0⟩, [0], d, 0⟩ : Sc) = z at e0
 have z1 : dY wb db ⟨A, ca, vl, B, cb⟩ z none 0 0 = [.pointer (some ⟨wb, 0, none⟩), .int .i64 c.P, .int .i64 c.M, .int .i64 c.R, .int .i64 c.S, .slice A j ca, .slice B q cb, .slice none 0 0, .pointer (some ⟨db, 0, none⟩), .int .i64 0] := by
  rw [← hz]; simp [dY]
 rw [← z1] at h
 have h2 : Hp R (pt b (dY wb db ⟨A, ca, vl, B, cb⟩ z none 0 0) 137 :: lz none 0 [] :: lz (some ⟨Nn, 0, none⟩) 1 [0] :: az (bI pa p) wb (Wd.new p) :: az (cK .nilFunc) db d :: b6 A ca (bS vl (List.replicate j ⟨⟨-1, fN c.R, []⟩, 0, -1⟩)) :: bg bJ vl (List.replicate j ⟨-1, fN c.R, []⟩) :: cq B cb (List.replicate q ⟨-1, -1, 0⟩) :: L') M := h.sub bD
 have h3 : Hp R (gI (dQ b wb db ⟨A, ca, vl, B, cb⟩ z) [] :: lz (some ⟨Nn, 0, none⟩) 1 [0] :: az (bI pa p) wb (Wd.new p) :: az (cK .nilFunc) db d :: b6 A ca (bS vl (List.replicate j ⟨⟨-1, fN c.R, []⟩, 0, -1⟩)) :: bg bJ vl (List.replicate j ⟨-1, fN c.R, []⟩) :: cq B cb (List.replicate q ⟨-1, -1, 0⟩) :: L') M := IS (P := dQ b wb db ⟨A, ca, vl, B, cb⟩ z) h2 rfl
 clear h h2
 refine nQ (P := dQ b wb db ⟨A, ca, vl, B, cb⟩ z) zG h3 (Src.row (A := some ⟨Nn, 0, none⟩)) rfl (by simp) ?_
 clear h3; intro M h
 refine ⟨rfl, ?_⟩
 refine k b wb M ?_
 rw [e0]
 refine hH (a := ⟨A, ca, vl, B, cb⟩) (x := z) (by rw [← hz]; simp [hlb]) ?_
 rw [← hz] at h ⊢
 unfold iP
 dsimp only at h ⊢
 rw [e3]
 exact h.sub bD
end
section
variable {p : b7} {x y : Sc} {o : gW} {m : Int}
theorem Ci {i k g : Int} {t : Bool} : (x.be m i k g t).1.d = x.d := by unfold Sc.be; split <;> rfl
theorem I9 {g : Int} {d : jz} {w : Wd} {rest : Bool} (h : fk x m g d w rest = some (y, o)) (i0 : 0 ≤ (ax x m).p) (i1 : (ax x m).p < x.ps.length) : y.d = d := by
 unfold fk at h
 split at h
 ·simp only [Option.some.injEq, Prod.mk.injEq] at h
  rw [← h.1]
  have := fE (m := m) w.ready { x with w := w, d := d } i0 i1
  unfold Sc.gM
  split <;> exact this.2.2.2.1
 ·cases h
end
def p18 : b7 := ⟨[[⟨20, 0, 0, 0⟩, ⟨10, 0, 0, 0⟩]], [], 0, []⟩
def x18 : Sc := Sc.new p18 ⟨1, 1, 2, 9⟩ ⟨.lA [0, 0, 0, 0] 0, []⟩
theorem fI : x18.d.k.Ok := ⟨by decide, by decide, fun v hv => by simp at hv; subst hv; decide⟩
def b9 (c : OB) : OB :=
 let q := fun (x m : Int) => Int.tmod (IntKind.wrap .i64 (((Nat.bitwise and (BitVec.ofInt IntKind.i64.bits x).toNat (BitVec.ofInt IntKind.i64.bits 255).toNat) : Nat) : Int)) m
 ⟨1 + q c.P 5, 1 + q c.M 5, 2 + q c.R 5, 1 + q c.S 12⟩
theorem yf (x : Int) {m : Int} {n : Nat} (e : m = (n : Int)) (hm : 0 < n) : 0 ≤ Int.tmod (IntKind.wrap .i64 (((Nat.bitwise and (BitVec.ofInt IntKind.i64.bits x).toNat (BitVec.ofInt IntKind.i64.bits 255).toNat) : Nat) : Int)) m ∧ Int.tmod (IntKind.wrap .i64 (((Nat.bitwise and (BitVec.ofInt IntKind.i64.bits x).toNat (BitVec.ofInt IntKind.i64.bits 255).toNat) : Nat) : Int)) m < m := by
 obtain ⟨q, hq, _⟩ := mask (x := x) (y := 255) (m := 255) rfl (by omega)
 rw [hq, e, Go.AF.tX]
 have := Nat.mod_lt q hm
 omega
theorem zP (c : OB) : 1 ≤ (b9 c).P ∧ (b9 c).P ≤ 5 ∧ 1 ≤ (b9 c).M ∧ (b9 c).M ≤ 5 ∧ 2 ≤ (b9 c).R ∧ (b9 c).R ≤ 6 ∧ 1 ≤ (b9 c).S ∧ (b9 c).S ≤ 12 := by
 have a := yf c.P (m := 5) (n := 5) rfl (by omega)
 have b := yf c.M (m := 5) (n := 5) rfl (by omega)
 have d := yf c.R (m := 5) (n := 5) rfl (by omega)
 have e := yf c.S (m := 12) (n := 12) rfl (by omega)
 unfold b9
 dsimp only
 refine ⟨by omega, ?_, by omega, ?_, by omega, ?_, by omega, ?_⟩ <;> omega
section
variable {R : Mem} {L L' : List HP} {M : Mem} {K : Value → Mem → Prop} {Kp : List PanicEntry → Mem → Prop}
theorem lQ {x m : Int} {n : Nat} (hm : m = (n : Int)) (hn : 0 < n) (k : K (.int .i64 (Int.tmod (IntKind.wrap .i64 (((Nat.bitwise and (BitVec.ofInt IntKind.i64.bits x).toNat (BitVec.ofInt IntKind.i64.bits 255).toNat) : Nat) : Int)) m)) M) : aa Tryz.prog 55 #[.int .i64 x, .int .i64 m] M K Kp := by
 refine nL ⟨by omega, k⟩
theorem HI {c : OB} (h : Hp R L M) (k : ∀ M', Hp R L M' → K (.agg #[.int .i64 (b9 c).P, .int .i64 (b9 c).M, .int .i64 (b9 c).R, .int .i64 (b9 c).S]) M') : aa Tryz.prog 14 #[.agg #[.int .i64 c.P, .int .i64 c.M, .int .i64 c.R, .int .i64 c.S]] M K Kp := by
 refine pU ?_
 refine aq h ?_
 clear h; intro k1 M h
 refine aq h ?_
 clear h; intro k3 M h
 refine aI h (aI h (aI h (aI h ?_)))
 refine lQ (n := 5) rfl (by omega) (cG ⟨bM h, bM h, bM h, ?_⟩)
 refine lQ (n := 5) rfl (by omega) (cG ⟨bM h, bM h, bM h, ?_⟩)
 refine lQ (n := 5) rfl (by omega) (cG ⟨bM h, bM h, bM h, ?_⟩)
 refine lQ (n := 12) rfl (by omega) (cG ⟨bM h, bM h, bM h, ?_⟩)
 have ok := zP c
 have e1 : IntKind.wrap .i64 (1 + Int.tmod (IntKind.wrap .i64 (((Nat.bitwise and (BitVec.ofInt IntKind.i64.bits c.P).toNat (BitVec.ofInt IntKind.i64.bits 255).toNat) : Nat) : Int)) 5) = (b9 c).P := cQ (z := (b9 c).P) (by omega) (by omega)
 have e2 : IntKind.wrap .i64 (1 + Int.tmod (IntKind.wrap .i64 (((Nat.bitwise and (BitVec.ofInt IntKind.i64.bits c.M).toNat (BitVec.ofInt IntKind.i64.bits 255).toNat) : Nat) : Int)) 5) = (b9 c).M := cQ (z := (b9 c).M) (by omega) (by omega)
 have e3 : IntKind.wrap .i64 (2 + Int.tmod (IntKind.wrap .i64 (((Nat.bitwise and (BitVec.ofInt IntKind.i64.bits c.R).toNat (BitVec.ofInt IntKind.i64.bits 255).toNat) : Nat) : Int)) 5) = (b9 c).R := cQ (z := (b9 c).R) (by omega) (by omega)
 have e4 : IntKind.wrap .i64 (1 + Int.tmod (IntKind.wrap .i64 (((Nat.bitwise and (BitVec.ofInt IntKind.i64.bits c.S).toNat (BitVec.ofInt IntKind.i64.bits 255).toNat) : Nat) : Int)) 12) = (b9 c).S := cQ (z := (b9 c).S) (by omega) (by omega)
 rw [e1, e2, e3, e4]
 refine au h ?_
 clear h; intro M h
 refine au h ?_
 clear h; intro M h
 refine au h ?_
 clear h; intro M h
 refine au h ?_
 clear h; intro M h
 refine ⟨bM h, bM h, bM h, aI h (aI h (aI h (aI h ?_)))⟩
 exact k _ (h.sub bD)
end
def LF : List Value := [.int .i64 0, .int .i64 0, .int .i64 0, .int .i64 0, .int .u64 0]
inductive oO : List PanicEntry → Int → List Value → Prop
 | d1 : oO KX 1 LF
 | d2 : oO (xI KX) 1 LF
 | u1 (a q n k x : Int) : oO (W7 a q n k x) 2 [.int .i64 a, .int .i64 q, .int .i64 n, .int .i64 k, .int .u64 x]
 | u2 (a q n k x : Int) : oO (xI (W7 a q n k x)) 2 [.int .i64 a, .int .i64 q, .int .i64 n, .int .i64 k, .int .u64 x]
section
variable {R : Mem} {L L' L2 : List HP} {M : Mem} {K : Value → Mem → Prop} {Kp : List PanicEntry → Mem → Prop} {u0 : Value} {S : Mem → List HP → Prop} {D : Mem → List PanicEntry → List HP → Prop}
def Dr (R : Mem) (L : List HP) (u0 : Value) (S : Mem → List HP → Prop) (D : Mem → List PanicEntry → List HP → Prop) : Prop := ∀ (Q : HP) (M : Mem) (K : Value → Mem → Prop) (Kp : List PanicEntry → Mem → Prop), Hp R (Q :: L) M →
 (∀ R' L' M', S R' L' → Hp R' (Q :: L') M' → K (.tuple #[]) M') → (∀ R' l L' M', D R' l L' → Hp R' (Q :: L') M' → Kp l M') → iB Cx u0 [] M K Kp
theorem Bg {b1 b2 : Nat} (h : Hp R (pt b1 [.int .i64 0] 3 :: pt b2 LF 97 :: L) M) (hc : Dr R L u0 S D) (hd : ∀ R' l L', D R' l L' → ∃ e vs, oO l e vs)
  (k : ∀ R' L' M', S R' L' → Hp R' (pt b1 [.int .i64 0] 3 :: pt b2 LF 97 :: L') M' → K (.tuple #[]) M')
  (kd : ∀ R' l L' M' e vs, D R' l L' → oO l e vs → Hp R' (pt b1 [.int .i64 e] 3 :: pt b2 vs 97 :: L') M' → K (.tuple #[]) M') :
  aa Tryz.prog 116 #[u0, .pointer (some ⟨b1, 0, none⟩), .pointer (some ⟨b2, 0, none⟩)] M K Kp := by
 refine vW ?_
 refine aq h ?_
 clear h
 intro k1 M h
 refine aq h ?_
 clear h
 intro k3 M h
 refine hc (sep [pt k3 [.pointer (some ⟨b2, 0, none⟩)] _, pt k1 [.pointer (some ⟨b1, 0, none⟩)] _, pt b1 [.int .i64 0] 3, pt b2 LF 97]) M _ _ (Hp.aX.2 h) ?_ ?_
 ·clear h
  intro R' L' M' hs h
  have h := Hp.aX.1 h
  exact ⟨rfl, KA (k R' L' M' hs h.drop.drop)⟩
 ·clear h
  intro R' l L' M hs h
  replace h := Hp.aX.1 h
  obtain ⟨e, vs, hg⟩ := hd _ _ _ hs
  have ZP := kd R' l L'
  simp only [List.cons_append, List.nil_append, LF] at h ZP
  clear kd k hc hd
  cases hg with
  | d1 =>
   refine GW ?_
   repeat (first|(refine aq h ?_;clear h;intro kb M h)|(refine au h ?_;clear h;intro M h)|refine St.to h ?_|(apply Exists.intro;(repeat apply Exists.intro);refine And.intro rfl ?_)|refine av ?_|refine ae ?_|refine ai ?_)
   exact ZP _ _ _ hs .d1 (h.sub bD)
  | d2 =>
   refine EI ?_
   repeat (first|(refine aq h ?_;clear h;intro kb M h)|(refine au h ?_;clear h;intro M h)|refine St.to h ?_|(apply Exists.intro;(repeat apply Exists.intro);refine And.intro rfl ?_)|refine av ?_|refine ae ?_|refine ai ?_)
   exact ZP _ _ _ hs .d2 (h.sub bD)
  | u1 a q n k x =>
   refine Ba ?_
   repeat (first|(refine aq h ?_;clear h;intro kb M h)|(refine au h ?_;clear h;intro M h)|refine St.to h ?_|(apply Exists.intro;(repeat apply Exists.intro);refine And.intro rfl ?_)|refine av ?_|refine ae ?_|refine ai ?_)
   exact ZP _ _ _ hs (.u1 a q n k x) (h.sub bD)
  | u2 a q n k x =>
   refine zb ?_
   repeat (first|(refine aq h ?_;clear h;intro kb M h)|(refine au h ?_;clear h;intro M h)|refine St.to h ?_|(apply Exists.intro;(repeat apply Exists.intro);refine And.intro rfl ?_)|refine av ?_|refine ae ?_|refine ai ?_)
   exact ZP _ _ _ hs (.u2 a q n k x) (h.sub bD)
theorem oO.shape {l : List PanicEntry} {e : Int} {vs : List Value} (h : oO l e vs) : (e = 1 ∨ e = 2) ∧ ∃ a q n k x : Int, vs = [.int .i64 a, .int .i64 q, .int .i64 n, .int .i64 k, .int .u64 x] := by
 cases h with
 | d1 => exact ⟨.inl rfl, 0, 0, 0, 0, 0, rfl⟩
 | d2 => exact ⟨.inl rfl, 0, 0, 0, 0, 0, rfl⟩
 | u1 a q n k x => exact ⟨.inr rfl, a, q, n, k, x, rfl⟩
 | u2 a q n k x => exact ⟨.inr rfl, a, q, n, k, x, rfl⟩
theorem Ds (h : Hp R L M) (hc : Dr R L u0 S D) (hd : ∀ R' l L', D R' l L' → ∃ e vs, oO l e vs)
  (k : ∀ R' L' M', S R' L' → Hp R' L' M' → K (.tuple #[.int .i64 0, .agg #[.int .i64 0, .int .i64 0, .int .i64 0, .int .i64 0, .int .u64 0]]) M')
  (kd : ∀ R' l L' M' e a q n k x, D R' l L' → oO l e [.int .i64 a, .int .i64 q, .int .i64 n, .int .i64 k, .int .u64 x] → Hp R' L' M' → K (.tuple #[.int .i64 e, .agg #[.int .i64 a, .int .i64 q, .int .i64 n, .int .i64 k, .int .u64 x]]) M') :
  aa Tryz.prog 61 #[u0] M K Kp := by
 refine xA ?_
 refine aq h ?_
 clear h
 intro k1 M h
 refine aq h ?_
 clear h
 intro k3 M h
 refine aq h ?_
 clear h
 intro k5 M h
 repeat (refine au h ?_; clear h; intro M h)
 refine Bg (S := fun R' L2 => ∃ L', S R' L' ∧ L2 = pt k1 LF 97 :: L') (D := fun R' l L2 => ∃ L', D R' l L' ∧ L2 = pt k1 LF 97 :: L') (L := pt k1 LF 97 :: L) (h.sub bD) ?_ ?_ ?_ ?_
 ·intro Q M K Kp h k1' k2
  refine hc (sep [Q, pt k1 LF 97]) M K Kp (Hp.aX.2 h) ?_ ?_
  ·intro R' L' M' hs h
   exact k1' R' _ M' ⟨L', hs, rfl⟩ (Hp.aX.1 h)
  ·intro R' l L' M' hs h
   exact k2 R' l _ M' ⟨L', hs, rfl⟩ (Hp.aX.1 h)
 ·rintro R' l _ ⟨L', hs, _⟩
  exact hd _ _ _ hs
 ·rintro R' _ M ⟨L', hs, rfl⟩ h
  clear hc hd kd
  simp only [LF] at h
  refine ⟨rfl, ?_⟩
  repeat (first|(refine aq h ?_;clear h;intro kb M h)|(refine au h ?_;clear h;intro M h)|refine St.to h ?_|(apply Exists.intro;(repeat apply Exists.intro);refine And.intro rfl ?_)|refine av ?_|refine ae ?_|refine ai ?_)
  exact k _ _ _ hs (h.sub bD)
 ·rintro R' l _ M e vs ⟨L', hs, rfl⟩ hg h
  obtain ⟨_, a, q, n, kk, x, rfl⟩ := hg.shape
  clear hc hd k
  simp only [LF] at h
  refine ⟨rfl, ?_⟩
  repeat (first|(refine aq h ?_;clear h;intro kb M h)|(refine au h ?_;clear h;intro M h)|refine St.to h ?_|(apply Exists.intro;(repeat apply Exists.intro);refine And.intro rfl ?_)|refine av ?_|refine ae ?_|refine ai ?_)
  exact kd _ _ _ _ _ _ _ _ _ _ hs hg (h.sub bD)
theorem K8 {k k' : gT} {kind m : Int} {l : List PanicEntry} (h : k.next kind m = (k', .cT l)) : ∃ e vs, oO l e vs ∧ oO (xI l) e vs := by
 cases k with
 | lA t i =>
  unfold gT.next at h
  dsimp only at h
  split at h
  ·cases h; exact ⟨_, _, .d1, .d2⟩
  ·cases h
 | tape t i =>
  unfold gT.next at h
  dsimp only at h
  split at h
  ·cases h; exact ⟨_, _, .d1, .d2⟩
  ·split at h
   ·cases h; exact ⟨_, _, .u1 _ _ _ _ _, .u2 _ _ _ _ _⟩
   ·split at h
    ·cases h; exact ⟨_, _, .u1 _ _ _ _ _, .u2 _ _ _ _ _⟩
    ·cases h
theorem wz {x x' : jz} {kind n : Int} {l : List PanicEntry} (h : x.draw kind n = (x', .cT l)) : ∃ e vs, oO l e vs ∧ oO (xI l) e vs := by
 unfold jz.draw at h
 split at h
 ·cases h
 ·rename_i k' l' hn
  cases h
  exact K8 hn
theorem OJ {d d' : jz} {a : Option (Int × Int)} {l : List PanicEntry} (h : dh d a = (d', .cT l)) : ∃ e vs, oO l e vs ∧ oO (xI l) e vs := by
 cases a with
 | none => cases h
 | some q => exact wz h
theorem Rs {z y : Sc} {o : gW} {l : List PanicEntry} (h : hJ (z, o) = (y, .cT l)) : o = .cT l := by
 cases o with
 | ev e => cases h
 | cT l' => cases h; rfl
theorem OK {p : b7} {x y : Sc} {l : List PanicEntry} (he : x.step p = some (y, .cT l)) : ∃ e vs, oO l e vs := by
 unfold Sc.step at he
 split at he
 ·split at he
  ·cases he
  ·split at he
   ·rename_i hd
    cases he
    obtain ⟨e, vs, h, _⟩ := wz hd
    exact ⟨e, vs, h⟩
   ·rename_i d' m hd
    simp only [Option.map_eq_some_iff] at he
    obtain ⟨⟨z, o⟩, ha, hi⟩ := he
    have ho := Rs hi
    subst ho
    clear hi hd
    unfold Sc.act at ha
    split at ha
    ·split at ha
     ·cases ha
     ·cases ha
    ·split at ha
     ·cases ha
     ·split at ha
      ·split at ha
       ·simp only [Option.some.injEq] at ha
        unfold Sc.find at ha
        dsimp only at ha
        split at ha
        ·cases ha
        ·split at ha
         ·split at ha
          ·rename_i hd
           cases ha
           obtain ⟨e, vs, h, _⟩ := wz hd
           exact ⟨e, vs, h⟩
          ·split at ha <;> cases ha
         ·cases ha
       ·cases ha
      ·unfold Sc.run at ha
       split at ha
       ·split at ha
        ·split at ha
         ·cases ha
         ·rename_i l' w rest hex
          cases ha
          obtain ⟨Bd, _⟩ := Cg hex
          obtain ⟨e, vs, _, h⟩ := OJ (d' := _) (by rw [← Bd])
          exact ⟨e, vs, h⟩
         ·unfold fk at ha
          split at ha <;> cases ha
         ·unfold fk at ha
          split at ha <;> cases ha
        ·cases ha
       ·cases ha
 ·cases he
end
theorem nV {b : Nat} : ∀ (n : Nat) (l : List Int), (∀ g ∈ l, 0 ≤ g ∧ g < (n : Int)) → (∀ g, l.count g ≤ b) → l.length ≤ b * n
 | 0, l, h, _ => by
  cases l with
  | nil => simp
  | cons a l => have := h a (by simp); omega
 | n + 1, l, h, hc => by
  have h1 : (l.filter (fun g => g != (n : Int))).length ≤ b * n := by
   refine nV n _ (fun g hg => ?_) (fun g => ?_)
   ·obtain ⟨hm, hne⟩ := List.mem_filter.1 hg
    have := h g hm
    simp at hne
    omega
   ·exact Nat.le_trans (List.Sublist.count_le _ List.filter_sublist) (hc g)
  have h2 : l.length = l.count (n : Int) + (l.filter (fun g => g != (n : Int))).length := by
   have := List.length_eq_countP_add_countP (l := l) (fun g => g == (n : Int))
   rw [this, List.count, List.countP_eq_length_filter (p := fun a => decide ¬(a == (n : Int)) = true)]
   congr 2
   apply List.filter_congr
   intro a _
   cases h : (a == (n : Int)) <;> simp_all
  have := hc (n : Int)
  rw [h2, Nat.mul_succ]; omega
theorem lR {α : Type} (f : α → Nat) : ∀ (l : List α) (k : Nat) (c d : α), l[k]? = some d → ((l.set k c).map f).sum + f d = (l.map f).sum + f c
 | [], k, c, d, h => by simp at h
 | a :: l, 0, c, d, h => by simp at h; subst h; simp; omega
 | a :: l, k + 1, c, d, h => by
  have := lR f l k c d (by simpa using h)
  simp only [List.set_cons_succ, List.map_cons, List.sum_cons]; omega
theorem zQ {α : Type} (f : α → Nat) : ∀ (l : List α), (l.map f).sum = 0 → ∀ a ∈ l, f a = 0
 | [], _, a, h => by cases h
 | b :: l, hs, a, h => by
  simp only [List.map_cons, List.sum_cons] at hs
  rcases List.mem_cons.1 h with rfl | h
  ·omega
  ·exact zQ f l (by omega) a h
theorem zR {α : Type} (f : α → Nat) : ∀ (l : List α) (a : α), a ∈ l → f a ≤ (l.map f).sum
 | b :: l, a, h => by
  simp only [List.map_cons, List.sum_cons]
  rcases List.mem_cons.1 h with rfl | h
  ·omega
  ·have := zR f l a h; omega
theorem qp {α : Type} (f : α → Nat) : ∀ (l : List α), (∀ a ∈ l, f a = 0) → (l.map f).sum = 0
 | [], _ => rfl
 | b :: l, h => by
  simp only [List.map_cons, List.sum_cons]
  rw [h b (by simp), qp f l fun a ha => h a (by simp [ha])]
def cO (c : aT) : List Int := c.snd.map Wt.g ++ c.eB.map Wt.g
def bX (cs : List aT) (g : Int) : Nat := (cs.map fun c => (cO c).count g).sum
def gJ (ls : List Lk) (g : Int) : Nat := (ls.map fun l => l.waits.count g).sum
def Dt (hl : List bz) (g : Int) : Nat := (hl.map bz.id).count g
def m8 (x : Wd) (g : Int) : Prop := (∀ c ∈ x.aD, g ∉ cO c) ∧ (∀ l ∈ x.aL, g ∉ l.waits) ∧ ∀ y ∈ x.hl, y.id ≠ g
theorem u6 {cs : List aT} {g : Int} : bX cs g = 0 ↔ ∀ c ∈ cs, g ∉ cO c := by
 constructor
 ·intro h c hc
  exact List.count_eq_zero.1 (zQ _ cs h c hc)
 ·intro h
  exact qp _ cs fun c hc => List.count_eq_zero.2 (h c hc)
theorem yh {ls : List Lk} {g : Int} : gJ ls g = 0 ↔ ∀ l ∈ ls, g ∉ l.waits := by
 constructor
 ·intro h c hc
  exact List.count_eq_zero.1 (zQ _ ls h c hc)
 ·intro h
  exact qp _ ls fun c hc => List.count_eq_zero.2 (h c hc)
def At (x : Wd) (g s : Int) : Prop := 0 ≤ g ∧ g < x.gs.length ∧ (aj x g).st = s
def jV (p : b7) (f : List cI) (i : cI) : Prop := 0 ≤ i.op ∧ i.op < 23 ∧ i.cw ∧ (i.op = 7 → 0 ≤ i.a ∧ i.a < f.length) ∧ (i.op = 8 → 0 ≤ i.b ∧ i.b < f.length) ∧
 (i.op = 9 ∨ i.op = 11 → 0 ≤ i.a ∧ i.a < p.funcs.length ∧ aU i.b ∧ aU i.c) ∧ (i.op = 10 ∨ i.op = 17 ∨ i.op = 20 ∨ i.op = 21 → aU i.a) ∧
 (i.op = 13 ∨ i.op = 14 ∨ i.op = 15 → 0 ≤ i.a ∧ i.a < p.eG.length) ∧ (i.op = 13 ∨ i.op = 14 → aU i.b) ∧ (i.op = 14 ∨ i.op = 16 → aU i.c) ∧
 (i.op = 16 → 0 ≤ i.a ∧ 1 ≤ i.b ∧ i.a + i.b ≤ p.cases.length) ∧ (i.op = 18 ∨ i.op = 19 → 0 ≤ i.a ∧ i.a < p.aL) ∧ (i.op = 21 → 1 ≤ i.b ∧ i.b < 1099511627776)
structure dn (p : b7) : Prop where
 f1 : 0 < p.funcs.length
 ch : p.eG.length ≤ 8
 lk : 0 ≤ p.aL ∧ p.aL ≤ 8
 cs : p.cases.length ≤ 32
 cas : ∀ c ∈ p.cases, c.Ok p.eG.length ∧ aU c.bQ
 code : ∀ f ∈ p.funcs, 0 < f.length ∧ f.length ≤ 64 ∧ ∀ i ∈ f, jV p f i
def Fj (p : b7) (f : gN) : Prop := 0 ≤ f.fn ∧ f.fn < p.funcs.length ∧ 0 ≤ f.pc ∧ f.pc ≤ 64 ∧ aU f.qT
structure oP (p : b7) (y : jl) : Prop where
 l1 : 0 < y.fs.length
 l2 : y.fs.length ≤ 16
 fr : ∀ f ∈ y.fs, Fj p f
 wt : y.st = 2 → ∃ f ∈ p.funcs, jV p f y.wt
 st : 1 ≤ y.st ∧ y.st ≤ 4
structure WV (p : b7) (x : Wd) : Prop where
 n1 : 0 < x.gs.length
 n2 : x.gs.length ≤ 100
 Fk : ∀ y ∈ x.gs, oP p y
 ch : x.aD.length = p.eG.length
 lk : (x.aL.length : Int) = p.aL
 buf : ∀ c ∈ x.aD, c.buf.length ≤ c.room ∧ c.room ≤ 16
 eB : ∀ c ∈ x.aD, ∀ v ∈ c.eB, At x v.g 2 ∧ ((aj x v.g).wt.op = 14 ∨ (aj x v.g).wt.op = 16 ∧ 0 ≤ v.cs ∧ v.cs < (aj x v.g).wt.b)
 snd : ∀ c ∈ x.aD, ∀ v ∈ c.snd, At x v.g 2 ∧ ((aj x v.g).wt.op = 13 ∨ (aj x v.g).wt.op = 16 ∧ 0 ≤ v.cs ∧ v.cs < (aj x v.g).wt.b)
 lw : ∀ l ∈ x.aL, ∀ g ∈ l.waits, At x g 2 ∧ (aj x g).wt.op = 18
 hl : ∀ y ∈ x.hl, At x y.id 3
 one : ∀ g, 0 ≤ g → (aj x g).wt.op ≠ 16 → bX x.aD g + gJ x.aL g ≤ 1
 De : ∀ g, bX x.aD g ≤ 32
 h1 : ∀ g, Dt x.hl g ≤ 1
 out : x.out.length ≤ 1000
section
variable {p : b7} {x : Wd} {g : Int}
theorem WV.Rt (h : WV p x) {c : aT} (hc : c ∈ x.aD) {q : Int} (hq : q ∈ cO c) : At x q 2 ∧ ((aj x q).wt.op = 13 ∨ (aj x q).wt.op = 14 ∨ (aj x q).wt.op = 16) := by
 unfold cO at hq
 rcases List.mem_append.1 hq with hq | hq
 ·obtain ⟨v, hv, rfl⟩ := List.mem_map.1 hq
  obtain ⟨a, b⟩ := h.snd c hc v hv
  exact ⟨a, by rcases b with b | b; exact .inl b; exact .inr (.inr b.1)⟩
 ·obtain ⟨v, hv, rfl⟩ := List.mem_map.1 hq
  obtain ⟨a, b⟩ := h.eB c hc v hv
  exact ⟨a, by rcases b with b | b; exact .inr (.inl b); exact .inr (.inr b.1)⟩
theorem WV.free (h : WV p x) (h2 : (aj x g).st ≠ 2) (h3 : (aj x g).st ≠ 3) : m8 x g :=
 ⟨fun c hc hg => h2 (h.Rt hc hg).1.2.2, fun l hl hg => h2 (h.lw l hl g hg).1.2.2, fun y hy e => h3 (by have := (h.hl y hy).2.2; rwa [e] at this)⟩
theorem WV.Ja (h : WV p x) {c : aT} (hc : c ∈ x.aD) : (cO c).length ≤ 3200 := by
 have h1 := nV (b := 32) x.gs.length (cO c) (fun q hq => ⟨(h.Rt hc hq).1.1, (h.Rt hc hq).1.2.1⟩) (fun q => Nat.le_trans (zR (fun c => (cO c).count q) x.aD c hc) (h.De q))
 have := h.n2
 omega
theorem WV.Wg (h : WV p x) {l : Lk} (hl : l ∈ x.aL) : l.waits.length ≤ 100 := by
 have h1 := nV (b := 1) x.gs.length l.waits (fun q hq => ⟨(h.lw l hl q hq).1.1, (h.lw l hl q hq).1.2.1⟩) (fun q => by
  by_cases hq : q ∈ l.waits
  ·have := h.one q (h.lw l hl q hq).1.1 (by rw [(h.lw l hl q hq).2]; decide)
   have := zR (fun l : Lk => l.waits.count q) x.aL l hl
   unfold gJ at *
   omega
  ·rw [List.count_eq_zero.2 hq]; omega)
 have := h.n2
 omega
theorem WV.Jb (h : WV p x) : x.hl.length ≤ 100 := by
 have h1 := nV (b := 1) x.gs.length (x.hl.map bz.id) (fun q hq => by
  obtain ⟨y, hy, rfl⟩ := List.mem_map.1 hq
  exact ⟨(h.hl y hy).1, (h.hl y hy).2.1⟩) h.h1
 rw [List.length_map] at h1
 have := h.n2
 omega
theorem WV.sm (h : WV p x) (hp : dn p) (hr : x.ready.length ≤ 1000000) : x.Sm := by
 refine ⟨fun c hc => ?_, by have := h.ch; have := hp.ch; omega, by have := h.n2; omega, hr, by have := h.out; omega, fun l hl => by have := h.Wg hl; omega, by have := h.lk; have := hp.lk; omega, by have := h.Jb; omega⟩
 have h1 := h.Ja hc
 unfold cO at h1
 rw [List.length_append, List.length_map, List.length_map] at h1
 have := h.buf c hc
 exact ⟨by omega, by omega, by omega⟩
end
section
variable {p : b7} {x y : Wd} {g q k v : Int} {f : List cI} {i : cI}
theorem hO {z : jl} (hg : g < x.gs.length) (h0 : 0 ≤ g) : aj (x.bu g z) q = if q.toNat = g.toNat then z else aj x q := by
 unfold aj Wd.bu
 dsimp only
 by_cases e : q.toNat = g.toNat
 ·rw [if_pos e, e]
  simp [List.getD_eq_getElem?_getD, List.getElem?_set_self (show g.toNat < x.gs.length by omega)]
 ·rw [if_neg e, List.getD_eq_getElem?_getD, List.getD_eq_getElem?_getD, List.getElem?_set_ne (Ne.symm e)]
theorem wA (h0 : 0 ≤ g) (hg : g < x.gs.length) : aj x g ∈ x.gs := by
 unfold aj
 rw [List.getD_eq_getElem?_getD, List.getElem?_eq_getElem (by omega), Option.getD_some]
 exact List.getElem_mem _
theorem WV.congr (h : WV p x) (hl : y.gs.length = x.gs.length) (hst : ∀ q, (aj y q).st = (aj x q).st ∧ (aj y q).wt = (aj x q).wt) (hg : ∀ z ∈ y.gs, oP p z) (e1 : y.aD = x.aD) (e2 : y.aL = x.aL) (e3 : y.hl = x.hl) (e4 : y.out.length ≤ 1000) : WV p y := by
 have at_ : ∀ q s, At x q s → At y q s := fun q s ha => ⟨ha.1, by rw [hl]; exact ha.2.1, by rw [(hst q).1]; exact ha.2.2⟩
 refine ⟨by rw [hl]; exact h.n1, by rw [hl]; exact h.n2, hg, by rw [e1]; exact h.ch, by rw [e2]; exact h.lk, by rw [e1]; exact h.buf, ?_, ?_, ?_, ?_, ?_, by rw [e1]; exact h.De, by rw [e3]; exact h.h1, e4⟩
 ·intro c hc v hv
  rw [e1] at hc
  rw [(hst v.g).2]
  exact ⟨at_ _ _ (h.eB c hc v hv).1, (h.eB c hc v hv).2⟩
 ·intro c hc v hv
  rw [e1] at hc
  rw [(hst v.g).2]
  exact ⟨at_ _ _ (h.snd c hc v hv).1, (h.snd c hc v hv).2⟩
 ·intro l hl q hq
  rw [e2] at hl
  rw [(hst q).2]
  exact ⟨at_ _ _ (h.lw l hl q hq).1, (h.lw l hl q hq).2⟩
 ·intro z hz
  rw [e3] at hz
  exact at_ _ _ (h.hl z hz)
 ·intro q h0 hq
  rw [(hst q).2] at hq
  rw [e1, e2]
  exact h.one q h0 hq
theorem zS {l : List jl} {n : Nat} {z w : jl} (h : w ∈ l.set n z) : w ∈ l ∨ w = z := List.mem_or_eq_of_mem_set h
theorem WV.bu (h : WV p x) (h0 : 0 ≤ g) (hg : g < x.gs.length) {z : jl} (hz : oP p z) (e1 : z.st = (aj x g).st) (e2 : z.wt = (aj x g).wt) : WV p (x.bu g z) := by
 refine h.congr (by simp [Wd.bu]) (fun q => ?_) (fun w hw => ?_) rfl rfl rfl h.out
 ·rw [hO hg h0]
  split
  ·rename_i e
   have : aj x q = aj x g := by unfold aj; rw [e]
   rw [this]; exact ⟨e1, e2⟩
  ·exact ⟨rfl, rfl⟩
 ·rcases zS hw with hw | rfl
  ·exact h.Fk w hw
  ·exact hz
theorem WV.ready (h : WV p x) {r : List Int} : WV p { x with ready := r } := h.congr rfl (fun _ => ⟨rfl, rfl⟩) h.Fk rfl rfl rfl h.out
theorem WV.fin (h : WV p x) {e c : Int} : WV p { x with end_ := e, code := c } := h.congr rfl (fun _ => ⟨rfl, rfl⟩) h.Fk rfl rfl rfl h.out
theorem WV.Jc (h : WV p x) (h0 : 0 ≤ g) (hg : g < x.gs.length) (hf : m8 x g) {z : jl} (hz : oP p z) : WV p (x.bu g z) := by
 have ne : ∀ q, 0 ≤ q → q ≠ g → aj (x.bu g z) q = aj x q := fun q q0 hq => by rw [hO hg h0, if_neg (by omega)]
 have at_ : ∀ q s, q ≠ g → At x q s → At (x.bu g z) q s := fun q s hq ha => ⟨ha.1, by simpa [Wd.bu] using ha.2.1, by rw [ne q ha.1 hq]; exact ha.2.2⟩
 refine ⟨by simpa [Wd.bu] using h.n1, by simpa [Wd.bu] using h.n2, fun w hw => ?_, h.ch, h.lk, h.buf, ?_, ?_, ?_, ?_, ?_, h.De, h.h1, h.out⟩
 ·rcases zS hw with hw | rfl
  ·exact h.Fk w hw
  ·exact hz
 ·intro c hc v hv
  have hne : v.g ≠ g := fun e => hf.1 c hc (by rw [← e]; exact List.mem_append_right _ (List.mem_map.2 ⟨v, hv, rfl⟩))
  obtain ⟨a, b⟩ := h.eB c hc v hv
  rw [ne _ a.1 hne]
  exact ⟨at_ _ _ hne a, b⟩
 ·intro c hc v hv
  have hne : v.g ≠ g := fun e => hf.1 c hc (by rw [← e]; exact List.mem_append_left _ (List.mem_map.2 ⟨v, hv, rfl⟩))
  obtain ⟨a, b⟩ := h.snd c hc v hv
  rw [ne _ a.1 hne]
  exact ⟨at_ _ _ hne a, b⟩
 ·intro l hl q hq
  have hne : q ≠ g := fun e => hf.2.1 l hl (by rw [← e]; exact hq)
  obtain ⟨a, b⟩ := h.lw l hl q hq
  rw [ne _ a.1 hne]
  exact ⟨at_ _ _ hne a, b⟩
 ·intro w hw
  have hne : w.id ≠ g := hf.2.2 w hw
  exact at_ _ _ hne (h.hl w hw)
 ·intro q q0 hq
  by_cases e : q = g
  ·subst e
   have a := u6.2 hf.1
   have b := yh.2 hf.2.1
   show bX x.aD q + gJ x.aL q ≤ 1
   omega
  ·rw [ne q q0 e] at hq
   exact h.one q q0 hq
theorem oP.OL {z : jl} (h : oP p z) {s : Int} (h1 : s ≠ 2) (h2 : 1 ≤ s ∧ s ≤ 4) : oP p { z with st := s } := ⟨h.l1, h.l2, h.fr, fun e => absurd e h1, h2⟩
theorem WV.eT (h : WV p x) (h0 : 0 ≤ g) (hg : g < x.gs.length) (hf : m8 x g) : WV p (x.eT g) :=
 WV.ready (h.Jc h0 hg hf ((h.Fk _ (wA h0 hg)).OL (by decide) (by decide)))
theorem WV.block (h : WV p x) (ha : At x g 1) (hf : f ∈ p.funcs) (hi : jV p f i) : WV p (x.block g i) := by
 have hz := h.Fk _ (wA ha.1 ha.2.1)
 exact h.Jc ha.1 ha.2.1 (h.free (by rw [ha.2.2]; decide) (by rw [ha.2.2]; decide)) ⟨hz.l1, hz.l2, hz.fr, fun _ => ⟨f, hf, hi⟩, by show (1 : Int) ≤ 2 ∧ (2 : Int) ≤ 4; decide⟩
theorem jo {α : Type} {l : List α} {n : Nat} {a b : α} (h : b ∈ l.set n a) : b ∈ l ∨ b = a := List.mem_or_eq_of_mem_set h
theorem WV.less (h : WV p x) {c c' : aT} (hc : x.aD[k.toNat]? = some c) (hb : c'.buf.length ≤ c'.room ∧ c'.room ≤ 16) (hr : ∀ v ∈ c'.eB, v ∈ c.eB) (hs : ∀ v ∈ c'.snd, v ∈ c.snd) (hn : ∀ q, (cO c').count q ≤ (cO c).count q) : WV p (x.cj k c') := by
 have hm : c ∈ x.aD := List.mem_of_getElem? hc
 have OM : ∀ q, bX (x.aD.set k.toNat c') q ≤ bX x.aD q := by
  intro q
  have := lR (fun c : aT => (cO c).count q) x.aD k.toNat c' c hc
  have := hn q
  unfold bX
  omega
 refine ⟨h.n1, h.n2, h.Fk, by simpa [Wd.cj] using h.ch, h.lk, ?_, ?_, ?_, h.lw, h.hl, ?_, ?_, h.h1, h.out⟩
 ·intro d hd
  rcases jo hd with hd | rfl
  ·exact h.buf d hd
  ·exact hb
 ·intro d hd v hv
  rcases jo hd with hd | rfl
  ·exact h.eB d hd v hv
  ·exact h.eB c hm v (hr v hv)
 ·intro d hd v hv
  rcases jo hd with hd | rfl
  ·exact h.snd d hd v hv
  ·exact h.snd c hm v (hs v hv)
 ·intro q q0 hq
  have := h.one q q0 hq
  have := OM q
  show bX (x.aD.set k.toNat c') q + gJ x.aL q ≤ 1
  omega
 ·intro q
  exact Nat.le_trans (OM q) (h.De q)
theorem WV.more (h : WV p x) {c c' : aT} {w : Wt} (hc : x.aD[k.toNat]? = some c) (hb : c'.buf.length ≤ c'.room ∧ c'.room ≤ 16)
  (hr : ∀ v ∈ c'.eB, v ∈ c.eB ∨ v = w ∧ At x w.g 2 ∧ ((aj x w.g).wt.op = 14 ∨ (aj x w.g).wt.op = 16 ∧ 0 ≤ w.cs ∧ w.cs < (aj x w.g).wt.b))
  (hs : ∀ v ∈ c'.snd, v ∈ c.snd ∨ v = w ∧ At x w.g 2 ∧ ((aj x w.g).wt.op = 13 ∨ (aj x w.g).wt.op = 16 ∧ 0 ≤ w.cs ∧ w.cs < (aj x w.g).wt.b))
  (hn : ∀ q, (cO c').count q ≤ (cO c).count q + (if q = w.g then 1 else 0)) (hz : (aj x w.g).wt.op ≠ 16 → bX x.aD w.g + gJ x.aL w.g = 0) (h32 : bX x.aD w.g < 32) : WV p (x.cj k c') := by
 have hm : c ∈ x.aD := List.mem_of_getElem? hc
 have OM : ∀ q, bX (x.aD.set k.toNat c') q ≤ bX x.aD q + (if q = w.g then 1 else 0) := by
  intro q
  have := lR (fun c : aT => (cO c).count q) x.aD k.toNat c' c hc
  have := hn q
  unfold bX
  omega
 refine ⟨h.n1, h.n2, h.Fk, by simpa [Wd.cj] using h.ch, h.lk, ?_, ?_, ?_, h.lw, h.hl, ?_, ?_, h.h1, h.out⟩
 ·intro d hd
  rcases jo hd with hd | rfl
  ·exact h.buf d hd
  ·exact hb
 ·intro d hd v hv
  rcases jo hd with hd | rfl
  ·exact h.eB d hd v hv
  ·rcases hr v hv with hv | ⟨rfl, hv⟩
   ·exact h.eB c hm v hv
   ·exact hv
 ·intro d hd v hv
  rcases jo hd with hd | rfl
  ·exact h.snd d hd v hv
  ·rcases hs v hv with hv | ⟨rfl, hv⟩
   ·exact h.snd c hm v hv
   ·exact hv
 ·intro q q0 hq
  have a := OM q
  show bX (x.aD.set k.toNat c') q + gJ x.aL q ≤ 1
  by_cases e : q = w.g
  ·subst e
   have := hz hq
   rw [if_pos rfl] at a
   omega
  ·have := h.one q q0 hq
   rw [if_neg e] at a
   omega
 ·intro q
  have a := OM q
  show bX (x.aD.set k.toNat c') q ≤ 32
  by_cases e : q = w.g
  ·subst e
   rw [if_pos rfl] at a
   omega
  ·have := h.De q
   rw [if_neg e] at a
   omega
end
section
variable {p : b7} {x y : Wd} {g q k n : Int} {f : List cI} {i : cI} {v : Wt}
theorem ON {α : Type} (f g : α → Nat) : ∀ (l : List α), (∀ a ∈ l, f a ≤ g a) → (l.map f).sum ≤ (l.map g).sum
 | [], _ => Nat.le_refl _
 | b :: l, h => by
  simp only [List.map_cons, List.sum_cons]
  have := h b (by simp)
  have := ON f g l fun a ha => h a (by simp [ha])
  omega
theorem zT (c : aT) : cO (c.drop g) = (cO c).filter (fun q => q != g) := by
 unfold cO aT.drop wo
 simp only [List.filter_append, List.filter_map]
 rfl
theorem Fl (cs : List aT) (q : Int) : bX (cs.map fun c => c.drop g) q ≤ bX cs q := by
 unfold bX
 rw [List.map_map]
 refine ON _ _ cs fun c _ => ?_
 show (cO (c.drop g)).count q ≤ _
 rw [zT]
 exact List.Sublist.count_le _ List.filter_sublist
theorem WV.leave (h : WV p x) : WV p (x.leave g) := by
 refine ⟨h.n1, h.n2, h.Fk, by simpa [Wd.leave] using h.ch, h.lk, ?_, ?_, ?_, h.lw, h.hl, ?_, ?_, h.h1, h.out⟩
 ·intro d hd
  obtain ⟨c, hc, rfl⟩ := List.mem_map.1 hd
  exact h.buf c hc
 ·intro d hd v hv
  obtain ⟨c, hc, rfl⟩ := List.mem_map.1 hd
  exact h.eB c hc v (List.mem_filter.1 hv).1
 ·intro d hd v hv
  obtain ⟨c, hc, rfl⟩ := List.mem_map.1 hd
  exact h.snd c hc v (List.mem_filter.1 hv).1
 ·intro q q0 hq
  have := Fl (g := g) x.aD q
  have := h.one q q0 hq
  show bX (x.aD.map fun c => c.drop g) q + gJ x.aL q ≤ 1
  omega
 ·intro q
  exact Nat.le_trans (Fl x.aD q) (h.De q)
theorem HJ (h : WV p x) (h3 : (aj x g).wt.op ≠ 18) (h2 : (aj x g).st = 2) : m8 (x.leave g) g := by
 refine ⟨fun d hd hg => ?_, fun l hl hg => h3 (h.lw l hl g hg).2, fun w hw e => ?_⟩
 ·obtain ⟨c, hc, rfl⟩ := List.mem_map.1 hd
  rw [zT] at hg
  have := (List.mem_filter.1 hg).2
  simp at this
 ·have := (h.hl w hw).2.2
  rw [e, h2] at this
  cases this
theorem Fj.set {r : gN} (h : Fj p r) (q v : Int) : Fj p (r.set q v) := h
theorem oP.cJ {z : jl} (h : oP p z) {r : gN} (hr : Fj p r) : oP p (z.cJ r) :=
 ⟨by simpa [jl.cJ] using h.l1, by simpa [jl.cJ] using h.l2, fun f hf => by
  rcases List.mem_or_eq_of_mem_set hf with hf | rfl
  ·exact h.fr f hf
  ·exact hr, h.wt, h.st⟩
theorem oP.top {z : jl} (h : oP p z) : Fj p z.top := by
 unfold jl.top
 have := h.l1
 rw [List.getD_eq_getElem?_getD, List.getElem?_eq_getElem (by omega), Option.getD_some]
 exact h.fr _ (List.getElem_mem _)
theorem WV.jN (h : WV p x) (h0 : 0 ≤ g) (hg : g < x.gs.length) : oP p (aj x g) := h.Fk _ (wA h0 hg)
theorem WV.bq (h : WV p x) (h0 : 0 ≤ g) (hg : g < x.gs.length) : WV p (x.bq g q n) :=
 h.bu h0 hg ((h.jN h0 hg).cJ ((h.jN h0 hg).top.set q n)) rfl rfl
theorem Cj (h0 : 0 ≤ g) (hg : g < x.gs.length) {m : Int} : (aj (x.bq g q n) m).st = (aj x m).st ∧ (aj (x.bq g q n) m).wt = (aj x m).wt ∧ (aj (x.bq g q n) m).fs.length = (aj x m).fs.length := by
 unfold Wd.bq
 rw [hO hg h0]
 split
 ·rename_i e
  have : aj x m = aj x g := by unfold aj; rw [e]
  rw [this]
  exact ⟨rfl, rfl, by simp [jl.cJ]⟩
 ·exact ⟨rfl, rfl, rfl⟩
theorem m9 (h0 : 0 ≤ g) (hg : g < x.gs.length) {m : Int} (h1 : 0 ≤ m) (hne : m ≠ g) : aj (x.bq g q n) m = aj x m := by
 unfold Wd.bq
 rw [hO hg h0, if_neg (by omega)]
theorem WV.bj (h : WV p x) (h0 : 0 ≤ g) (hg : g < x.gs.length) : bj x g := ⟨h0, hg, (h.jN h0 hg).l1, by have := (h.jN h0 hg).l2; omega⟩
theorem K9 (hp : dn p) {a : Int} (h0 : 0 ≤ a) (h1 : a < p.cases.length) : pH p a ∈ p.cases := by
 unfold pH
 rw [List.getD_eq_getElem?_getD, List.getElem?_eq_getElem (by omega), Option.getD_some]
 exact List.getElem_mem _
theorem WV.pI (h : WV p x) (hp : dn p) (ha : At x v.g 2) (hw : (aj x v.g).wt.op = 14 ∨ (aj x v.g).wt.op = 16 ∧ 0 ≤ v.cs ∧ v.cs < (aj x v.g).wt.b) : pI p x v := by
 refine ⟨h.bj ha.1 ha.2.1, ?_⟩
 obtain ⟨f, hf, hi⟩ := (h.jN ha.1 ha.2.1).wt ha.2.2
 obtain ⟨_, _, _, _, _, _, _, _, i13, i14, i16, _⟩ := hi
 split
 ·rename_i e
  rcases hw with hw | ⟨_, c0, c1⟩
  ·rw [e] at hw; cases hw
  ·obtain ⟨a0, a1, a2⟩ := i16 e
   refine ⟨by omega, by omega, by have := hp.cs; omega, (hp.cas _ (K9 hp (by omega) (by omega))).2, i14 (.inr e)⟩
 ·rename_i e
  rcases hw with hw | ⟨hw, _⟩
  ·exact ⟨i13 (.inr hw), i14 (.inl hw)⟩
  ·exact absurd hw e
theorem WV.wX (h : WV p x) (ha : At x v.g 2) : wX x v := by
 refine ⟨h.bj ha.1 ha.2.1, fun e => ?_⟩
 obtain ⟨f, hf, hi⟩ := (h.jN ha.1 ha.2.1).wt ha.2.2
 obtain ⟨_, _, _, _, _, _, _, _, _, i14, _⟩ := hi
 exact i14 (.inr e)
theorem m8.bQ (h : m8 x g) : m8 (x.bq q k n) g := h
theorem bO {m : Int} : (x.bq g q m).gs.length = x.gs.length := by simp [Wd.bq, Wd.bu]
theorem ng : (x.eT g).gs.length = x.gs.length := by simp [Wd.eT, Wd.bu]
theorem qL (h0 : 0 ≤ g) (hg : g < x.gs.length) {m : Int} (h1 : 0 ≤ m) (hne : m ≠ g) : aj (x.eT g) m = aj x m := by
 show aj (x.bu g _) m = _
 rw [hO hg h0, if_neg (by omega)]
theorem u7 (h0 : 0 ≤ g) (hg : g < x.gs.length) : (aj (x.eT g) g).st = 1 := by
 show (aj (x.bu g _) g).st = _
 rw [hO hg h0, if_pos rfl]
theorem WV.gv (h : WV p x) (ha : At x g 2) (S1 : (aj x g).wt.op ≠ 18) : WV p (x.gv g k) ∧ m8 (x.gv g k) g := by
 obtain ⟨h0, hg, h2⟩ := ha
 unfold Wd.gv
 have r2 := h.bq (q := (aj x g).wt.c) (n := k) h0 hg
 have e2 := Cj (x := x) (q := (aj x g).wt.c) (n := k) h0 hg (m := g)
 exact ⟨r2.leave, HJ r2 (by rw [e2.2.1]; exact S1) (by rw [e2.1]; exact h2)⟩
theorem gz : (x.gv g k).gs.length = x.gs.length := by simp [Wd.gv, Wd.leave, bO]
theorem Ck (h0 : 0 ≤ g) (hg : g < x.gs.length) {m : Int} (h1 : 0 ≤ m) (hne : m ≠ g) : aj (x.gv g k) m = aj x m := by
 show aj (x.bq g _ _) m = _
 exact m9 h0 hg h1 hne
theorem WV.received (h : WV p x) (ha : At x v.g 2) (S1 : (aj x v.g).wt.op ≠ 18) (hf : (aj x v.g).wt.op ≠ 16 → m8 x v.g) {s : Int} : WV p (x.received p v s) := by
 have ZQ := ha
 obtain ⟨h0, hg, h2⟩ := ZQ
 unfold Wd.received
 dsimp only
 split
 ·have r1 := h.bq (q := (pH p ((aj x v.g).wt.a + v.cs)).bQ) (n := v.v) h0 hg
  have e1 := Cj (x := x) (q := (pH p ((aj x v.g).wt.a + v.cs)).bQ) (n := v.v) h0 hg (m := v.g)
  have l1 := bO (x := x) (g := v.g) (q := (pH p ((aj x v.g).wt.a + v.cs)).bQ) (m := v.v)
  obtain ⟨r2, f2⟩ := r1.gv (k := v.cs) ⟨h0, by rw [l1]; exact hg, by rw [e1.1]; exact h2⟩ (by rw [e1.2.1]; exact S1)
  exact r2.eT h0 (by rw [gz, l1]; exact hg) f2
 ·rename_i e
  have r1 := h.bq (q := (aj x v.g).wt.b) (n := v.v) h0 hg
  have r2 := r1.bq (g := v.g) (q := (aj x v.g).wt.c) (n := s) h0 (by rw [bO]; exact hg)
  exact r2.eT h0 (by rw [bO, bO]; exact hg) (hf e)
theorem u9 {s : Int} : (x.received p v s).gs.length = x.gs.length := by
 unfold Wd.received
 dsimp only
 split
 ·rw [ng, gz, bO]
 ·rw [ng, bO, bO]
theorem w9 (h0 : 0 ≤ v.g) (hg : v.g < x.gs.length) {s m : Int} (h1 : 0 ≤ m) (hne : m ≠ v.g) : aj (x.received p v s) m = aj x m := by
 unfold Wd.received
 dsimp only
 split
 ·rw [qL h0 (by rw [gz, bO]; exact hg) h1 hne, Ck h0 (by rw [bO]; exact hg) h1 hne, m9 h0 hg h1 hne]
 ·rw [qL h0 (by rw [bO, bO]; exact hg) h1 hne, m9 h0 (by rw [bO]; exact hg) h1 hne, m9 h0 hg h1 hne]
theorem lS (h0 : 0 ≤ v.g) (hg : v.g < x.gs.length) {s : Int} : (aj (x.received p v s) v.g).st = 1 ∧ (x.received p v s).ready = x.ready ++ [v.g] := by
 unfold Wd.received
 dsimp only
 split
 ·exact ⟨u7 h0 (by rw [gz, bO]; exact hg), rfl⟩
 ·exact ⟨u7 h0 (by rw [bO, bO]; exact hg), rfl⟩
theorem WV.sent (h : WV p x) (ha : At x v.g 2) (S1 : (aj x v.g).wt.op ≠ 18) (hf : (aj x v.g).wt.op ≠ 16 → m8 x v.g) : WV p (x.sent v) := by
 have ZQ := ha
 obtain ⟨h0, hg, h2⟩ := ZQ
 unfold Wd.sent
 split
 ·obtain ⟨r2, f2⟩ := h.gv (k := v.cs) ha S1
  exact r2.eT h0 (by rw [gz]; exact hg) f2
 ·rename_i e
  exact h.eT h0 hg (hf e)
theorem OO : (x.sent v).gs.length = x.gs.length := by
 unfold Wd.sent
 split
 ·rw [ng, gz]
 ·rw [ng]
theorem Ru (h0 : 0 ≤ v.g) (hg : v.g < x.gs.length) {m : Int} (h1 : 0 ≤ m) (hne : m ≠ v.g) : aj (x.sent v) m = aj x m := by
 unfold Wd.sent
 split
 ·rw [qL h0 (by rw [gz]; exact hg) h1 hne, Ck h0 hg h1 hne]
 ·rw [qL h0 hg h1 hne]
theorem Jd (h0 : 0 ≤ v.g) (hg : v.g < x.gs.length) : (aj (x.sent v) v.g).st = 1 ∧ (x.sent v).ready = x.ready ++ [v.g] := by
 unfold Wd.sent
 split
 ·exact ⟨u7 h0 (by rw [gz]; exact hg), rfl⟩
 ·exact ⟨u7 h0 hg, rfl⟩
theorem Fm (hk : uQ x k) : ∃ c, x.aD[k.toNat]? = some c ∧ dK x.aD k = c := by
 obtain ⟨k0, k1⟩ := hk
 obtain ⟨c, hc⟩ := aP (l := x.aD) (i := k.toNat) (by omega)
 exact ⟨c, hc, by simp [dK, hc]⟩
theorem Du (h : WV p x) {c c' : aT} (hc : x.aD[k.toNat]? = some c) (h0 : 0 ≤ g) (h2 : (aj x g).st = 2) (uN : (aj x g).wt.op ≠ 16) (hn : (cO c').count g + 1 ≤ (cO c).count g) : m8 (x.cj k c') g := by
 have a := h.one g h0 uN
 have b := lR (fun c : aT => (cO c).count g) x.aD k.toNat c' c hc
 have e1 : bX (x.aD.set k.toNat c') g = 0 := by unfold bX at *; omega
 have e2 : gJ x.aL g = 0 := by
  have := zR (fun c : aT => (cO c).count g) x.aD c (List.mem_of_getElem? hc)
  unfold bX at a
  omega
 refine ⟨u6.1 e1, yh.1 e2, fun w hw e => ?_⟩
 have := (h.hl w hw).2.2
 rw [e, h2] at this
 cases this
end
def Wk (x y : Wd) : Prop := y.gs.length = x.gs.length ∧ ∃ l : List Int, y.ready = x.ready ++ l ∧ l.Nodup ∧ (∀ q ∈ l, 0 ≤ q ∧ q < x.gs.length ∧ (aj x q).st ≠ 1 ∧ (aj y q).st = 1) ∧ ∀ q, 0 ≤ q → q ∉ l → aj y q = aj x q
section
variable {p : b7} {x y z : Wd} {g q k n : Int} {f : List cI} {i : cI} {v : Wt}
theorem Wk.refl (x : Wd) : Wk x x := ⟨rfl, [], by simp, List.nodup_nil, (fun q h => by cases h), fun q _ _ => rfl⟩
theorem Wk.same (h1 : y.gs = x.gs) (h2 : y.ready = x.ready) : Wk x y := ⟨by rw [h1], [], by simp [h2], List.nodup_nil, fun q h => by (cases h), fun q _ _ => by unfold aj; rw [h1]⟩
theorem Wk.trans (h : Wk x y) (h' : Wk y z) : Wk x z := by
 obtain ⟨a1, l, a2, a3, a4, a5⟩ := h
 obtain ⟨b1, m, b2, b3, b4, b5⟩ := h'
 refine ⟨by rw [b1, a1], l ++ m, by rw [b2, a2, List.append_assoc], ?_, ?_, ?_⟩
 ·refine List.nodup_append.2 ⟨a3, b3, fun q hq r hr e => ?_⟩
  subst e
  exact (b4 q hr).2.2.1 (a4 q hq).2.2.2
 ·intro q hq
  rcases List.mem_append.1 hq with hq | hq
  ·obtain ⟨c1, c2, c3, c4⟩ := a4 q hq
   refine ⟨c1, c2, c3, ?_⟩
   by_cases hm : q ∈ m
   ·exact (b4 q hm).2.2.2
   ·rw [b5 q c1 hm]; exact c4
  ·obtain ⟨c1, c2, c3, c4⟩ := b4 q hq
   by_cases hl : q ∈ l
   ·exact absurd (a4 q hl).2.2.2 c3
   ·exact ⟨c1, by rw [← a1]; exact c2, by rw [← a5 q c1 hl]; exact c3, c4⟩
 ·intro q q0 hq
  rw [List.mem_append] at hq
  rw [b5 q q0 (fun h => hq (.inr h)), a5 q q0 (fun h => hq (.inl h))]
theorem Wk.keep (h : Wk x y) (h0 : 0 ≤ q) (h1 : (aj x q).st = 1) : aj y q = aj x q := by
 obtain ⟨_, l, _, _, a4, a5⟩ := h
 exact a5 q h0 fun hq => (a4 q hq).2.2.1 h1
theorem Wk.received (h0 : 0 ≤ v.g) (hg : v.g < x.gs.length) (h1 : (aj x v.g).st ≠ 1) {s : Int} : Wk x (x.received p v s) :=
 ⟨u9, [v.g], (lS h0 hg).2, by simp, fun q hq => by
  simp only [List.mem_singleton] at hq; subst hq
  exact ⟨h0, hg, h1, (lS h0 hg).1⟩, fun q q0 hq => w9 h0 hg q0 (by simpa using hq)⟩
theorem Wk.sent (h0 : 0 ≤ v.g) (hg : v.g < x.gs.length) (h1 : (aj x v.g).st ≠ 1) : Wk x (x.sent v) :=
 ⟨OO, [v.g], (Jd h0 hg).2, by simp, fun q hq => by
  simp only [List.mem_singleton] at hq; subst hq
  exact ⟨h0, hg, h1, (Jd h0 hg).1⟩, fun q q0 hq => Ru h0 hg q0 (by simpa using hq)⟩
theorem Wk.eT (h0 : 0 ≤ g) (hg : g < x.gs.length) (h1 : (aj x g).st ≠ 1) : Wk x (x.eT g) :=
 ⟨ng, [g], rfl, by simp, fun q hq => by
  simp only [List.mem_singleton] at hq; subst hq
  exact ⟨h0, hg, h1, u7 h0 hg⟩, fun q q0 hq => qL h0 hg q0 (by simpa using hq)⟩
theorem Wk.cj {c : aT} : Wk x (x.cj k c) := Wk.same rfl rfl
theorem qq (h : WV p x) {c : aT} (hc : c ∈ x.aD) : c.buf.length ≤ 16 ∧ c.snd.length ≤ 3200 ∧ c.eB.length ≤ 3200 := by
 have h1 := h.Ja hc
 unfold cO at h1
 rw [List.length_append, List.length_map, List.length_map] at h1
 have := h.buf c hc
 omega
def Wh (p : b7) (x : Wd) : Out (Wd × Bool) → Prop
 | .eC _ y => WV p y ∧ y.gs = x.gs ∧ y.ready = x.ready
 | .on (y, true) => WV p y ∧ Wk x y
 | .on (y, false) => y = x
 | .cT _ _ => False
theorem eA {α : Type} : ∀ (l : List α) (n : Nat) (a : α), l[n]? = some a → l.set n a = l
 | [], _, _, _ => rfl
 | b :: l, 0, a, h => by simp at h; subst h; rfl
 | b :: l, n + 1, a, h => by rw [List.set_cons_succ, eA l n a (by simpa using h)]
theorem nW {c : aT} (hc : x.aD[k.toNat]? = some c) : x.cj k c = x := by
 unfold Wd.cj
 rw [eA _ _ _ hc]
theorem WV.put (h : WV p x) (hp : dn p) (hk : uQ x k) : oq p x k n ∧ Wh p x (x.put p k n) := by
 obtain ⟨c, hc, e⟩ := Fm hk
 have hm := List.mem_of_getElem? hc
 obtain ⟨s1, s2, s3⟩ := qq h hm
 have hb := h.buf c hm
 have hr := h.eB c hm
 unfold oq Wd.put
 rw [e]
 refine ⟨⟨hk, ?_, ?_⟩, ?_⟩
 ·unfold aT.send
  split
  ·intro h; cases h
  ·split
   ·rename_i w r hw
    intro _
    obtain ⟨a, b⟩ := hr w (by rw [hw]; simp)
    exact h.pI (v := ⟨w.g, w.cs, n⟩) hp a b
   ·split <;> (intro h; cases h)
 ·have : c.Small 3200 := ⟨by omega, s2, s3⟩
  exact (this.send n).mono (by omega)
 ·unfold aT.send
  split
  ·dsimp only
   rw [if_pos rfl, nW hc]
   exact ⟨h, rfl, rfl⟩
  ·split
   ·rename_i w r hw
    dsimp only
    obtain ⟨a, b⟩ := hr w (by rw [hw]; simp)
    have hl : WV p (x.cj k { c with eB := r }) := h.less hc hb (fun v hv => by rw [hw]; exact List.mem_cons_of_mem _ hv) (fun v hv => hv) (fun q => by
     unfold cO; rw [hw]; simp only [List.map_cons, List.count_append, List.count_cons]; omega)
    have hne : (aj x w.g).wt.op ≠ 18 := by rcases b with b | b; rw [b]; decide; rw [b.1]; decide
    rw [if_neg (by decide), if_pos rfl]
    refine ⟨hl.received (v := ⟨w.g, w.cs, n⟩) a hne (fun uN => ?_), Wk.cj.trans (Wk.received (x := x.cj k { c with eB := r }) (v := ⟨w.g, w.cs, n⟩) a.1 a.2.1 (by show (aj x w.g).st ≠ 1; rw [a.2.2]; decide))⟩
    exact Du h hc a.1 a.2.2 uN (by unfold cO; rw [hw]; simp only [List.map_cons, List.count_append, List.count_cons, beq_self_eq_true, if_true]; omega)
   ·rename_i hw
    split
    ·dsimp only
     rw [if_neg (by decide), if_neg (by decide)]
     exact ⟨h.less hc ⟨by simp; omega, hb.2⟩ (fun v hv => hv) (fun v hv => hv) (fun q => Nat.le_refl _), Wk.cj⟩
    ·dsimp only
     rw [if_neg (by decide), if_neg (by decide), nW hc]
     exact rfl
theorem WV.get (h : WV p x) (hp : dn p) (hk : uQ x k) : uR x k ∧ WV p (x.get k).1 ∧ Wk x (x.get k).1 ∧ ((x.get k).2.2.2 = false → (x.get k).1 = x) := by
 obtain ⟨c, hc, e⟩ := Fm hk
 have hm := List.mem_of_getElem? hc
 obtain ⟨s1, s2, s3⟩ := qq h hm
 have hb := h.buf c hm
 have hs := h.snd c hm
 unfold uR Wd.get
 rw [e]
 obtain ⟨room, buf, snd, eB, closed⟩ := c
 cases snd with
 | cons w r =>
  obtain ⟨a, b⟩ := hs w (by simp)
  obtain ⟨v, l, hv⟩ : ∃ v l, buf ++ [w.v] = v :: l := by
   cases buf with
   | nil => exact ⟨_, _, rfl⟩
   | cons q t => exact ⟨q, t ++ [w.v], rfl⟩
  have hlen : l.length = buf.length := by
   have := congrArg List.length hv
   simp at this; omega
  have er : aT.recv ⟨room, buf, w :: r, eB, closed⟩ = (⟨room, l, r, eB, closed⟩, v, true, w, true, 0) := by
   unfold aT.recv aT.all
   dsimp only
   rw [hv]
   rfl
  rw [er]
  dsimp only
  have hl : WV p (x.cj k ⟨room, l, r, eB, closed⟩) := h.less hc (by rw [hlen]; exact hb) (fun v hv => hv) (fun v hv => List.mem_cons_of_mem _ hv) (fun q => by
   unfold cO; simp only [List.map_cons, List.cons_append, List.count_cons]; omega)
  have hne : (aj x w.g).wt.op ≠ 18 := by rcases b with b | b; rw [b]; decide; rw [b.1]; decide
  rw [if_pos rfl, if_pos rfl]
  refine ⟨⟨hk, fun _ => h.wX a, ⟨by dsimp only at *; omega, by simp only [List.length_cons] at s2; dsimp only; omega, by dsimp only at *; omega⟩⟩, hl.sent a hne (fun uN => ?_), Wk.cj.trans (Wk.sent (x := x.cj k ⟨room, l, r, eB, closed⟩) a.1 a.2.1 (by show (aj x w.g).st ≠ 1; rw [a.2.2]; decide)), (fun h => by cases h)⟩
  exact Du h hc a.1 a.2.2 uN (by unfold cO; simp only [List.map_cons, List.cons_append, List.count_cons, beq_self_eq_true, if_true]; omega)
 | nil =>
  cases buf with
  | cons q t =>
   have er : aT.recv ⟨room, q :: t, [], eB, closed⟩ = (⟨room, t, [], eB, closed⟩, q, true, .zero, false, 0) := rfl
   rw [er]
   dsimp only
   simp only [Bool.false_eq_true, if_false, if_true]
   simp only [List.length_cons] at s1 hb
   exact ⟨⟨hk, (fun h => by cases h), ⟨by dsimp only; omega, by dsimp only at *; omega, by dsimp only at *; omega⟩⟩, h.less hc ⟨by dsimp only; omega, hb.2⟩ (fun v hv => hv) (fun v hv => hv) (fun q => Nat.le_refl _), Wk.cj, (fun h => by cases h)⟩
  | nil =>
   have er : aT.recv ⟨room, [], [], eB, closed⟩ = (⟨room, [], [], eB, closed⟩, 0, false, .zero, false, if closed then 0 else 5) := rfl
   rw [er]
   dsimp only
   simp only [Bool.false_eq_true, if_false, nW hc]
   exact ⟨⟨hk, (fun h => by cases h), ⟨by dsimp only at *; omega, by dsimp only at *; omega, by dsimp only at *; omega⟩⟩, h, Wk.refl _, fun _ => trivial⟩
end
section
variable {p : b7} {x y z : Wd} {g q k n : Int} {f : List cI} {i : cI} {v : Wt}
def Wi (x : Wd) (v : Wt) : Prop := 0 ≤ v.g ∧ v.g < x.gs.length ∧ ((aj x v.g).st = 2 → (aj x v.g).wt.op = 14 ∧ m8 x v.g ∨ (aj x v.g).wt.op = 16 ∧ 0 ≤ v.cs ∧ v.cs < (aj x v.g).wt.b)
def zU (x y : Wd) : Prop := (∀ d ∈ y.aD, ∃ c ∈ x.aD, ∀ q ∈ cO d, q ∈ cO c) ∧ y.aL = x.aL ∧ y.hl = x.hl
theorem zU.refl (x : Wd) : zU x x := ⟨fun d hd => ⟨d, hd, fun _ h => h⟩, rfl, rfl⟩
theorem zU.free (h : zU x y) (hf : m8 x g) : m8 y g := by
 obtain ⟨a, b, c⟩ := h
 refine ⟨fun d hd hg => ?_, by rw [b]; exact hf.2.1, by rw [c]; exact hf.2.2⟩
 obtain ⟨e, he, hs⟩ := a d hd
 exact hf.1 e he (hs g hg)
theorem zU.leave : zU x (x.leave g) := ⟨fun d hd => by
 obtain ⟨c, hc, rfl⟩ := List.mem_map.1 hd
 exact ⟨c, hc, fun q hq => by rw [zT] at hq; exact (List.mem_filter.1 hq).1⟩, rfl, rfl⟩
theorem zU.received {s : Int} : zU x (x.received p v s) := by
 unfold Wd.received
 dsimp only
 split
 ·exact zU.leave (x := (x.bq v.g (pH p ((aj x v.g).wt.a + v.cs)).bQ v.v).bq v.g _ _)
 ·exact zU.refl x
theorem wB (hp : dn p) : ∀ (l : List Wt) (x : Wd), WV p x → x.ready.length + l.length ≤ 1000000 → (∀ v ∈ l, Wi x v) → vZ p x l ∧ WV p (l.foldl (dL p) x) ∧ Wk x (l.foldl (dL p) x)
 | [], x, h, _, _ => ⟨trivial, h, Wk.refl x⟩
 | v :: l, x, h, hr, ha => by
  obtain ⟨h0, hg, h2⟩ := ha v (by simp)
  have jR : x.ready.length ≤ 1000000 := by simp only [List.length_cons] at hr; omega
  by_cases e : (aj x v.g).st = 2
  ·have Fo : At x v.g 2 := ⟨h0, hg, e⟩
   have hne : (aj x v.g).wt.op ≠ 18 := by rcases h2 e with b | b; rw [b.1]; decide; rw [b.1]; decide
   have hw := h.received (v := { v with v := 0 }) Fo hne (fun uN => by
    rcases h2 e with b | b
    ·exact b.2
    ·exact absurd b.1 uN) (s := 0)
   have hk : Wk x (x.received p { v with v := 0 } 0) := Wk.received (v := { v with v := 0 }) h0 hg (by rw [e]; decide)
   have es : dL p x v = x.received p { v with v := 0 } 0 := by unfold dL; rw [if_pos e]
   have hrd : (x.received p { v with v := 0 } 0).ready = x.ready ++ [v.g] := (lS (v := { v with v := 0 }) h0 hg).2
   obtain ⟨r1, r2, r3⟩ := wB hp l (x.received p { v with v := 0 } 0) hw (by rw [hrd]; simp only [List.length_append, List.length_cons, List.length_nil] at *; omega) (fun w Xd => by
    obtain ⟨b0, b1, b2⟩ := ha w (List.mem_cons_of_mem _ Xd)
    refine ⟨b0, by rw [u9]; exact b1, fun Xb => ?_⟩
    by_cases ew : w.g = v.g
    ·rw [ew, (lS (v := { v with v := 0 }) h0 hg).1] at Xb; cases Xb
    ·rw [w9 (v := { v with v := 0 }) h0 hg b0 ew] at Xb ⊢
     rcases b2 Xb with c | c
     ·exact .inl ⟨c.1, zU.received.free c.2⟩
     ·exact .inr c)
   refine ⟨⟨h.sm hp jR, h0, hg, fun _ => h.pI (v := { v with v := 0 }) hp Fo ?_, by rw [es]; exact r1⟩, by rw [List.foldl_cons, es]; exact r2, by rw [List.foldl_cons, es]; exact hk.trans r3⟩
   rcases h2 e with b | b
   ·exact .inl b.1
   ·exact .inr b
  ·have es : dL p x v = x := by unfold dL; rw [if_neg e]
   obtain ⟨r1, r2, r3⟩ := wB hp l x h (by simp only [List.length_cons] at hr; omega) (fun w Xd => ha w (List.mem_cons_of_mem _ Xd))
   exact ⟨⟨h.sm hp jR, h0, hg, fun Xb => absurd Xb e, by rw [es]; exact r1⟩, by rw [List.foldl_cons, es]; exact r2, by rw [List.foldl_cons, es]; exact r3⟩
end
theorem Je {l : List bz} {i : Nat} (h : i < l.length) : nR l i = l[i] := by
 unfold nR; rw [List.getD_eq_getElem?_getD, List.getElem?_eq_getElem h]; rfl
theorem tE {l : List bz} {i j : Nat} (hi : i < l.length) (hj : j < l.length) : (eE l i j).Perm l := by
 unfold eE
 rw [Je hi, Je hj]
 exact List.set_set_perm hi hj
theorem zV : ∀ (f i : Nat) (l : List bz), i < l.length → (KO f i l).Perm l
 | 0, _, l, _ => List.Perm.refl l
 | f + 1, i, l, h => by
  unfold KO
  split
  ·exact (zV f _ _ (by rw [fh]; omega)).trans (tE h (by omega))
  ·exact List.Perm.refl l
theorem zW : ∀ (f i : Nat) (l : List bz), i < l.length → (ot f i l).Perm l
 | 0, _, l, _ => List.Perm.refl l
 | f + 1, i, l, h => by
  unfold ot
  split
  ·exact List.Perm.refl l
  ·have := (Ca h).1
   exact (zW f _ _ (by rw [fh]; exact this)).trans (tE h this)
theorem zX {l : List bz} {x : bz} : (sw l x).Perm (l ++ [x]) := zV _ _ _ (by simp)
theorem Dv {l : List bz} {i : Nat} (h : i < l.length) : l.Perm (nR l i :: dX l i) := by
 have hn : l.length - 1 < l.length := by omega
 have h1 : (eE l i (l.length - 1)).Perm l := tE h hn
 have IJ : (eE l i (l.length - 1))[l.length - 1]? = some (nR l i) := by
  unfold eE
  rw [List.getElem?_set_self (by rw [List.length_set]; exact hn)]
 have h2 : eE l i (l.length - 1) = (eE l i (l.length - 1)).take (l.length - 1) ++ [nR l i] := by
  have e : eE l i (l.length - 1) = (eE l i (l.length - 1)).take (l.length - 1 + 1) := by
   rw [List.take_of_length_le (by rw [fh]; omega)]
  conv => lhs; rw [e]
  rw [List.take_add_one, IJ]
  rfl
 have h3 : l.Perm (nR l i :: (eE l i (l.length - 1)).take (l.length - 1)) := by
  refine h1.symm.trans ?_
  rw [h2]
  have : (List.take (l.length - 1) (eE l i (l.length - 1)) ++ [nR l i]).take (l.length - 1) = (eE l i (l.length - 1)).take (l.length - 1) := by rw [← h2]
  rw [this]
  exact List.perm_append_comm
 unfold dX
 split
 ·rename_i hlt
  have hlen : ((eE l i (l.length - 1)).take (l.length - 1)).length = l.length - 1 := by rw [List.length_take, fh]; omega
  refine h3.trans (List.Perm.cons _ ?_)
  exact ((zV _ _ _ (by rw [jh, hlen]; exact hlt)).trans (zW _ _ _ (by rw [hlen]; exact hlt))).symm
 ·exact h3
theorem zY : ∀ (f : Nat) (l : List bz) (now : Int), l.Perm ((dM f l now).2 ++ (dM f l now).1)
 | 0, l, _ => by simp [dM]
 | f + 1, l, now => by
  unfold dM
  split
  ·rename_i h
   refine (Dv h.1).trans ?_
   dsimp only
   exact List.Perm.cons _ (zY f _ now)
  ·simp
def hU (g : Int) (x y : Wd) : Prop := y.ready.Nodup ∧ g ∉ y.ready ∧ (∀ q ∈ y.ready, 0 ≤ q ∧ q < y.gs.length ∧ ¬ At x q 1 ∧ (aj y q).st = 1) ∧
 (∀ q, 0 ≤ q → q ≠ g → q ∉ y.ready → aj y q = aj x q) ∧ x.gs.length ≤ y.gs.length ∧ ∀ q : Int, x.gs.length ≤ q → q < y.gs.length → q ∈ y.ready
section
variable {p : b7} {x y z : Wd} {g q k n : Int} {f : List cI} {i : cI} {v : Wt}
theorem hU.refl (hr : x.ready = []) : hU g x x := by
 refine ⟨by rw [hr]; exact List.nodup_nil, by rw [hr]; simp, fun q hq => ?_, fun _ _ _ _ => rfl, Nat.le_refl _, fun q a b => by omega⟩
 rw [hr] at hq; cases hq
theorem hU.of (h : Wk x y) (hr : x.ready = []) (hg : At x g 1) : hU g x y := by
 obtain ⟨a1, l, a2, a3, a4, a5⟩ := h
 rw [hr, List.nil_append] at a2
 rw [hU, a2]
 refine ⟨a3, fun hm => (a4 g hm).2.2.1 hg.2.2, fun q hq => ?_, fun q q0 _ hn => a5 q q0 hn, by omega, fun q b c => by omega⟩
 obtain ⟨b1, b2, b3, b4⟩ := a4 q hq
 exact ⟨b1, by omega, fun ha => b3 ha.2.2, b4⟩
theorem hU.Jf (h : hU g x y) (h1 : z.ready = y.ready) (h2 : z.gs.length = y.gs.length) (h3 : ∀ q, 0 ≤ q → q ≠ g → aj z q = aj y q) : hU g x z := by
 obtain ⟨a1, a2, a3, a4, a5, a6⟩ := h
 rw [hU, h1, h2]
 refine ⟨a1, a2, fun q hq => ?_, fun q q0 hne hn => by rw [h3 q q0 hne]; exact a4 q q0 hne hn, a5, a6⟩
 have hne : q ≠ g := fun e => a2 (e ▸ hq)
 obtain ⟨b1, b2, b3, b4⟩ := a3 q hq
 exact ⟨b1, b2, b3, by rw [h3 q b1 hne]; exact b4⟩
theorem hU.pre (h : hU g y z) (h2 : y.gs.length = x.gs.length) (h3 : ∀ q, 0 ≤ q → q ≠ g → aj y q = aj x q) : hU g x z := by
 obtain ⟨a1, a2, a3, a4, a5, a6⟩ := h
 refine ⟨a1, a2, fun q hq => ?_, fun q q0 hne hn => by rw [a4 q q0 hne hn, h3 q q0 hne], by omega, fun q a b => a6 q (by omega) b⟩
 have hne : q ≠ g := fun e => a2 (e ▸ hq)
 obtain ⟨b1, b2, b3, b4⟩ := a3 q hq
 exact ⟨b1, b2, fun ha => b3 ⟨ha.1, by rw [h2]; exact ha.2.1, by rw [h3 q b1 hne]; exact ha.2.2⟩, b4⟩
theorem hU.bQ (h : hU g x y) (h0 : 0 ≤ g) (hg : g < y.gs.length) : hU g x (y.bq g q n) := h.Jf rfl bO fun m m0 hne => m9 h0 hg m0 hne
theorem qM {w : jl} (h0 : 0 ≤ g) (hg : g < x.gs.length) {m : Int} (m0 : 0 ≤ m) (hne : m ≠ g) : aj (x.bu g w) m = aj x m := by
 rw [hO hg h0, if_neg (by omega)]
theorem hU.bu {w : jl} (h : hU g x y) (h0 : 0 ≤ g) (hg : g < y.gs.length) : hU g x (y.bu g w) := h.Jf rfl (by simp [Wd.bu]) fun m m0 hne => qM h0 hg m0 hne
def gX (p : b7) (g : Int) (x : Wd) : Out Wd → Prop
 | .eC _ y => WV p y ∧ hU g x y
 | .on y => WV p y ∧ hU g x y
 | .cT _ _ => False
theorem gX.lt {r : Out Wd} (h : gX p g x r) (hg : At x g 1) : g < r.fin.gs.length := by
 cases r with
 | on y => have := h.2.2.2.2.2.1; have := hg.2.1; show g < y.gs.length; omega
 | eC n y => have := h.2.2.2.2.2.1; have := hg.2.1; show g < y.gs.length; omega
 | cT l y => exact h.elim
theorem m8.xM (h : m8 x g) : bX x.aD g = 0 ∧ gJ x.aL g = 0 ∧ Dt x.hl g = 0 :=
 ⟨u6.2 h.1, yh.2 h.2.1, List.count_eq_zero.2 fun hm => by
  obtain ⟨y, hy, e⟩ := List.mem_map.1 hm
  exact h.2.2 y hy e⟩
theorem At.free (hg : At x g 1) (h : WV p x) : m8 x g := h.free (by rw [hg.2.2]; decide) (by rw [hg.2.2]; decide)
theorem Rv (h : WV p x) (hg : At x g 1) (hi : jV p f i) (h9 : i.op = 9) (hr : x.ready = []) : (bj x g ∧ aU i.b) ∧ gX p g x (x.call g i) := by
 obtain ⟨_, _, _, _, _, i9, _⟩ := hi
 obtain ⟨a0, a1, b1, c1⟩ := i9 (.inl h9)
 have hz := h.jN hg.1 hg.2.1
 refine ⟨⟨h.bj hg.1 hg.2.1, b1⟩, ?_⟩
 unfold Wd.call
 split
 ·exact ⟨h, hU.refl hr⟩
 ·rename_i hn
  refine ⟨h.bu hg.1 hg.2.1 ⟨by simp, by simp; omega, fun r hr => ?_, hz.wt, hz.st⟩ rfl rfl, (hU.refl hr).bu hg.1 hg.2.1⟩
  rcases List.mem_append.1 hr with hr | hr
  ·exact hz.fr r hr
  ·simp only [List.mem_singleton] at hr; subst hr
   exact ⟨a0, a1, Int.le_refl 0, (by show (0 : Int) ≤ 64; decide), c1⟩
theorem Rw (h : WV p x) (hp : dn p) (hg : At x g 1) (hi : jV p f i) (h20 : i.op = 20) (hr : x.ready = []) : (bj x g ∧ aU i.a ∧ x.Sm) ∧ gX p g x (x.emit g i) := by
 obtain ⟨_, _, _, _, _, _, i10, _⟩ := hi
 refine ⟨⟨h.bj hg.1 hg.2.1, i10 (.inr (.inr (.inl h20))), h.sm hp (by rw [hr]; decide)⟩, ?_⟩
 unfold Wd.emit
 split
 ·exact ⟨h, hU.refl hr⟩
 ·rename_i hn
  exact ⟨h.congr rfl (fun _ => ⟨rfl, rfl⟩) h.Fk rfl rfl rfl (by simp; omega), (hU.refl hr).Jf rfl rfl fun _ _ _ => rfl⟩
theorem Rx (h : WV p x) (hg : At x g 1) (hi : jV p f i) (h10 : i.op = 10) (hr : x.ready = []) : (bj x g ∧ aU i.a ∧ aU (aj x g).top.qT) ∧ gX p g x (.on (x.back g i)) := by
 obtain ⟨_, _, _, _, _, _, i10, _⟩ := hi
 have hz := h.jN hg.1 hg.2.1
 refine ⟨⟨h.bj hg.1 hg.2.1, i10 (.inl h10), hz.top.2.2.2.2⟩, ?_⟩
 have hf := hg.free h
 unfold Wd.back
 split
 ·rename_i h2
  refine ⟨h.bu hg.1 hg.2.1 ⟨by simp [jl.back]; omega, by have := hz.l2; simp [jl.back]; omega, fun r hr => ?_, hz.wt, hz.st⟩ rfl rfl, (hU.refl hr).bu hg.1 hg.2.1⟩
  rcases List.mem_or_eq_of_mem_set hr with hr | rfl
  ·exact hz.fr r (List.mem_of_mem_take hr)
  ·refine Fj.set ?_ _ _
   rw [List.getD_eq_getElem?_getD, List.getElem?_eq_getElem (by omega), Option.getD_some]
   exact hz.fr _ (List.getElem_mem _)
 ·have hd : WV p (x.bu g { aj x g with st := 4 }) := h.Jc hg.1 hg.2.1 hf (hz.OL (by decide) (by decide))
  have S2 : hU g x (x.bu g { aj x g with st := 4 }) := (hU.refl hr).bu hg.1 hg.2.1
  split
  ·exact ⟨hd.congr rfl (fun _ => ⟨rfl, rfl⟩) hd.Fk rfl rfl rfl hd.out, S2.Jf rfl rfl fun _ _ _ => rfl⟩
  ·exact ⟨hd, S2⟩
theorem Ry (h : WV p x) (hp : dn p) (hg : At x g 1) (hf : f ∈ p.funcs) (hi : jV p f i) (ZR : i.op = 13) (hr : x.ready = []) :
  ((bj x g ∧ aU i.b ∧ oq p x i.a (bt x g i.b) ∧ uY x g i (x.put p i.a (bt x g i.b))) ∧ x.Sm) ∧ gX p g x (x.send p g i) := by
 have hi' := hi
 obtain ⟨_, _, _, _, _, _, _, i13, OP, _⟩ := hi'
 obtain ⟨a0, a1⟩ := i13 (.inl ZR)
 have hk : uQ x i.a := ⟨a0, by rw [h.ch]; exact a1⟩
 obtain ⟨p1, p2⟩ := h.put (n := bt x g i.b) hp hk
 have Oz := h.bj hg.1 hg.2.1
 have hs := h.sm hp (by rw [hr]; decide)
 have hfr := hg.free h
 obtain ⟨c, hc, ec⟩ := Fm hk
 have hm := List.mem_of_getElem? hc
 obtain ⟨s1, s2, s3⟩ := qq h hm
 unfold Wd.send
 generalize jC : x.put p i.a (bt x g i.b) = r at p2
 match r, p2 with
 | .eC n y, p2 =>
  exact ⟨⟨⟨Oz, OP (.inl ZR), p1, trivial⟩, hs⟩, p2.1, hU.of (Wk.same p2.2.1 p2.2.2) hr hg⟩
 | .on (y, true), p2 =>
  exact ⟨⟨⟨Oz, OP (.inl ZR), p1, trivial⟩, hs⟩, p2.1, hU.of p2.2 hr hg⟩
 | .on (y, false), p2 =>
  have p3 : y = x := p2
  subst p3
  refine ⟨⟨⟨Oz, OP (.inl ZR), p1, Oz, rfl, hk, by rw [ec]; exact ⟨by omega, by omega, by omega⟩⟩, hs⟩, ?_, ?_⟩
  ·have hb := h.block hg hf hi
   have eg : aj (y.block g i) g = { aj y g with st := 2, wt := i } := gF hg.1 hg.2.1
   show WV p ((y.block g i).cj i.a { dK y.aD i.a with snd := (dK y.aD i.a).snd ++ [⟨g, 0, bt y g i.b⟩] })
   rw [ec]
   refine hb.more (c := c) (w := ⟨g, 0, bt y g i.b⟩) hc (h.buf c hm) (fun v hv => .inl hv) (fun v hv => ?_) (fun q => ?_) (fun _ => ?_) ?_
   ·rcases List.mem_append.1 hv with hv | hv
    ·exact .inl hv
    ·refine .inr ⟨by simpa using hv, ⟨hg.1, by simpa [Wd.block, Wd.bu] using hg.2.1, by rw [eg]⟩, .inl (by rw [eg]; exact ZR)⟩
   ·unfold cO
    simp only [List.map_append, List.map_cons, List.map_nil, List.count_append, List.count_cons, List.count_nil]
    by_cases e : q = g
    ·subst e; simp; omega
    ·rw [if_neg e]
     have : (g == q) = false := by simp; exact fun h => e h.symm
     simp [this]
   ·have := hfr.xM
    show bX y.aD g + gJ y.aL g = 0
    omega
   ·have := hfr.xM
    show bX y.aD g < 32
    omega
  ·exact (hU.refl hr).Jf rfl (by simp [Wd.block, Wd.IN, Wd.bu, Wd.cj]) fun m m0 hne => by
    show aj (y.bu g _) m = _
    exact qM hg.1 hg.2.1 m0 hne
 | .cT l y, p2 => exact p2.elim
end
section
variable {p : b7} {x y z : Wd} {g q k n : Int} {f : List cI} {i : cI} {v : Wt}
theorem kW (l : List Int) (q g : Int) : (l ++ [g]).count q ≤ l.count q + (if q = g then 1 else 0) := by
 rw [List.count_append, List.count_cons, List.count_nil]
 by_cases e : q = g
 ·subst e; simp
 ·rw [if_neg e]
  have : (g == q) = false := by simp; exact fun h => e h.symm
  simp [this]
theorem Rz (h : WV p x) (hp : dn p) (hg : At x g 1) (hf : f ∈ p.funcs) (hi : jV p f i) (h14 : i.op = 14) (hr : x.ready = []) :
  (wc x g i ∧ x.Sm) ∧ gX p g x (.on (x.recv g i)) := by
 have hi' := hi
 obtain ⟨_, _, _, _, _, _, _, i13, OP, i14, _⟩ := hi'
 obtain ⟨a0, a1⟩ := i13 (.inr (.inl h14))
 have hk : uQ x i.a := ⟨a0, by rw [h.ch]; exact a1⟩
 obtain ⟨p1, p2, p3, p4⟩ := h.get hp hk
 have Oz := h.bj hg.1 hg.2.1
 have hs := h.sm hp (by rw [hr]; decide)
 have hfr := hg.free h
 obtain ⟨c, hc, ec⟩ := Fm hk
 have hm := List.mem_of_getElem? hc
 obtain ⟨s1, s2, s3⟩ := qq h hm
 have ek := p3.keep hg.1 hg.2.2
 have el := p3.1
 refine ⟨⟨⟨Oz, OP (.inr h14), i14 (.inl h14), p1, p2.bj hg.1 (by rw [el]; exact hg.2.1), by rw [ek], fun e => ?_⟩, hs⟩, ?_⟩
 ·rw [p4 e]
  exact ⟨hk, by rw [ec]; exact ⟨by omega, by omega, by omega⟩⟩
 ·unfold Wd.recv
  have S2 : hU g x (x.get i.a).1 := hU.of p3 hr hg
  split
  ·have r1 := p2.bq (g := g) (q := i.b) (n := (x.get i.a).2.1) hg.1 (by rw [el]; exact hg.2.1)
   refine ⟨r1.bq hg.1 (by rw [bO, el]; exact hg.2.1), (S2.bQ hg.1 (by rw [el]; exact hg.2.1)).bQ hg.1 (by rw [bO, el]; exact hg.2.1)⟩
  ·rename_i e
   rw [p4 (by simpa using e)]
   have hb := h.block hg hf hi
   have eg : aj (x.block g i) g = { aj x g with st := 2, wt := i } := gF hg.1 hg.2.1
   refine ⟨?_, ?_⟩
   ·show WV p ((x.block g i).cj i.a { dK x.aD i.a with eB := (dK x.aD i.a).eB ++ [⟨g, 0, 0⟩] })
    rw [ec]
    refine hb.more (c := c) (w := ⟨g, 0, 0⟩) hc (h.buf c hm) (fun v hv => ?_) (fun v hv => .inl hv) (fun q => ?_) (fun _ => ?_) ?_
    ·rcases List.mem_append.1 hv with hv | hv
     ·exact .inl hv
     ·exact .inr ⟨by simpa using hv, ⟨hg.1, by simpa [Wd.block, Wd.bu] using hg.2.1, by rw [eg]⟩, .inl (by rw [eg]; exact h14)⟩
    ·unfold cO
     rw [List.map_append, ← List.append_assoc]
     exact kW _ _ _
    ·have := hfr.xM
     show bX x.aD g + gJ x.aL g = 0
     omega
    ·have := hfr.xM
     show bX x.aD g < 32
     omega
   ·exact (hU.refl hr).Jf rfl (by simp [Wd.block, Wd.IP, Wd.bu, Wd.cj]) fun m m0 hne => by
     show aj (x.bu g _) m = _
     exact qM hg.1 hg.2.1 m0 hne
theorem RA (h : WV p x) (hp : dn p) (hg : At x g 1) (hi : jV p f i) (h15 : i.op = 15) (hr : x.ready = []) :
  (nO p x i ∧ x.Sm) ∧ gX p g x (x.shut p i) := by
 have hi' := hi
 obtain ⟨_, _, _, _, _, _, _, i13, _⟩ := hi'
 obtain ⟨a0, a1⟩ := i13 (.inr (.inr h15))
 have hk : uQ x i.a := ⟨a0, by rw [h.ch]; exact a1⟩
 have hs := h.sm hp (by rw [hr]; decide)
 obtain ⟨c, hc, ec⟩ := Fm hk
 have hm := List.mem_of_getElem? hc
 obtain ⟨s1, s2, s3⟩ := qq h hm
 have hb := h.buf c hm
 have hrc := h.eB c hm
 unfold nO Wd.shut
 rw [ec]
 obtain ⟨room, buf, snd, eB, closed⟩ := c
 cases closed with
 | true =>
  refine ⟨⟨⟨hk, by dsimp only at *; omega, fun e => by simp [aT.close] at e⟩, hs⟩, ?_⟩
  simp only [aT.close, if_true]
  rw [nW hc]
  exact ⟨h, hU.refl hr⟩
 | false =>
  have SM : WV p (x.cj i.a ⟨room, buf, [], [], true⟩) := h.less hc hb (fun v hv => by cases hv) (fun v hv => by cases hv) (fun q => by simp [cO])
  have OQ := wB hp eB (x.cj i.a ⟨room, buf, [], [], true⟩) SM (by show x.ready.length + eB.length ≤ 1000000; rw [hr]; dsimp only [List.length_nil] at *; omega) (fun v hv => by
   obtain ⟨a, b⟩ := hrc v hv
   refine ⟨a.1, a.2.1, fun _ => ?_⟩
   rcases b with b | b
   ·refine .inl ⟨b, Du h hc a.1 a.2.2 (by rw [b]; decide) ?_⟩
    have : 0 < List.count v.g (cO ⟨room, buf, snd, eB, false⟩) := List.count_pos_iff.2 (List.mem_append_right _ (List.mem_map.2 ⟨v, hv, rfl⟩))
    show List.count v.g (cO ⟨room, buf, [], [], true⟩) + 1 ≤ _
    simp only [cO, List.map_nil, List.append_nil, List.count_nil] at *
    omega
   ·exact .inr b)
  refine ⟨⟨⟨hk, by dsimp only at *; omega, fun _ _ => ?_⟩, hs⟩, ?_⟩
  ·simp only [aT.close, Bool.false_eq_true, if_false]
   exact OQ.1
  ·simp only [aT.close, Bool.false_eq_true, if_false]
   rw [if_neg (by decide)]
   split
   ·exact ⟨SM, (hU.refl hr).Jf rfl rfl fun _ _ _ => rfl⟩
   ·exact ⟨OQ.2.1, hU.of (Wk.cj.trans OQ.2.2) hr hg⟩
theorem OR (h : WV p x) (hp : dn p) (hg : At x g 1) (hi : jV p f i) (h17 : i.op = 17) (hr : x.ready = []) :
  (bj x g ∧ aU i.a ∧ x.hl.length < 1000000) ∧ gX p g x (.on (x.sleep g i)) := by
 obtain ⟨_, _, _, _, _, _, i10, _⟩ := hi
 refine ⟨⟨h.bj hg.1 hg.2.1, i10 (.inr (.inl h17)), by have := h.Jb; omega⟩, ?_⟩
 unfold Wd.sleep
 split
 ·have hf := hg.free h
  have hz := h.jN hg.1 hg.2.1
  have h1 := h.Jc hg.1 hg.2.1 hf (hz.OL (s := 3) (by decide) (by decide))
  have S2 : hU g x (x.bu g { aj x g with st := 3 }) := (hU.refl hr).bu hg.1 hg.2.1
  refine ⟨⟨h1.n1, h1.n2, h1.Fk, h1.ch, h1.lk, h1.buf, h1.eB, h1.snd, h1.lw, fun w hw => ?_, h1.one, h1.De, fun q => ?_, h1.out⟩, S2.Jf rfl rfl fun _ _ _ => rfl⟩
  ·have Gy := zX.mem_iff.1 hw
   rcases List.mem_append.1 Gy with Gy | Gy
   ·exact h1.hl w Gy
   ·simp only [List.mem_singleton] at Gy; subst Gy
    refine ⟨hg.1, by simpa [Wd.bu] using hg.2.1, ?_⟩
    show (aj (x.bu g { aj x g with st := 3 }) g).st = 3
    rw [gF hg.1 hg.2.1]
  ·show Dt (sw x.hl _) q ≤ 1
   unfold Dt
   rw [(zX.map bz.id).count_eq, List.map_append, List.map_cons, List.map_nil]
   have a := kW (x.hl.map bz.id) q g
   have b := h.h1 q
   unfold Dt at b
   by_cases e : q = g
   ·subst e
    have := hf.xM.2.2
    unfold Dt at this
    rw [if_pos rfl] at a
    dsimp only at *
    omega
   ·rw [if_neg e] at a
    dsimp only at *
    omega
 ·exact ⟨h, hU.refl hr⟩
theorem S3 (hk : Dj x k) : ∃ c, x.aL[k.toNat]? = some c ∧ oN x k = c := by
 obtain ⟨k0, k1⟩ := hk
 obtain ⟨c, hc⟩ := aP (l := x.aL) (i := k.toNat) (by omega)
 exact ⟨c, hc, by simp [oN, hc]⟩
theorem WV.HK (h : WV p x) {c c' : Lk} (hc : x.aL[k.toNat]? = some c) (hr : ∀ v ∈ c'.waits, v ∈ c.waits) (hn : ∀ q, c'.waits.count q ≤ c.waits.count q) : WV p (x.gy k c') := by
 have hm : c ∈ x.aL := List.mem_of_getElem? hc
 refine ⟨h.n1, h.n2, h.Fk, h.ch, by simpa [Wd.gy] using h.lk, h.buf, h.eB, h.snd, fun d hd v hv => ?_, h.hl, fun q q0 hq => ?_, h.De, h.h1, h.out⟩
 ·rcases jo hd with hd | rfl
  ·exact h.lw d hd v hv
  ·exact h.lw c hm v (hr v hv)
 ·have a := h.one q q0 hq
  have b := lR (fun l : Lk => l.waits.count q) x.aL k.toNat c' c hc
  have := hn q
  show bX x.aD q + gJ (x.aL.set k.toNat c') q ≤ 1
  unfold gJ at *
  omega
theorem RB (h : WV p x) (hp : dn p) (hg : At x g 1) (hf : f ∈ p.funcs) (hi : jV p f i) (S1 : i.op = 18) (hr : x.ready = []) :
  (bj x g ∧ Dj x i.a ∧ x.Sm) ∧ gX p g x (.on (x.lock g i)) := by
 have hi' := hi
 obtain ⟨_, _, _, _, _, _, _, _, _, _, _, i18, _⟩ := hi'
 obtain ⟨a0, a1⟩ := i18 (.inl S1)
 have hk : Dj x i.a := ⟨a0, by rw [h.lk]; exact a1⟩
 refine ⟨⟨h.bj hg.1 hg.2.1, hk, h.sm hp (by rw [hr]; decide)⟩, ?_⟩
 obtain ⟨c, hc, ec⟩ := S3 hk
 have hm := List.mem_of_getElem? hc
 have hfr := hg.free h
 unfold Wd.lock
 rw [ec]
 unfold Lk.take
 split
 ·dsimp only
  rw [if_pos rfl]
  exact ⟨h.HK hc (fun v hv => hv) (fun q => Nat.le_refl _), (hU.refl hr).Jf rfl rfl fun _ _ _ => rfl⟩
 ·dsimp only
  rw [if_neg (by decide)]
  have hb := h.block hg hf hi
  have eg : aj (x.block g i) g = { aj x g with st := 2, wt := i } := gF hg.1 hg.2.1
  refine ⟨?_, ?_⟩
  ·show WV p ((x.block g i).gy i.a ⟨c.owner, c.waits ++ [g]⟩)
   refine ⟨hb.n1, hb.n2, hb.Fk, hb.ch, by simpa [Wd.gy] using hb.lk, hb.buf, hb.eB, hb.snd, fun d hd v hv => ?_, hb.hl, fun q q0 hq => ?_, hb.De, hb.h1, hb.out⟩
   ·rcases jo hd with hd | rfl
    ·exact hb.lw d hd v hv
    ·rcases List.mem_append.1 hv with hv | hv
     ·exact hb.lw c hm v hv
     ·simp only [List.mem_singleton] at hv; subst hv
      exact ⟨⟨hg.1, by simpa [Wd.gy, Wd.block, Wd.bu] using hg.2.1, by show (aj (x.block v i) v).st = 2; rw [eg]⟩, by show (aj (x.block v i) v).wt.op = 18; rw [eg]; exact S1⟩
   ·have a := hb.one q q0 hq
    have b := lR (fun l : Lk => l.waits.count q) x.aL i.a.toNat ⟨c.owner, c.waits ++ [g]⟩ c hc
    have d := kW c.waits q g
    show bX x.aD q + gJ (x.aL.set i.a.toNat _) q ≤ 1
    have a' : bX x.aD q + gJ x.aL q ≤ 1 := a
    by_cases e : q = g
    ·subst e
     have := hfr.xM
     rw [if_pos rfl] at d
     unfold gJ at *
     dsimp only at *
     omega
    ·rw [if_neg e] at d
     unfold gJ at *
     dsimp only at *
     omega
  ·exact (hU.refl hr).Jf rfl (by simp [Wd.block, Wd.gy, Wd.bu]) fun m m0 hne => by
    show aj (x.bu g _) m = _
    exact qM hg.1 hg.2.1 m0 hne
theorem La (h : WV p x) (hp : dn p) (hg : At x g 1) (hi : jV p f i) (h19 : i.op = 19) (hr : x.ready = []) :
  (m6 x g i ∧ x.Sm) ∧ gX p g x (x.unlock g i) := by
 have hi' := hi
 obtain ⟨_, _, _, _, _, _, _, _, _, _, _, i18, _⟩ := hi'
 obtain ⟨a0, a1⟩ := i18 (.inr h19)
 have hk : Dj x i.a := ⟨a0, by rw [h.lk]; exact a1⟩
 have hs := h.sm hp (by rw [hr]; decide)
 obtain ⟨c, hc, ec⟩ := S3 hk
 have hm := List.mem_of_getElem? hc
 have hw := h.lw c hm
 unfold m6 Wd.unlock
 rw [ec]
 unfold Lk.r7
 split
 ·refine ⟨⟨⟨hk, fun e => absurd rfl e⟩, hs⟩, ?_⟩
  dsimp only
  rw [if_pos (by decide)]
  have e : x.gy i.a c = x := by unfold Wd.gy; rw [eA _ _ _ hc]
  rw [e]
  exact ⟨h, hU.refl hr⟩
 ·obtain ⟨o, ws⟩ := c
  cases ws with
  | nil =>
   refine ⟨⟨⟨hk, fun e => absurd rfl e⟩, hs⟩, ?_⟩
   split
   ·rename_i e; exact absurd rfl e
   ·split
    ·rename_i e; exact absurd rfl e
    ·exact ⟨h.HK (c' := ⟨-1, []⟩) hc (fun v hv => by cases hv) (fun q => by simp), (hU.refl hr).Jf rfl rfl fun _ _ _ => rfl⟩
  | cons w ws =>
   obtain ⟨a, b⟩ := hw w (by simp)
   refine ⟨⟨⟨hk, fun _ => ⟨a.1, a.2.1⟩⟩, hs⟩, ?_⟩
   have hne : w ≠ -1 := by have := a.1; omega
   have hl : WV p (x.gy i.a ⟨w, ws⟩) := h.HK hc (fun v hv => List.mem_cons_of_mem _ hv) (fun q => by simp only [List.count_cons]; omega)
   have hfr : m8 (x.gy i.a ⟨w, ws⟩) w := by
    have o1 := h.one w a.1 (by rw [b]; decide)
    have s := lR (fun l : Lk => l.waits.count w) x.aL i.a.toNat ⟨w, ws⟩ ⟨o, w :: ws⟩ hc
    simp only [List.count_cons, beq_self_eq_true, if_true] at s
    have e1 : gJ (x.aL.set i.a.toNat ⟨w, ws⟩) w = 0 := by unfold gJ at *; omega
    have e2 : bX x.aD w = 0 := by
     have := zR (fun l : Lk => l.waits.count w) x.aL ⟨o, w :: ws⟩ hm
     simp only [List.count_cons, beq_self_eq_true, if_true] at this
     unfold gJ at *; omega
    refine ⟨u6.1 e2, yh.1 e1, fun y hy e => ?_⟩
    have := (h.hl y hy).2.2
    rw [e, a.2.2] at this
    cases this
   have hres : gX p g x (.on ((x.gy i.a ⟨w, ws⟩).eT w)) := ⟨hl.eT a.1 a.2.1 hfr, hU.of (Wk.trans (Wk.same rfl rfl) (Wk.eT (x := x.gy i.a ⟨w, ws⟩) a.1 a.2.1 (by show (aj x w).st ≠ 1; rw [a.2.2]; decide))) hr hg⟩
   split
   ·rename_i e; exact absurd rfl e
   ·split
    ·exact hres
    ·rename_i e; exact absurd hne e
end
section
variable {p : b7} {x y z : Wd} {g q k n : Int} {f : List cI} {i : cI} {v : Wt}
theorem kG {w : jl} (h0 : 0 ≤ q) (hq : q < x.gs.length) : aj { x with gs := x.gs ++ [w] } q = aj x q := by
 unfold aj
 dsimp only
 rw [List.getD_eq_getElem?_getD, List.getD_eq_getElem?_getD, List.getElem?_append_left (by omega)]
theorem Cl {w : jl} : aj { x with gs := x.gs ++ [w] } (x.gs.length : Int) = w := by
 unfold aj
 dsimp only
 rw [Int.toNat_natCast, List.getD_eq_getElem?_getD, List.getElem?_append_right (Nat.le_refl _)]
 simp
theorem WV.spawn (h : WV p x) (hn : x.gs.length < 100) {w : jl} (hw : oP p w) : WV p { x with gs := x.gs ++ [w] } := by
 have at_ : ∀ q s, At x q s → At { x with gs := x.gs ++ [w] } q s := fun q s ha => ⟨ha.1, by have := ha.2.1; simp; omega, by rw [kG ha.1 ha.2.1]; exact ha.2.2⟩
 refine ⟨by simp, by simp; omega, fun z hz => ?_, h.ch, h.lk, h.buf, fun c hc v hv => ?_, fun c hc v hv => ?_, fun l hl q hq => ?_, fun z hz => at_ _ _ (h.hl z hz), fun q q0 hq => ?_, h.De, h.h1, h.out⟩
 ·rcases List.mem_append.1 hz with hz | hz
  ·exact h.Fk z hz
  ·simp only [List.mem_singleton] at hz; subst hz; exact hw
 ·obtain ⟨a, b⟩ := h.eB c hc v hv
  rw [kG a.1 a.2.1]
  exact ⟨at_ _ _ a, b⟩
 ·obtain ⟨a, b⟩ := h.snd c hc v hv
  rw [kG a.1 a.2.1]
  exact ⟨at_ _ _ a, b⟩
 ·obtain ⟨a, b⟩ := h.lw l hl q hq
  rw [kG a.1 a.2.1]
  exact ⟨at_ _ _ a, b⟩
 ·by_cases hlt : q < x.gs.length
  ·rw [kG q0 hlt] at hq
   exact h.one q q0 hq
  ·refine h.one q q0 ?_
   unfold aj
   rw [List.getD_eq_getElem?_getD, List.getElem?_eq_none (by omega)]
   decide
theorem OS {w : jl} : Wd.eT { x with gs := x.gs ++ [{ w with st := 0 }] } (x.gs.length : Int) = { x with gs := x.gs ++ [{ w with st := 1 }], ready := x.ready ++ [(x.gs.length : Int)] } := by
 unfold Wd.eT Wd.bu
 rw [Cl]
 simp [List.set_append_right]
theorem OT (h : WV p x) (hp : dn p) (hg : At x g 1) (hi : jV p f i) (h11 : i.op = 11) (hr : x.ready = []) : (bj x g ∧ aU i.b ∧ aU i.c ∧ x.Sm) ∧ gX p g x (x.spawn g i) := by
 obtain ⟨_, _, _, _, _, i9, _⟩ := hi
 obtain ⟨a0, a1, b1, c1⟩ := i9 (.inr h11)
 refine ⟨⟨h.bj hg.1 hg.2.1, b1, c1, h.sm hp (by rw [hr]; decide)⟩, ?_⟩
 unfold Wd.spawn
 split
 ·exact ⟨h, hU.refl hr⟩
 ·rename_i hn
  rw [OS (w := ⟨0, [gN.begin i.a (bt x g i.b)], .zero⟩)]
  have hw : oP p ⟨1, [gN.begin i.a (bt x g i.b)], .zero⟩ := ⟨by simp, by simp, fun r hr => by
   simp only [List.mem_singleton] at hr; subst hr
   exact ⟨a0, a1, Int.le_refl 0, (by show (0 : Int) ≤ 64; decide), by show aU 0; decide⟩, (fun e => by cases e), by show (1 : Int) ≤ 1 ∧ (1 : Int) ≤ 4; decide⟩
  have h1 := (h.spawn (by omega) hw).ready (r := x.ready ++ [(x.gs.length : Int)])
  have hlen : g < (x.gs ++ [(⟨1, [gN.begin i.a (bt x g i.b)], .zero⟩ : jl)]).length := by have := hg.2.1; simp; omega
  refine ⟨h1.bq hg.1 hlen, ?_⟩
  have S2 : hU g x { x with gs := x.gs ++ [⟨1, [gN.begin i.a (bt x g i.b)], .zero⟩], ready := x.ready ++ [(x.gs.length : Int)] } := by
   rw [hU, hr]
   simp only [List.nil_append, List.length_append, List.length_cons, List.length_nil]
   refine ⟨by simp, by have := hg.2.1; simp; omega, fun q hq => ?_, fun q q0 _ hn => ?_, by omega, fun q a b => by simp; omega⟩
   ·simp only [List.mem_singleton] at hq; subst hq
    exact ⟨by omega, by omega, fun ha => by have := ha.2.1; omega, by show (aj { x with gs := x.gs ++ [_] } _).st = 1; rw [Cl]⟩
   ·show aj { x with gs := x.gs ++ [_] } q = aj x q
    by_cases hlt : q < x.gs.length
    ·exact kG q0 hlt
    ·simp only [List.mem_singleton] at hn
     unfold aj
     dsimp only
     rw [List.getD_eq_getElem?_getD, List.getD_eq_getElem?_getD, List.getElem?_eq_none (by simp; omega), List.getElem?_eq_none (by omega)]
  exact S2.bQ hg.1 hlen
theorem Jg (h : WV p x) (hg : At x g 2) (uN : (aj x g).wt.op = 16) (hf : m8 x g) {fD : List Int} {cases : List om} (hc : ∀ c ∈ cases, c.Ok x.aD.length) (hb : (cases.length : Int) ≤ (aj x g).wt.b) (h32 : cases.length ≤ 32) :
  ∀ j, j ≤ cases.length → WV p { x with aD := dU g fD cases x.aD j } ∧ bX (dU g fD cases x.aD j) g ≤ j
 | 0, _ => ⟨h, by show bX x.aD g ≤ 0; have := hf.xM; omega⟩
 | j + 1, hj => by
  obtain ⟨ih, ic⟩ := Jg h hg uN hf (fD := fD) hc hb h32 j (by omega)
  obtain ⟨c, DD⟩ := aP (l := cases) (i := j) (by omega)
  have ok := hc c (List.mem_of_getElem? DD)
  unfold dU
  rw [DD]
  dsimp only
  unfold j8
  generalize hcs : dU g fD cases x.aD j = cs at ih ic
  have hlen : cs.length = x.aD.length := by
   have a := ih.ch
   have b := h.ch
   dsimp only at a
   omega
  have key : ∀ d : aT, (c.way = 0 ∨ c.way = 1) → dK cs c.ch = d → ∀ d' : aT, d'.buf = d.buf → d'.room = d.room →
    ((∀ v ∈ d'.eB, v ∈ d.eB ∨ v = ⟨g, j, 0⟩) ∧ d'.snd = d.snd ∨ (∀ v ∈ d'.snd, v ∈ d.snd ∨ v = ⟨g, j, fD.getD c.bQ.toNat 0⟩) ∧ d'.eB = d.eB) →
    (∀ q, (cO d').count q ≤ (cO d).count q + (if q = g then 1 else 0)) →
    WV p { x with aD := cs.set c.ch.toNat d' } ∧ bX (cs.set c.ch.toNat d') g ≤ j + 1 := by
   intro d Wj hd d' e1 e2 e3 hn
   obtain ⟨k0, k1, _⟩ := ok.2.2 (by rcases Wj with e | e <;> rw [e] <;> decide)
   obtain ⟨d2, Rr⟩ := aP (l := cs) (i := c.ch.toNat) (by omega)
   have : d2 = d := by rw [← hd]; simp [dK, Rr]
   subst this
   have hm : d2 ∈ cs := List.mem_of_getElem? Rr
   have ZS := ih.buf d2 hm
   refine ⟨?_, ?_⟩
   ·rcases e3 with ⟨e3, e4⟩ | ⟨e3, e4⟩
    ·exact ih.more (k := c.ch) (w := ⟨g, j, 0⟩) Rr (by rw [e1, e2]; exact ZS) (fun v hv => by
      rcases e3 v hv with e | e
      ·exact .inl e
      ·exact .inr ⟨e, hg, .inr ⟨uN, by dsimp only; omega, by dsimp only; show (j : Int) < (aj x g).wt.b; omega⟩⟩) (fun v hv => .inl (by rw [← e4]; exact hv)) hn (fun e => absurd uN e) (by show bX cs g < 32; omega)
    ·exact ih.more (k := c.ch) (w := ⟨g, j, fD.getD c.bQ.toNat 0⟩) Rr (by rw [e1, e2]; exact ZS) (fun v hv => .inl (by rw [← e4]; exact hv)) (fun v hv => by
      rcases e3 v hv with e | e
      ·exact .inl e
      ·exact .inr ⟨e, hg, .inr ⟨uN, by dsimp only; omega, by dsimp only; show (j : Int) < (aj x g).wt.b; omega⟩⟩) hn (fun e => absurd uN e) (by show bX cs g < 32; omega)
   ·have a := lR (fun c : aT => (cO c).count g) cs c.ch.toNat d' d2 Rr
    have b := hn g
    rw [if_pos rfl] at b
    unfold bX at *
    omega
  split
  ·rename_i hw
   refine key _ (.inl hw) rfl _ rfl rfl (.inl ⟨fun v hv => ?_, rfl⟩) (fun q => ?_)
   ·rcases List.mem_append.1 hv with hv | hv
    ·exact .inl hv
    ·exact .inr (by simpa using hv)
   ·unfold cO
    rw [List.map_append, ← List.append_assoc]
    exact kW _ _ _
  ·split
   ·rename_i hw
    refine key _ (.inr hw) rfl _ rfl rfl (.inr ⟨fun v hv => ?_, rfl⟩) (fun q => ?_)
    ·rcases List.mem_append.1 hv with hv | hv
     ·exact .inl hv
     ·exact .inr (by simpa using hv)
    ·unfold cO
     have := kW ((dK cs c.ch).snd.map Wt.g) q g
     simp only [List.map_append, List.map_cons, List.map_nil, List.count_append] at *
     omega
   ·exact ⟨ih, by omega⟩
end
section
variable {p : b7} {x y z : Wd} {g q k n : Int} {f : List cI} {i : cI} {v : Wt} {d : jU}
theorem oP.RC {w : jl} (h : oP p w) (Bc : w.top.pc + 1 ≤ 64) : oP p (w.cJ w.top.next) :=
 h.cJ ⟨h.top.1, h.top.2.1, by have := h.top.2.2.1; show 0 ≤ w.top.pc + 1; omega, Bc, h.top.2.2.2.2⟩
theorem WV.next (h : WV p x) (hg : At x g 1) (Bc : (aj x g).top.pc + 1 ≤ 64) : WV p (x.next g) ∧ At (x.next g) g 1 ∧ (x.next g).gs.length = x.gs.length ∧ (∀ q, 0 ≤ q → q ≠ g → aj (x.next g) q = aj x q) ∧ (aj (x.next g) g).fs.length = (aj x g).fs.length := by
 have hz := (h.jN hg.1 hg.2.1).RC Bc
 have e : aj (x.next g) g = (aj x g).cJ (aj x g).top.next := gF hg.1 hg.2.1
 refine ⟨h.bu hg.1 hg.2.1 hz rfl rfl, ⟨hg.1, by simpa [Wd.next, Wd.bu] using hg.2.1, by rw [e]; exact hg.2.2⟩, by simp [Wd.next, Wd.bu], fun q q0 hne => qM hg.1 hg.2.1 q0 hne, by rw [e]; simp [jl.cJ]⟩
theorem Cm {c : om} (h : c ∈ aC p i) : c ∈ p.cases := List.mem_of_mem_drop (List.mem_of_mem_take h)
theorem Fp {cases : List om} {cs : List aT} (h : k ∈ enabled cases cs) : ∃ (j : Nat) (c : om), k = (j : Int) ∧ j < cases.length ∧ cases[j]? = some c ∧ can cs c = true := by
 unfold enabled CV at h
 obtain ⟨j, hj, rfl⟩ := List.mem_map.1 h
 obtain ⟨h1, h2⟩ := List.mem_filter.1 hj
 rw [List.mem_range] at h1
 obtain ⟨c, hc⟩ := aP (l := cases) (i := j) (by omega)
 unfold MX at h2
 rw [hc] at h2
 exact ⟨j, c, rfl, h1, hc, h2⟩
theorem Lb (h : WV p x) (hp : dn p) (hg : At x g 1) (hf : f ∈ p.funcs) (hi : jV p f i) (uN : i.op = 16) (hr : x.ready = []) (Bc : (aj x g).top.pc + 1 ≤ 64)
  (hd : ∀ v, d = .num v → enabled (aC p i) x.aD ≠ [] → 0 ≤ v ∧ v < (enabled (aC p i) x.aD).length) :
  m7 p x g i d = true ∧ (gX p g x (x.choose p g i d) ∨ ∃ l, d = .cT l ∧ x.choose p g i d = .cT l x) := by
 have hi' := hi
 obtain ⟨_, _, _, _, _, _, _, _, _, i14, i16, _⟩ := hi'
 have hc := i14 (.inr uN)
 obtain ⟨a0, b1, ab⟩ := i16 uN
 have hcs := hp.cs
 have Oz := h.bj hg.1 hg.2.1
 have hs := h.sm hp (by rw [hr]; decide)
 obtain ⟨n1, n2, n3, n4, n5⟩ := h.next hg Bc
 have Rd := (h.jN hg.1 hg.2.1).top.2.2.1
 have SM : (aC p i).length = i.b.toNat := by
  unfold aC
  rw [List.length_take, List.length_drop]; omega
 have Wl : ∀ c ∈ aC p i, c.Ok x.aD.length := fun c hc => by rw [h.ch]; exact (hp.cas c (Cm hc)).1
 have hne1 : (x.next g).aD = x.aD := rfl
 have S4 : ∀ k, k ∈ enabled (aC p i) x.aD → zC p x g i k ∧ gX p g x (x.qb p g i k) := by
  intro k hk
  obtain ⟨j, c, rfl, hj, DD, hcan⟩ := Fp hk
  have hm : c ∈ aC p i := List.mem_of_getElem? DD
  have hrg := (hp.cas c (Cm hm)).2
  have hok := Wl c hm
  have ec : (aC p i).getD (j : Int).toNat ⟨0, 0, 0⟩ = c := by rw [Int.toNat_natCast, List.getD_eq_getElem?_getD, DD]; rfl
  have Wj : c.way = 0 ∨ c.way = 1 := by
   unfold can at hcan
   split at hcan
   ·rename_i e; exact .inl e
   ·split at hcan
    ·rename_i e; exact .inr e
    ·cases hcan
  obtain ⟨k0, k1, _⟩ := hok.2.2 (by rcases Wj with e | e <;> rw [e] <;> decide)
  have OU : uQ (x.next g) c.ch := ⟨k0, k1⟩
  unfold zC Wd.qb
  rw [ec]
  dsimp only
  by_cases hw : c.way = 1
  ·rw [if_pos hw, if_pos hw]
   obtain ⟨p1, p2⟩ := n1.put (n := bt (x.next g) g c.bQ) hp OU
   generalize (x.next g).put p c.ch (bt (x.next g) g c.bQ) = r at p2
   match r, p2 with
   | .eC n y, p2 => exact ⟨⟨by omega, by omega, hrg, p1, trivial⟩, p2.1, (hU.of (Wk.same p2.2.1 p2.2.2) hr n2).pre n3 n4⟩
   | .on (y, true), p2 =>
    have ek := p2.2.keep hg.1 n2.2.2
    have el : g < y.gs.length := by rw [p2.2.1, n3]; exact hg.2.1
    exact ⟨⟨by omega, by omega, hrg, p1, p2.1.bj hg.1 el, by rw [ek, n5]⟩, p2.1.bq hg.1 el, ((hU.of p2.2 hr n2).pre n3 n4).bQ hg.1 el⟩
   | .on (y, false), p2 =>
    have p3 : y = x.next g := p2
    subst p3
    have el : g < (x.next g).gs.length := by rw [n3]; exact hg.2.1
    exact ⟨⟨by omega, by omega, hrg, p1, n1.bj hg.1 el, n5⟩, n1.bq hg.1 el, ((hU.refl (x := x.next g) hr).pre n3 n4).bQ hg.1 el⟩
   | .cT l y, p2 => exact p2.elim
  ·rw [if_neg hw, if_neg hw]
   obtain ⟨p1, p2, p3, _⟩ := n1.get hp OU
   have ek := p3.keep hg.1 n2.2.2
   have el : g < ((x.next g).get c.ch).1.gs.length := by rw [p3.1, n3]; exact hg.2.1
   have r1 := p2.bq (g := g) (q := c.bQ) (n := ((x.next g).get c.ch).2.1) hg.1 el
   exact ⟨⟨by omega, by omega, hrg, p1, p2.bj hg.1 el, by rw [ek, n5]⟩, r1.bq hg.1 (by rw [bO]; exact el), (((hU.of p3 hr n2).pre n3 n4).bQ hg.1 el).bQ hg.1 (by rw [bO]; exact el)⟩
 refine ⟨?_, ?_⟩
 ·unfold m7
  rw [Bool.and_eq_true]
  refine ⟨decide_eq_true ⟨Oz, ⟨a0, by omega, ab, by omega⟩, hc, hs, by omega, Rd, Wl⟩, ?_⟩
  cases d with
  | cT l => rfl
  | num v =>
   dsimp only
   cases he : enabled (aC p i) x.aD with
   | nil => rfl
   | cons q t =>
    rw [List.isEmpty_cons, Bool.false_or]
    obtain ⟨v0, v1⟩ := hd v rfl (by rw [he]; simp)
    rw [he] at v1
    refine decide_eq_true ⟨v0, v1, (S4 _ ?_).1⟩
    rw [he, List.getD_eq_getElem?_getD, List.getElem?_eq_getElem (by omega), Option.getD_some]
    exact List.getElem_mem _
 ·unfold Wd.choose
  split
  ·refine .inl ?_
   unfold Wd.tB
   dsimp only
   split
   ·exact ⟨n1.bq hg.1 (by rw [n3]; exact hg.2.1), ((hU.refl (x := x.next g) hr).pre n3 n4).bQ hg.1 (by rw [n3]; exact hg.2.1)⟩
   ·have hb := n1.block n2 hf hi
    have eg : aj ((x.next g).block g i) g = { aj (x.next g) g with st := 2, wt := i } := gF hg.1 (by rw [n3]; exact hg.2.1)
    have hfr := n2.free n1
    have hw := (Jg (x := (x.next g).block g i) hb ⟨hg.1, by simpa [Wd.block, Wd.bu, n3] using hg.2.1, by rw [eg]⟩ (by rw [eg]; exact uN) hfr (fD := uW (aj (x.next g) g).top) (cases := aC p i) Wl (by rw [eg, SM]; show ((i.b.toNat : Nat) : Int) ≤ i.b; omega) (by omega) (aC p i).length (Nat.le_refl _)).1
    refine ⟨hw, ((hU.refl (x := x.next g) hr).pre n3 n4).Jf rfl (by simp [Wd.block, Wd.bu]) fun m m0 hne => ?_⟩
    show aj ((x.next g).bu g _) m = _
    exact qM hg.1 (by rw [n3]; exact hg.2.1) m0 hne
  ·rename_i hne
   cases d with
   | num v =>
    refine .inl (S4 _ ?_).2
    obtain ⟨v0, v1⟩ := hd v rfl hne
    rw [List.getD_eq_getElem?_getD, List.getElem?_eq_getElem (by omega), Option.getD_some]
    exact List.getElem_mem _
   | cT l => exact .inr ⟨l, rfl, rfl⟩
theorem zZ (h : WV p x) (hp : dn p) (h0 : 0 ≤ g) (hd : ∀ v kd n, d = .num v → asks p { x with ready := [] } g = some (kd, n) → 0 ≤ v ∧ v < n) :
  ∃ r rest, w7 p x g d = some (r, rest) ∧ (gX p g { x with ready := [] } r ∧ (w6 { x with ready := [] } g ∨ r = .on { x with ready := [] } ∧ rest = true) ∨ ∃ l, d = .cT l ∧ r = .cT l { x with ready := [] } ∧ rest = false ∧ w6 { x with ready := [] } g ∧ asks p { x with ready := [] } g ≠ none) := by
 have h := h.ready (r := [])
 generalize hx : ({ x with ready := [] } : Wd) = x' at h hd
 have hr : x'.ready = [] := by rw [← hx]
 unfold w7
 rw [hx]
 dsimp only
 split
 ·rename_i OV
  have hg : At x' g 1 := ⟨OV.1, OV.2.1, OV.2.2.2⟩
  have hz := h.jN hg.1 hg.2.1
  obtain ⟨t1, t2, t3, t4, t5⟩ := hz.top
  rw [if_pos ⟨h.bj hg.1 hg.2.1, t1, t3, by omega⟩]
  obtain ⟨code, m5⟩ := aP (l := p.funcs) (i := (aj x' g).top.fn.toNat) (by omega)
  rw [m5]
  dsimp only
  have hf : code ∈ p.funcs := List.mem_of_getElem? m5
  obtain ⟨c1, c2, c3⟩ := hp.code code hf
  cases Wm : code[(aj x' g).top.pc.toNat]? with
  | none => exact ⟨_, _, rfl, .inl ⟨⟨h, hU.refl hr⟩, .inl OV⟩⟩
  | some i =>
   dsimp only
   have hi : jV p code i := c3 i (List.mem_of_getElem? Wm)
   have hi' := hi
   obtain ⟨o0, o1, o2, o7, o8, o9, o10, o13, o13b, o14, o16, o18, o21⟩ := hi'
   have hpl := (List.getElem?_eq_some_iff.1 Wm).1
   have Bc : (aj x' g).top.pc + 1 ≤ 64 := by omega
   obtain ⟨n1, n2, n3, n4, n5⟩ := h.next hg Bc
   have w4 : (x'.next g).ready = [] := hr
   have jL : asks p x' g = if i.op = 21 then some (4, i.b) else if i.op = 16 then (if enabled (aC p i) x'.aD = [] then none else some (3, (enabled (aC p i) x'.aD).length)) else none := by
    unfold asks Fa
    rw [if_pos OV, m5]
    dsimp only
    rw [Wm]
   have fin : ∀ {r : Out Wd}, gX p g (x'.next g) r → gX p g x' r := by
    intro r hres
    cases r with
    | on y => exact ⟨hres.1, hres.2.pre n3 n4⟩
    | eC n y => exact ⟨hres.1, hres.2.pre n3 n4⟩
    | cT l y => exact hres.elim
   split
   ·rename_i h8
    try rw [if_pos o2]
    refine ⟨_, _, rfl, .inl ⟨⟨h.bu hg.1 hg.2.1 (hz.cJ ?_) rfl rfl, (hU.refl hr).bu hg.1 hg.2.1⟩, .inl OV⟩⟩
    unfold gN.pure
    have base : Fj p (aj x' g).top.next := ⟨t1, t2, by show 0 ≤ (aj x' g).top.pc + 1; omega, Bc, t5⟩
    split; exact base
    split; exact base.set _ _
    split; exact base.set _ _
    split; exact base.set _ _
    split; exact base.set _ _
    split; exact base.set _ _
    split; exact base.set _ _
    split
    ·rename_i e
     exact ⟨t1, t2, (o7 e).1, by have := (o7 e).2; show i.a ≤ 64; omega, t5⟩
    ·split
     ·have := o8 (by omega)
      exact ⟨t1, t2, this.1, by show i.b ≤ 64; omega, t5⟩
     ·exact base
   ·rename_i h8
    split
    ·rename_i uN
     have hw := Lb (d := d) h hp hg hf hi uN hr Bc (fun v hv hne => by
      refine hd v 3 _ hv ?_
      rw [jL, if_neg (by omega), if_pos uN, if_neg hne])
     rw [if_pos hw.1]
     rcases hw.2 with Gy | ⟨l, CN, Gy⟩
     ·rw [if_pos (Gy.lt hg)]
      exact ⟨_, _, rfl, .inl ⟨Gy, .inl OV⟩⟩
     ·rw [Gy, if_pos (show g < (Out.fin (.cT l x')).gs.length from hg.2.1)]
      refine ⟨_, _, rfl, .inr ⟨l, CN, rfl, rfl, OV, ?_⟩⟩
      rw [jL, if_neg (by omega), if_pos uN]
      split
      ·rename_i e
       unfold Wd.choose at Gy
       rw [if_pos e] at Gy
       cases Gy
      ·simp
    ·rename_i uN
     split
     ·rename_i Zr
      rw [if_pos (o10 (.inr (.inr (.inr Zr))))]
      cases d with
      | num v =>
       have hl : g < (x'.next g).gs.length := by rw [n3]; exact hg.2.1
       have hres : gX p g x' (x'.rand g i (.num v)) := ⟨n1.bq hg.1 hl, ((hU.refl (x := x'.next g) hr).pre n3 n4).bQ hg.1 hl⟩
       rw [if_pos (hres.lt hg)]
       exact ⟨_, _, rfl, .inl ⟨hres, .inl OV⟩⟩
      | cT l =>
       rw [if_pos (show g < (Out.fin (x'.rand g i (.cT l))).gs.length from hg.2.1)]
       exact ⟨_, _, rfl, .inr ⟨l, rfl, rfl, rfl, OV, by rw [jL, if_pos Zr]; simp⟩⟩
     ·rename_i Zr
      have go : ∀ r, nS p (x'.next g) g i = some r → gX p g (x'.next g) r → ∃ r rest, (match nS p (x'.next g) g i with
        | none => none
        | some r => if g < r.fin.gs.length then some (r, Ho i.op r) else none) = some (r, rest) ∧ (gX p g x' r ∧ (w6 x' g ∨ r = .on x' ∧ rest = true) ∨ ∃ l, d = .cT l ∧ r = .cT l x' ∧ rest = false ∧ w6 x' g ∧ asks p x' g ≠ none) := by
       intro r Oq hres
       rw [Oq]
       dsimp only
       rw [if_pos (hres.lt n2)]
       exact ⟨_, _, rfl, .inl ⟨fin hres, .inl OV⟩⟩
      have hop : i.op = 9 ∨ i.op = 10 ∨ i.op = 11 ∨ i.op = 12 ∨ i.op = 13 ∨ i.op = 14 ∨ i.op = 15 ∨ i.op = 17 ∨ i.op = 18 ∨ i.op = 19 ∨ i.op = 20 ∨ i.op = 22 := by omega
      rcases hop with e | e | e | e | e | e | e | e | e | e | e | e
      ·have w := Rv n1 n2 hi e w4
       refine go _ ?_ w.2
       unfold nS
       rw [e]; simp only [Int.reduceEq, if_false, if_true]
       rw [if_pos w.1]
      ·have w := Rx n1 n2 hi e w4
       refine go _ ?_ w.2
       unfold nS
       rw [e]; simp only [if_true]
       rw [if_pos w.1]
      ·have w := OT n1 hp n2 hi e w4
       refine go _ ?_ w.2
       unfold nS
       rw [e]; simp only [Int.reduceEq, if_false, if_true]
       rw [if_pos w.1]
      ·refine go (.on (x'.next g)) ?_ ⟨n1, hU.refl w4⟩
       unfold nS
       rw [e]; simp only [Int.reduceEq, if_false, if_true]
      ·have w := Ry n1 hp n2 hf hi e w4
       refine go _ ?_ w.2
       unfold nS
       rw [e]; simp only [Int.reduceEq, if_false, if_true]
       rw [if_pos w.1]
      ·have w := Rz n1 hp n2 hf hi e w4
       refine go _ ?_ w.2
       unfold nS
       rw [e]; simp only [Int.reduceEq, if_false, if_true]
       rw [if_pos w.1]
      ·have w := RA n1 hp n2 hi e w4
       refine go _ ?_ w.2
       unfold nS
       rw [e]; simp only [Int.reduceEq, if_false, if_true]
       rw [if_pos w.1]
      ·have w := OR n1 hp n2 hi e w4
       refine go _ ?_ w.2
       unfold nS
       rw [e]; simp only [Int.reduceEq, if_false, if_true]
       rw [if_pos w.1]
      ·have w := RB n1 hp n2 hf hi e w4
       refine go _ ?_ w.2
       unfold nS
       rw [e]; simp only [Int.reduceEq, if_false, if_true]
       rw [if_pos w.1]
      ·have w := La n1 hp n2 hi e w4
       refine go _ ?_ w.2
       unfold nS
       rw [e]; simp only [Int.reduceEq, if_false, if_true]
       rw [if_pos w.1]
      ·have w := Rw n1 hp n2 hi e w4
       refine go _ ?_ w.2
       unfold nS
       rw [e]; simp only [Int.reduceEq, if_false, if_true]
       rw [if_pos w.1]
      ·refine go (.eC i.a (x'.next g)) ?_ ⟨n1, hU.refl w4⟩
       unfold nS
       rw [e]; simp only [Int.reduceEq, if_false, if_true]
 ·exact ⟨_, _, rfl, .inl ⟨⟨h, hU.refl hr⟩, .inr ⟨rfl, rfl⟩⟩⟩
theorem Dw {w : Wd} {k n : Int} (hp : dn p) (h : asks p w g = some (k, n)) : 1 ≤ n ∧ n < 1099511627776 := by
 unfold asks at h
 split at h
 ·split at h
  ·cases h
  ·rename_i ins hi
   have hio : ∃ f ∈ p.funcs, ins ∈ f := by
    unfold Fa at hi
    split at hi
    ·cases hi
    ·rename_i code hc
     exact ⟨code, List.mem_of_getElem? hc, List.mem_of_getElem? hi⟩
   obtain ⟨f, hf, hm⟩ := hio
   have hok := (hp.code f hf).2.2 ins hm
   split at h
   ·rename_i e
    simp only [Option.some.injEq, Prod.mk.injEq] at h
    have := hok.2.2.2.2.2.2.2.2.2.2.2.2 e
    omega
   ·split at h
    ·split at h
     ·cases h
     ·rename_i hne
      simp only [Option.some.injEq, Prod.mk.injEq] at h
      have h1 : (enabled (aC p ins) w.aD).length ≤ (aC p ins).length := Es _ _ _
      have h2 : (aC p ins).length ≤ p.cases.length := by
       unfold aC
       rw [List.length_take, List.length_drop]; omega
      have := hp.cs
      have h3 : 0 < (enabled (aC p ins) w.aD).length := by
       rcases hl : enabled (aC p ins) w.aD with _ | ⟨q, t⟩
       ·exact absurd hl hne
       ·simp
      omega
    ·cases h
 ·cases h
end
section
variable {p : b7} {x y z : Wd} {g q k n : Int}
theorem Cn : ∀ (l : List Int) (x : Wd), WV p x → l.Nodup → (∀ q ∈ l, 0 ≤ q ∧ q < x.gs.length ∧ (aj x q).st ≠ 1 ∧ m8 x q) → WV p (l.foldl Wd.eT x) ∧ Wk x (l.foldl Wd.eT x) ∧ (l.foldl Wd.eT x).ready = x.ready ++ l
 | [], x, h, _, _ => ⟨h, Wk.refl x, by simp⟩
 | q :: l, x, h, hn, ha => by
  obtain ⟨q0, q1, q2, q3⟩ := ha q (by simp)
  obtain ⟨Q2, xl⟩ := List.nodup_cons.1 hn
  obtain ⟨r1, r2, r3⟩ := Cn l (x.eT q) (h.eT q0 q1 q3) xl (fun m hm => by
   obtain ⟨m0, m1, m2, m3⟩ := ha m (List.mem_cons_of_mem _ hm)
   have hne : m ≠ q := fun e => Q2 (e ▸ hm)
   exact ⟨m0, by rw [ng]; exact m1, by rw [qL q0 q1 m0 hne]; exact m2, m3⟩)
  refine ⟨r1, (Wk.eT q0 q1 q2).trans r2, ?_⟩
  rw [List.foldl_cons, r3]
  show (x.ready ++ [q]) ++ l = _
  simp
def IM (x : Wd) : List Int := (dM x.hl.length x.hl (IntKind.wrap .u64 (x.clock + 1))).2.map bz.id
theorem RD (he : x.end_ = 0) : x.tick = (IM x).foldl Wd.eT { x with clock := IntKind.wrap .u64 (x.clock + 1), hl := (dM x.hl.length x.hl (IntKind.wrap .u64 (x.clock + 1))).1, ready := [] } := by
 unfold Wd.tick
 rw [if_neg (by rw [he]; decide)]
 rfl
theorem Jh (h : WV p x) : (∀ y ∈ (dM x.hl.length x.hl (IntKind.wrap .u64 (x.clock + 1))).2, 0 ≤ y.id ∧ y.id < x.gs.length) ∧ WV p x.tick ∧ Wk { x with ready := [] } x.tick ∧ x.tick.ready.length ≤ 100 := by
 generalize hr : dM x.hl.length x.hl (IntKind.wrap .u64 (x.clock + 1)) = r
 have hp : x.hl.Perm (r.2 ++ r.1) := by rw [← hr]; exact zY _ _ _
 have m2 : ∀ y ∈ r.2, y ∈ x.hl := fun y hy => hp.mem_iff.2 (List.mem_append_left _ hy)
 have m1 : ∀ y ∈ r.1, y ∈ x.hl := fun y hy => hp.mem_iff.2 (List.mem_append_right _ hy)
 have hc : ∀ q, (r.2.map bz.id).count q + (r.1.map bz.id).count q ≤ 1 := fun q => by
  have a := h.h1 q
  unfold Dt at a
  rw [(hp.map bz.id).count_eq, List.map_append, List.count_append] at a
  exact a
 refine ⟨fun y hy => ⟨(h.hl y (m2 y hy)).1, (h.hl y (m2 y hy)).2.1⟩, ?_⟩
 by_cases he : x.end_ = 0
 ·rw [RD he]
  unfold IM
  rw [hr]
  have h1 : WV p { x with clock := IntKind.wrap .u64 (x.clock + 1), hl := r.1, ready := [] } :=
   ⟨h.n1, h.n2, h.Fk, h.ch, h.lk, h.buf, h.eB, h.snd, h.lw, fun y hy => h.hl y (m1 y hy), h.one, h.De, fun q => by have := hc q; unfold Dt; dsimp only; omega, h.out⟩
  have hnd : (r.2.map bz.id).Nodup := List.nodup_iff_count.2 fun q => by have := hc q; omega
  obtain ⟨r1, r2, r3⟩ := Cn (r.2.map bz.id) { x with clock := IntKind.wrap .u64 (x.clock + 1), hl := r.1, ready := [] } h1 hnd (fun q hq => by
   obtain ⟨y, hy, rfl⟩ := List.mem_map.1 hq
   have a := h.hl y (m2 y hy)
   refine ⟨a.1, a.2.1, by show (aj x y.id).st ≠ 1; rw [a.2.2]; decide, fun c W3 hg => ?_, fun l hl hg => ?_, fun w hw e => ?_⟩
   ·have := (h.Rt W3 hg).1.2.2
    rw [a.2.2] at this; cases this
   ·have := (h.lw l hl _ hg).1.2.2
    rw [a.2.2] at this; cases this
   ·have b := hc y.id
    have c1 : 0 < (r.2.map bz.id).count y.id := List.count_pos_iff.2 hq
    have c2 : 0 < (r.1.map bz.id).count y.id := List.count_pos_iff.2 (List.mem_map.2 ⟨w, hw, e⟩)
    omega)
  refine ⟨r1, Wk.trans (Wk.same rfl rfl) r2, ?_⟩
  rw [r3]
  have a := h.Jb
  have b := hp.length_eq
  simp only [List.length_append, List.length_map, List.nil_append] at *
  omega
 ·have e : x.tick = { x with ready := [] } := by unfold Wd.tick; rw [if_pos he]
  rw [e]
  exact ⟨h.ready, Wk.refl _, by simp⟩
theorem Wn (hp : dn p) : WV p (Wd.new p) := by
 have e : ∀ q, aj (Wd.new p) q = if q.toNat = 0 then ⟨1, [gN.begin 0 0], .zero⟩ else ⟨0, [], .zero⟩ := by
  intro q
  unfold aj Wd.new
  dsimp only
  split
  ·rename_i e; rw [e]; rfl
  ·rename_i e
   rw [List.getD_eq_getElem?_getD, List.getElem?_eq_none (by simp; omega)]; rfl
 have xZ : ∀ c ∈ (Wd.new p).aD, ∃ n, c = aT.new n := fun c hc => by
  obtain ⟨n, _, rfl⟩ := List.mem_map.1 hc
  exact ⟨n, rfl⟩
 have hlk : ∀ l ∈ (Wd.new p).aL, l.waits = [] := fun l hl => by
  have := List.eq_of_mem_replicate hl
  rw [this]
 have z1 : ∀ q, bX (Wd.new p).aD q = 0 := fun q => qp _ _ fun c hc => by
  obtain ⟨n, rfl⟩ := xZ c hc
  rfl
 have z2 : ∀ q, gJ (Wd.new p).aL q = 0 := fun q => qp _ _ fun l hl => by rw [hlk l hl]; rfl
 refine ⟨by simp [Wd.new], by simp [Wd.new], fun y hy => ?_, by simp [Wd.new], by (simp [Wd.new]; have := hp.lk.1; omega), fun c hc => ?_, fun c hc v hv => ?_, fun c hc v hv => ?_, fun l hl q hq => ?_, fun y hy => by simp [Wd.new] at hy, fun q _ _ => by rw [z1, z2]; omega, fun q => by rw [z1]; omega, fun q => by simp [Dt, Wd.new], by simp [Wd.new]⟩
 ·simp only [Wd.new, List.mem_singleton] at hy
  subst hy
  refine ⟨by simp, by simp, fun r hr => ?_, (fun e => by cases e), by show (1 : Int) ≤ 1 ∧ (1 : Int) ≤ 4; decide⟩
  simp only [List.mem_singleton] at hr; subst hr
  exact ⟨Int.le_refl 0, by have := hp.f1; show (0 : Int) < _; omega, Int.le_refl 0, (by show (0 : Int) ≤ 64; decide), by show aU 0; decide⟩
 ·obtain ⟨n, rfl⟩ := xZ c hc
  exact ⟨Nat.zero_le _, MB n⟩
 ·obtain ⟨n, rfl⟩ := xZ c hc
  cases hv
 ·obtain ⟨n, rfl⟩ := xZ c hc
  cases hv
 ·rw [hlk l hl] at hq; cases hq
end
def jO (ps : List dm) (a : Int) : Nat := ((ps.map dm.q).flatMap Loc.all).count a
def Bh (ms : List uZ) (a : Int) : Nat := (ms.flatMap fun m => jy m.g).count a
def jP (x : Sc) (a : Int) : Nat := jO x.ps a + x.gl.count a + Bh x.ms a
def RE (q : Loc) : Prop := q.l.length ≤ q.room ∧ q.room ≤ 1024 ∧ 0 < q.room
def MV (P : Nat) (m : uZ) : Prop := (m.p = -1 ∧ m.g = -1 ∧ m.left = 0) ∨ (0 ≤ m.p ∧ m.p < P ∧ -1 ≤ m.g ∧ 0 ≤ m.left ∧ m.left ≤ 1024 ∧ (0 ≤ m.g → 1 ≤ m.left))
structure SV (p : b7) (N : Nat) (x : Sc) : Prop where
 w : WV p x.w
 one : ∀ a, At x.w a 1 → jP x a = 1
 zero : ∀ a, ¬ At x.w a 1 → jP x a = 0
 cP : x.c.P = x.ps.length
 cM : x.c.M = x.ms.length
 P1 : 1 ≤ x.ps.length ∧ x.ps.length ≤ 64
 M1 : 1 ≤ x.ms.length ∧ x.ms.length ≤ 64
 cS : 1 ≤ x.c.S ∧ x.c.S ≤ 1024
 room : ∀ pr ∈ x.ps, RE pr.q
 dO : ∀ pr ∈ x.ps, 0 ≤ pr.turns ∧ pr.turns ≤ N
 ms : ∀ m ∈ x.ms, MV x.ps.length m
 eN : ∀ (i : Nat) m, x.ms[i]? = some m → m.p ≠ -1 → (ay x m.p).eN = i
 st : 0 ≤ x.steps ∧ x.steps ≤ N
 tk : x.d.taken.length ≤ 3 * N
 k : x.d.k.Ok
section
variable {p : b7} {N : Nat} {x y z : Sc} {m i g a : Int}
theorem qt {ps : List dm} {j : Nat} {pr SU : dm} (h : ps[j]? = some pr) : jO (ps.set j SU) a + pr.q.all.count a = jO ps a + SU.q.all.count a := by
 unfold jO
 rw [List.map_set]
 exact Q4 a (by rw [List.getElem?_map, h]; rfl)
theorem z8 : ∀ {ms : List uZ} {j : Nat} {mc lT : uZ}, ms[j]? = some mc → Bh (ms.set j lT) a + (jy mc.g).count a = Bh ms a + (jy lT.g).count a
 | [], _, _, _, h => by simp at h
 | z :: ms, 0, mc, lT, h => by
  simp only [List.getElem?_cons_zero, Option.some.injEq] at h; subst h
  simp only [Bh, List.set_cons_zero, List.flatMap_cons, List.count_append]; omega
 | z :: ms, j + 1, mc, lT, h => by
  have := z8 (ms := ms) (lT := lT) (j := j) (by simpa using h)
  simp only [Bh, List.set_cons_succ, List.flatMap_cons, List.count_append] at *; omega
theorem nX {α : Type} (f : α → List Int) : ∀ (l : List α) (b : α), b ∈ l → (f b).count a ≤ (l.flatMap f).count a
 | c :: l, b, h => by
  simp only [List.flatMap_cons, List.count_append]
  rcases List.mem_cons.1 h with rfl | h
  ·omega
  ·have := nX f l b h; omega
theorem SV.ZT (h : SV p N x) : jP x a ≤ 1 := by
 by_cases e : At x.w a 1
 ·rw [h.one a e]; omega
 ·rw [h.zero a e]; omega
theorem SV.at_ (h : SV p N x) (hc : 0 < jP x a) : At x.w a 1 := Classical.byContradiction fun e => by rw [h.zero a e] at hc; omega
theorem SV.S5 (h : SV p N x) : ∀ v ∈ x.gl, 0 ≤ v := fun v hv => (h.at_ (a := v) (by have : 0 < x.gl.count v := List.count_pos_iff.2 hv; unfold jP; omega)).1
theorem SV.OW (h : SV p N x) {pr : dm} (hp : pr ∈ x.ps) : pr.q.Pos := by
 have gP : ∀ v ∈ pr.q.all, 0 ≤ v := fun v hv => (h.at_ (a := v) (by
  have h1 := nX (a := v) Loc.all (x.ps.map dm.q) pr.q (List.mem_map.2 ⟨pr, hp, rfl⟩)
  have : 0 < pr.q.all.count v := List.count_pos_iff.2 hv
  unfold jP jO; omega)).1
 refine ⟨?_, fun v hv => gP v (by unfold Loc.all; simp [hv])⟩
 by_cases hn : pr.q.next = -1
 ·omega
 ·have := gP pr.q.next (by unfold Loc.all; rw [if_neg hn]; simp)
  omega
theorem SV.Wo (h : SV p N x) : x.gl.length ≤ 100 := by
 have h1 := nV (b := 1) x.w.gs.length x.gl (fun v hv => by
  have := h.at_ (a := v) (by have : 0 < x.gl.count v := List.count_pos_iff.2 hv; unfold jP; omega)
  exact ⟨this.1, this.2.1⟩) (fun v => by have := h.ZT (a := v); unfold jP at this; omega)
 have := h.w.n2
 omega
theorem SV.mg (h : SV p N x) {mc : uZ} (hm : mc ∈ x.ms) (h0 : 0 ≤ mc.g) : At x.w mc.g 1 := h.at_ (by
 have h1 := nX (a := mc.g) (fun m : uZ => jy m.g) x.ms mc hm
 have : (jy mc.g).count mc.g = 1 := by rw [iN h0]; simp
 unfold jP Bh; omega)
theorem gA (h0 : 0 ≤ m) (hm : m < x.ms.length) : x.ms[m.toNat]? = some (ax x m) := by
 obtain ⟨y, hy⟩ := aP (l := x.ms) (i := m.toNat) (by omega)
 rw [hy]; simp [ax, hy]
theorem mh (h0 : 0 ≤ i) (hi : i < x.ps.length) : x.ps[i.toNat]? = some (ay x i) := by
 obtain ⟨y, hy⟩ := aP (l := x.ps) (i := i.toNat) (by omega)
 rw [hy]; simp [ay, hy]
def cY : dm := ⟨⟨-1, 0, []⟩, 0, -1⟩
theorem SV.go (h : SV p N x) (m0 : 0 ≤ m) (m1 : m < x.ms.length) (i0 : 0 ≤ i) (i1 : i < x.ps.length) (ps' : List dm) (lT : uZ) (Dq : List Int) (d' : jz)
  (hl : ps'.length = x.ps.length) (hr : ∀ pr ∈ ps', RE pr.q ∧ 0 ≤ pr.turns ∧ pr.turns ≤ N + 1) (hb : ∀ j : Nat, j ≠ i.toNat → (ps'.getD j cY).eN = (x.ps.getD j cY).eN)
  (hbi : lT.p = -1 ∨ lT.p = i ∧ (ps'.getD i.toNat cY).eN = m) (hold : (ax x m).p = i ∨ (ay x i).eN = -1) (z9 : MV x.ps.length lT)
  (hc : ∀ a, jO ps' a + Dq.count a + (jy lT.g).count a = jO x.ps a + x.gl.count a + (jy (ax x m).g).count a) (hd : d'.taken.length ≤ 3 * N + 3) (hk : d'.k.Ok) :
  SV p (N + 1) { x with ps := ps', ms := x.ms.set m.toNat lT, gl := Dq, d := d' } := by
 have jD := gA m0 m1
 have hS : ∀ a, jP { x with ps := ps', ms := x.ms.set m.toNat lT, gl := Dq, d := d' } a = jP x a := fun a => by
  have e1 := z8 (a := a) (lT := lT) jD
  have e2 := hc a
  unfold jP
  dsimp only
  omega
 refine ⟨h.w, fun a ha => by rw [hS]; exact h.one a ha, fun a ha => by rw [hS]; exact h.zero a ha, by rw [hl]; exact h.cP, by simpa using h.cM, by rw [hl]; exact h.P1, by simpa using h.M1, h.cS, fun pr hp => (hr pr hp).1, fun pr hp => (by have := (hr pr hp).2; omega), fun mc Gm => ?_, fun j mc hj hne => ?_, by have := h.st; dsimp only; omega, by dsimp only; omega, hk⟩
 ·rw [hl]
  rcases jo Gm with Gm | rfl
  ·exact h.ms mc Gm
  ·exact z9
 ·by_cases e : j = m.toNat
  ·subst e
   rw [List.getElem?_set_self (by omega)] at hj
   simp only [Option.some.injEq] at hj
   subst hj
   rcases hbi with hbi | ⟨e1, e2⟩
   ·exact absurd hbi hne
   ·show (ps'.getD lT.p.toNat cY).eN = _
    rw [e1, e2]; omega
  ·rw [List.getElem?_set_ne (Ne.symm e)] at hj
   have hby := h.eN j mc hj hne
   have hmv2 := h.ms mc (List.mem_of_getElem? hj)
   have hpi : mc.p.toNat ≠ i.toNat := by
    intro e2
    have e3 : mc.p = i := by rcases hmv2 with hh | hh; exact absurd hh.1 hne; omega
    rw [e3] at hby
    rcases hold with e4 | e4
    ·have := h.eN m.toNat (ax x m) jD (by rw [e4]; omega)
     rw [e4, hby] at this
     omega
    ·rw [e4] at hby; omega
   show (ps'.getD mc.p.toNat cY).eN = _
   rw [hb _ hpi]
   exact hby
end
section
variable {p : b7} {N : Nat} {x y z : Sc} {m i g a : Int}
theorem RF {q : Loc} (h : ∀ v ∈ q.all, 0 ≤ v) : q.Pos := by
 refine ⟨?_, fun v hv => h v (by unfold Loc.all; simp [hv])⟩
 by_cases hn : q.next = -1
 ·omega
 ·have := h q.next (by unfold Loc.all; rw [if_neg hn]; simp)
  omega
theorem RG {q : Loc} (h : q.Pos) : ∀ v ∈ q.all, 0 ≤ v := by
 intro v hv
 unfold Loc.all at hv
 rcases List.mem_append.1 hv with hv | hv
 ·split at hv
  ·cases hv
  ·simp only [List.mem_singleton] at hv; subst hv; have := h.1; omega
 ·exact h.2 v hv
theorem Ji {q : Loc} {t : Int} {gl : List Int} (hq : q.Pos) (hb : RE q) (hg : ∀ v ∈ gl, 0 ≤ v) :
  RE (fY q t gl).1 ∧ (∀ a, (fY q t gl).1.all.count a + (fY q t gl).2.1.count a + (jy (fY q t gl).2.2.1).count a = q.all.count a + gl.count a) ∧
   ((fY q t gl).2.2.2 = true → 0 ≤ (fY q t gl).2.2.1) ∧ ((fY q t gl).2.2.2 = false → (fY q t gl).2.2.1 = -1) := by
 have c1 := E0 q gl
 have b1 := Q5 hb gl
 unfold fY
 generalize q.dO gl = r at c1 b1
 obtain ⟨q1, g1, n1⟩ := r
 dsimp only at c1 b1 ⊢
 have nn : ∀ v, 0 < q.all.count v + gl.count v → 0 ≤ v := fun v hv => by
  by_cases e : v ∈ gl
  ·exact hg v e
  ·rw [List.count_eq_zero.2 e] at hv
   exact RG hq v (List.count_pos_iff.1 (by omega))
 have p1 : q1.Pos := RF fun v hv => nn v (by have : 0 < q1.all.count v := List.count_pos_iff.2 hv; have := c1 v; omega)
 have KN : ∀ v ∈ g1, 0 ≤ v := fun v hv => nn v (by have : 0 < g1.count v := List.count_pos_iff.2 hv; have := c1 v; omega)
 split
 ·rename_i hh
  cases g1 with
  | nil => simp at hh
  | cons v l =>
   refine ⟨b1, fun a => ?_, fun _ => KN v (by simp), fun e => by cases e⟩
   have := c1 a
   simp only [List.drop_succ_cons, List.drop_zero, List.headD_cons]
   rw [iN (KN v (by simp))]
   simp only [List.count_cons, List.count_nil] at *
   omega
 ·split
  ·rename_i hh
   have hgp := IW p1
   have h0 : 0 ≤ q1.get.2 := by
    rcases hgp with ⟨e1, e2, _⟩ | ⟨_, h0⟩
    ·unfold nU at hh
     rw [e1, e2] at hh
     cases hh
    ·exact h0
   refine ⟨Oj b1, fun a => ?_, fun _ => h0, fun e => by cases e⟩
   have := c1 a
   have := IV q1 p1 a
   dsimp only
   omega
  ·rename_i hh
   have e1 : q1.next = -1 ∧ q1.l = [] := by
    unfold nU at hh
    simp only [Bool.or_eq_true, bne_iff_ne, ne_eq, Bool.not_eq_true', List.isEmpty_eq_false_iff, not_or, Decidable.not_not] at hh
    exact hh
   have eg : q1.get = (q1, -1) := by
    unfold Loc.get
    rw [if_neg (by rw [e1.1]; decide), e1.2]
   rw [eg]
   dsimp only
   have c2 := KG q1 g1 KN 0
   refine ⟨Ol b1 _ _, fun a => ?_, fun e => ?_, fun e => ?_⟩
   ·have := c1 a
    have := c2 a
    omega
   ·rcases B7 (x := q1) KN 0 with ⟨e2, _⟩ | ⟨_, h0⟩
    ·rw [e2] at e; cases e
    ·exact h0
   ·rcases B7 (x := q1) KN 0 with ⟨_, h0⟩ | ⟨e2, _⟩
    ·exact h0
    ·cases g1 with
     | nil => exact absurd rfl e2
     | cons v l => cases e
theorem SV.mono {N' : Nat} (h : SV p N x) (hn : N ≤ N') : SV p N' x :=
 ⟨h.w, h.one, h.zero, h.cP, h.cM, h.P1, h.M1, h.cS, h.room, fun pr hp => by have := h.dO pr hp; omega, h.ms, h.eN, by have := h.st; omega, by have := h.tk; omega, h.k⟩
theorem SV.inc (h : SV p (N + 1) y) (hs : 0 ≤ y.steps ∧ y.steps ≤ N) : SV p (N + 1) { y with steps := y.steps + 1 } :=
 ⟨h.w, h.one, h.zero, h.cP, h.cM, h.P1, h.M1, h.cS, h.room, h.dO, h.ms, h.eN, by dsimp only; omega, h.tk, h.k⟩
theorem SV.draw {d' : jz} (h : SV p N x) (hd : d'.taken.length ≤ 3 * N + 3) (hk : d'.k.Ok) : SV p (N + 1) { x with d := d' } :=
 ⟨h.w, h.one, h.zero, h.cP, h.cM, h.P1, h.M1, h.cS, h.room, fun pr hp => by have := h.dO pr hp; omega, h.ms, h.eN, by have := h.st; dsimp only; omega, by dsimp only; omega, hk⟩
theorem bG {l : List dm} {n : Nat} {b : dm} (h : n < l.length) : (l.set n b).getD n cY = b := by simp [List.getD_eq_getElem?_getD, List.getElem?_set_self h]
theorem getD_set_ne {l : List dm} {n j : Nat} {b : dm} (h : j ≠ n) : (l.set n b).getD j cY = l.getD j cY := by simp [List.getD_eq_getElem?_getD, List.getElem?_set_ne (Ne.symm h)]
theorem SV.hold {d' : jz} (h : SV p N x) (m0 : 0 ≤ m) (m1 : m < x.ms.length) (hm : (ax x m).p = -1) (hd : d'.taken.length ≤ 3 * N + 3) (hk : d'.k.Ok) : SV p (N + 1) (Sc.hold { x with d := d' } m).1 ∧ (Sc.hold { x with d := d' } m).1.steps = x.steps := by
 unfold Sc.hold
 dsimp only
 have jD := gA m0 m1
 split
 ·rename_i n hn
  obtain ⟨hlt, hb, _⟩ := List.findIdx?_eq_some_iff_getElem.1 hn
  have jC := mh (x := x) (i := (n : Int)) (by omega) (by omega)
  rw [Int.toNat_natCast] at jC
  have eb : (ay x (n : Int)).eN = -1 := by
   rw [List.getElem?_eq_getElem hlt, Option.some.injEq] at jC
   rw [← jC]; simpa using hb
  have z9 := h.ms _ (List.mem_of_getElem? jD)
  have hg : (ax x m).g = -1 ∧ (ax x m).left = 0 := by rcases z9 with e | e; exact e.2; omega
  refine ⟨?_, rfl⟩
  refine h.go (i := (n : Int)) m0 m1 (by omega) (by omega) (x.ps.set n { ay x (n : Int) with eN := m }) { ax x m with p := (n : Int) } x.gl d' (by simp) (fun pr hp => ?_) (fun j hj => ?_) (.inr ⟨rfl, ?_⟩) (.inr eb) (.inr ⟨by dsimp only; omega, by dsimp only; omega, by dsimp only; omega, by dsimp only; omega, by dsimp only; omega, by dsimp only; omega⟩) (fun a => ?_) hd hk
  ·rcases List.mem_or_eq_of_mem_set hp with hp | rfl
   ·exact ⟨h.room pr hp, by have := h.dO pr hp; omega⟩
   ·have hm := List.mem_of_getElem? jC
    exact ⟨h.room (ay x (n : Int)) hm, by have := h.dO _ hm; dsimp only; omega⟩
  ·rw [Int.toNat_natCast] at hj
   rw [getD_set_ne hj]
  ·rw [Int.toNat_natCast, bG hlt]
  ·have := qt (a := a) (SU := { ay x (n : Int) with eN := m }) jC
   dsimp only at *
   omega
 ·exact ⟨h.draw hd hk, rfl⟩
theorem SV.tick {d' : jz} (h : SV p N x) (hd : d'.taken.length ≤ 3 * N + 3) (hk : d'.k.Ok) : zI { x with d := d' } ∧ SV p (N + 1) (Sc.tick { x with d := d' }).1 ∧ (Sc.tick { x with d := d' }).1.steps = x.steps := by
 obtain ⟨t1, t2, t3, t4⟩ := Jh h.w
 have hg := h.Wo
 refine ⟨⟨by have := h.w.Jb; dsimp only; omega, t1, by dsimp only; omega⟩, ?_, rfl⟩
 unfold Sc.tick
 dsimp only
 obtain ⟨a1, l, a2, a3, a4, a5⟩ := t3
 rw [List.nil_append] at a2
 rw [a2]
 have hS : ∀ a, jP { x with w := x.w.tick, gl := x.gl ++ l, d := d' } a = jP x a + l.count a := fun a => by
  unfold jP; dsimp only; rw [List.count_append]; omega
 have hA : ∀ a, At x.w.tick a 1 ↔ At x.w a 1 ∨ a ∈ l := fun a => by
  constructor
  ·rintro ⟨b1, b2, b3⟩
   by_cases e : a ∈ l
   ·exact .inr e
   ·refine .inl ⟨b1, by rw [a1] at b2; exact b2, ?_⟩
    rw [a5 a b1 e] at b3; exact b3
  ·rintro (⟨b1, b2, b3⟩ | e)
   ·by_cases e : a ∈ l
    ·exact ⟨b1, by rw [a1]; exact b2, (a4 a e).2.2.2⟩
    ·exact ⟨b1, by rw [a1]; exact b2, by rw [a5 a b1 e]; exact b3⟩
   ·obtain ⟨c1, c2, c3, c4⟩ := a4 a e
    exact ⟨c1, by rw [a1]; exact c2, c4⟩
 have hn : ∀ a, a ∈ l → ¬ At x.w a 1 := fun a e hh => (a4 a e).2.2.1 hh.2.2
 refine ⟨t2, fun a ha => ?_, fun a ha => ?_, h.cP, h.cM, h.P1, h.M1, h.cS, h.room, fun pr hp => by have := h.dO pr hp; omega, h.ms, h.eN, by have := h.st; dsimp only; omega, by dsimp only; omega, hk⟩
 ·rw [hS]
  rcases (hA a).1 ha with e | e
  ·rw [h.one a e, List.count_eq_zero.2 (fun hm => hn a hm e)]
  ·rw [h.zero a (hn a e), Nat.le_antisymm (List.nodup_iff_count.1 a3 a) (List.count_pos_iff.2 e)]
 ·rw [hS, h.zero a (fun e => ha ((hA a).2 (.inl e))), List.count_eq_zero.2 (fun e => ha ((hA a).2 (.inr e)))]
end
section
variable {p : b7} {N : Nat} {x y z : Sc} {m i g a kind : Int}
theorem SV.be {fP : List dm} {Ay : List Int} {dz : jz} {t : Bool} (h : SV p N x) (m0 : 0 ≤ m) (m1 : m < x.ms.length) (hmp : (ax x m).p = i) (i0 : 0 ≤ i) (i1 : i < x.ps.length) (hg : (ax x m).g = -1)
  (hl : fP.length = x.ps.length) (hr : ∀ pr ∈ fP, RE pr.q ∧ 0 ≤ pr.turns ∧ pr.turns ≤ N) (hb : ∀ j : Nat, (fP.getD j cY).eN = (x.ps.getD j cY).eN)
  (hc : ∀ a, jO fP a + Ay.count a + (jy g).count a = jO x.ps a + x.gl.count a) (hok : t = true → 0 ≤ g) (hno : t = false → jy g = []) (hd : dz.taken.length ≤ 3 * N + 3) (hk : dz.k.Ok) :
  SV p (N + 1) (Sc.be { x with ps := fP, gl := Ay, d := dz } m i kind g t).1 ∧ (Sc.be { x with ps := fP, gl := Ay, d := dz } m i kind g t).1.steps = x.steps := by
 have jD := gA m0 m1
 have e0 : jy (ax x m).g = [] := by rw [hg]; rfl
 have hpi : fP[i.toNat]? = some (fP.getD i.toNat cY) := by
  rw [List.getD_eq_getElem?_getD, List.getElem?_eq_getElem (by omega)]; rfl
 have hmem := List.mem_of_getElem? hpi
 have hby : (x.ps.getD i.toNat cY).eN = m := by
  have := h.eN m.toNat (ax x m) jD (by rw [hmp]; omega)
  rw [hmp] at this
  show (ay x i).eN = m
  rw [this]; omega
 have ze : ∀ b : dm, b.q = (fP.getD i.toNat cY).q → ∀ a, jO (fP.set i.toNat b) a = jO fP a := fun b e a => by
  have := qt (a := a) (SU := b) hpi
  rw [e] at this
  omega
 unfold Sc.be
 cases t with
 | true =>
  rw [if_pos rfl]
  refine ⟨?_, rfl⟩
  have z9 := h.ms _ (List.mem_of_getElem? jD)
  refine h.go (i := i) m0 m1 i0 i1 (fP.set i.toNat { fP.getD i.toNat cY with turns := (fP.getD i.toNat cY).turns + 1 }) ⟨(ax x m).p, g, x.c.S⟩ Ay dz (by simp [hl]) (fun pr hp => ?_) (fun j hj => by rw [getD_set_ne hj]; exact hb j) (.inr ⟨hmp, ?_⟩) (.inl hmp) (.inr ⟨by dsimp only; omega, by dsimp only; omega, by dsimp only; have := hok rfl; omega, by have := h.cS; dsimp only; omega, by have := h.cS; dsimp only; omega, fun _ => by have := h.cS; dsimp only; omega⟩) (fun a => ?_) hd hk
  ·rcases List.mem_or_eq_of_mem_set hp with hp | rfl
   ·have := hr pr hp; exact ⟨this.1, by omega⟩
   ·have := hr _ hmem; exact ⟨this.1, by dsimp only; omega⟩
  ·rw [bG (by omega)]
   exact (hb _).trans hby
  ·rw [ze { fP.getD i.toNat cY with turns := (fP.getD i.toNat cY).turns + 1 } rfl, e0]
   have := hc a
   simp only [List.count_nil]
   omega
 | false =>
  rw [if_neg (by decide)]
  refine ⟨?_, rfl⟩
  refine h.go (i := i) m0 m1 i0 i1 (fP.set i.toNat { fP.getD i.toNat cY with eN := -1 }) ⟨-1, -1, 0⟩ Ay dz (by simp [hl]) (fun pr hp => ?_) (fun j hj => by rw [getD_set_ne hj]; exact hb j) (.inl rfl) (.inl hmp) (.inl ⟨rfl, rfl, rfl⟩) (fun a => ?_) hd hk
  ·rcases List.mem_or_eq_of_mem_set hp with hp | rfl
   ·have := hr pr hp; exact ⟨this.1, by omega⟩
   ·have := hr _ hmem; exact ⟨this.1, by dsimp only; omega⟩
  ·rw [ze { fP.getD i.toNat cY with eN := -1 } rfl, e0]
   have := hc a
   rw [hno rfl] at this
   simp only [List.count_nil] at *
   have e1 : jy (-1) = [] := rfl
   rw [e1, List.count_nil]
   omega
theorem va {d : jz} {k n : Int} (hk : d.k.Ok) : (d.draw k n).1.taken.length ≤ d.taken.length + 1 := by
 generalize jM : d.draw k n = r
 obtain ⟨d', o⟩ := r
 cases o with
 | num v =>
  have := (eF hk jM).2.2
  dsimp only
  rw [this]; simp
 | cT l =>
  have := (qo jM).1
  dsimp only
  rw [this]; omega
theorem SV.find {d' : jz} (h : SV p N x) (m0 : 0 ≤ m) (m1 : m < x.ms.length) (hp : (ax x m).p ≠ -1) (hg : (ax x m).g = -1) (hN : N ≤ 10000000) (hd : d'.taken.length ≤ 3 * N + 1) (hk : d'.k.Ok) :
  wu { x with d := d' } m ∧ SV p (N + 1) (Sc.find { x with d := d' } m).1 ∧ (Sc.find { x with d := d' } m).1.steps = x.steps := by
 have jD := gA m0 m1
 have z9 := h.ms _ (List.mem_of_getElem? jD)
 have hr : 0 ≤ (ax x m).p ∧ (ax x m).p < x.ps.length ∧ 0 ≤ (ax x m).left ∧ (ax x m).left ≤ 1024 := by
  rcases z9 with e | e
  ·exact absurd e.1 hp
  ·omega
 obtain ⟨i0, i1, l0, l1⟩ := hr
 have jC := mh i0 i1
 have S6 := List.mem_of_getElem? jC
 have ht := h.dO _ S6
 have hroom := h.room _ S6
 have hpos := h.OW S6
 have e0 : jy (ax x m).g = [] := by rw [hg]; rfl
 have hcP := h.cP
 have hP1 := h.P1
 refine ⟨⟨m0, m1, i0, i1, by have := h.Wo; dsimp only; omega, ht.1, by have := ht.2; show (ay x (ax x m).p).turns < 1000000000; omega, by dsimp only; omega, by dsimp only; omega, by dsimp only; omega⟩, ?_⟩
 have own := Ji (t := (ay x (ax x m).p).turns) hpos hroom h.S5
 unfold Sc.find
 dsimp only
 have em : ax { x with d := d' } m = ax x m := rfl
 have ep : ∀ j, ay { x with d := d' } j = ay x j := fun _ => rfl
 rw [em]
 simp only [ep]
 generalize hi : (ax x m).p = i at *
 have ze : ∀ b : dm, ∀ a, jO (x.ps.set i.toNat b) a + (ay x i).q.all.count a = jO x.ps a + b.q.all.count a := fun b a => qt jC
 split
 ·rename_i hn
  refine ⟨?_, rfl⟩
  have hgp := IW hpos
  have h0 : 0 ≤ (ay x i).q.get.2 := by
   rcases hgp with ⟨e1, _⟩ | ⟨_, h0⟩
   ·exact absurd e1 hn.2
   ·exact h0
  have hby : (ay x i).eN = m := by
   have := h.eN m.toNat (ax x m) jD (by rw [hi]; omega)
   rw [hi] at this
   rw [this]; omega
  refine h.go (i := i) m0 m1 i0 i1 (x.ps.set i.toNat { ay x i with q := (ay x i).q.get.1 }) ⟨i, (ay x i).q.get.2, (ax x m).left⟩ x.gl d' (by simp) (fun pr hp => ?_) (fun j hj => by rw [getD_set_ne hj]) (.inr ⟨rfl, by rw [bG (by omega)]; exact hby⟩) (.inl hi) (.inr ⟨by dsimp only; omega, by dsimp only; omega, by dsimp only; omega, l0, l1, fun _ => by have := hn.1; dsimp only; omega⟩) (fun a => ?_) (by omega) hk
  ·rcases List.mem_or_eq_of_mem_set hp with hp | rfl
   ·exact ⟨h.room pr hp, by have := h.dO pr hp; omega⟩
   ·exact ⟨Oj hroom, by dsimp only; omega⟩
  ·have a1 := ze { ay x i with q := (ay x i).q.get.1 } a
   have a2 := IV _ hpos a
   rw [e0]
   simp only [List.count_nil] at *
   try dsimp only at *
   omega
 ·
  have hown : Sc.own { x with d := d' } i = ({ x with ps := x.ps.set i.toNat { ay x i with q := (fY (ay x i).q (ay x i).turns x.gl).1 }, gl := (fY (ay x i).q (ay x i).turns x.gl).2.1, d := d' }, (fY (ay x i).q (ay x i).turns x.gl).2.2.1, (fY (ay x i).q (ay x i).turns x.gl).2.2.2) := rfl
  rw [hown]
  generalize fY (ay x i).q (ay x i).turns x.gl = r at own
  obtain ⟨q1, g1, v1, has⟩ := r
  obtain ⟨o1, o2, o3, o4⟩ := own
  dsimp only at o1 o2 o3 o4 ⊢
  have Wp : ∀ pr ∈ x.ps.set i.toNat { ay x i with q := q1 }, RE pr.q ∧ 0 ≤ pr.turns ∧ pr.turns ≤ N := fun pr hp => by
   rcases List.mem_or_eq_of_mem_set hp with hp | rfl
   ·exact ⟨h.room pr hp, h.dO pr hp⟩
   ·exact ⟨o1, ht⟩
  have RH : ∀ j : Nat, ((x.ps.set i.toNat { ay x i with q := q1 }).getD j cY).eN = (x.ps.getD j cY).eN := fun j => by
   by_cases e : j = i.toNat
   ·subst e
    rw [bG (by omega)]
    rfl
   ·rw [getD_set_ne e]
  have Zw : ∀ a, jO (x.ps.set i.toNat { ay x i with q := q1 }) a + g1.count a + (jy v1).count a = jO x.ps a + x.gl.count a := fun a => by
   have a1 := ze { ay x i with q := q1 } a
   have a2 := o2 a
   dsimp only at *
   omega
  split
  ·rename_i hh
   have ev1 : jy v1 = [] := by rw [o4 hh.1]; rfl
   have CN := va (k := 2) (n := x.c.P) hk
   have zN := lP (kind := 2) (n := x.c.P) hk
   split
   ·rename_i d2 l jM
    rw [jM] at CN zN
    refine ⟨?_, rfl⟩
    have : SV p (N + 1) { x with ps := x.ps.set i.toNat { ay x i with q := q1 }, ms := x.ms.set m.toNat (ax x m), gl := g1, d := d2 } :=
     h.go (i := i) m0 m1 i0 i1 _ (ax x m) g1 d2 (by simp) (fun pr hp => by have := Wp pr hp; exact ⟨this.1, by omega⟩) (fun j hj => RH j) (.inr ⟨hi, by
      rw [RH]
      have := h.eN m.toNat (ax x m) jD (by rw [hi]; omega)
      rw [hi] at this
      show (ay x i).eN = m
      rw [this]; omega⟩) (.inl hi) z9 (fun a => by have := Zw a; rw [ev1] at this; simp only [List.count_nil] at this; exact congrArg (· + (jy (ax x m).g).count a) this) (by dsimp only at CN; omega) zN
    rw [eA _ _ _ jD] at this
    exact this
   ·rename_i d2 v jM
    rw [jM] at CN zN
    have PM := eF hk jM
    have To : gU x.c.P = x.c.P := by unfold gU; rw [if_neg (by omega)]
    rw [To] at PM
    dsimp only at CN zN ⊢
    split
    ·exact h.be (g := -1) m0 m1 hi i0 i1 hg (by simp) Wp RH (fun a => by have := Zw a; rw [ev1] at this; exact this) (fun e => by cases e) (fun _ => rfl) (by omega) zN
    ·rename_i ZE
     have hne : v.toNat ≠ i.toNat := by omega
     have epi : ay { x with ps := x.ps.set i.toNat { ay x i with q := q1 }, gl := g1, d := d2 } i = { ay x i with q := q1 } := bG (by omega)
     have epv : ay { x with ps := x.ps.set i.toNat { ay x i with q := q1 }, gl := g1, d := d2 } v = ay x v := getD_set_ne hne
     have HE := mh (x := x) (i := v) PM.1 (by omega)
     have S7 := List.mem_of_getElem? HE
     have OX := h.OW S7
     have HL := h.room _ S7
     have hst := KH q1 (ay x v).q OX o1.1
     have hsb := Om o1 HL
     have hsp := B8 (x := q1) OX o1.1
     rw [epi, epv]
     dsimp only
     generalize q1.c9 (ay x v).q = s at hst hsb hsp
     obtain ⟨s1, s2, s3⟩ := s
     dsimp only at hst hsb hsp ⊢
     have hz : Sc.bT (Sc.bT { x with ps := x.ps.set i.toNat { ay x i with q := q1 }, gl := g1, d := d2 } i { ay x i with q := s1 }) v { ay x v with q := s2 } = { x with ps := (x.ps.set i.toNat { ay x i with q := s1 }).set v.toNat { ay x v with q := s2 }, gl := g1, d := d2 } := by
      unfold Sc.bT
      dsimp only
      rw [List.set_set]
     rw [hz]
     refine h.be (g := s3) m0 m1 hi i0 i1 hg (by simp) (fun pr hp => ?_) (fun j => ?_) (fun a => ?_) (fun e => ?_) (fun e => ?_) (by omega) zN
     ·rcases List.mem_or_eq_of_mem_set hp with hp | rfl
      ·rcases List.mem_or_eq_of_mem_set hp with hp | rfl
       ·exact ⟨h.room pr hp, h.dO pr hp⟩
       ·exact ⟨hsb.1, ht⟩
      ·exact ⟨hsb.2, h.dO (ay x v) S7⟩
     ·by_cases e : j = v.toNat
      ·subst e
       rw [bG (by simp; omega)]
       rfl
      ·rw [getD_set_ne e]
       by_cases e2 : j = i.toNat
       ·subst e2
        rw [bG (by omega)]
        rfl
       ·rw [getD_set_ne e2]
     ·have a1 := ze { ay x i with q := s1 } a
      have a2 := qt (ps := x.ps.set i.toNat { ay x i with q := s1 }) (a := a) (SU := { ay x v with q := s2 }) (j := v.toNat) (pr := ay x v) (by rw [List.getElem?_set_ne (Ne.symm hne)]; exact HE)
      have a3 := hst a
      have a4 := o2 a
      rw [ev1] at a4
      simp only [List.count_nil] at a4
      dsimp only at *
      omega
     ·unfold fO at e
      rcases hsp with ⟨e1, e2⟩ | ⟨_, e2⟩
      ·rw [e1] at e
       have h1 := OX.1
       simp at e
       omega
      ·exact e2
     ·unfold fO at e
      simp only [Bool.or_eq_false_iff, bne_eq_false_iff_eq] at e
      rw [e.1]; rfl
  ·rename_i hh
   exact h.be (g := v1) m0 m1 hi i0 i1 hg (by simp) Wp RH Zw o3 (fun e => by rw [o4 e]; rfl) (by omega) hk
end
section
variable {p : b7} {N : Nat} {x y z : Sc} {m i g a kind : Int}
theorem wC : ∀ (l : List Int) (z : Sc), 0 ≤ (ax z m).p → (ax z m).p < z.ps.length → (∀ v ∈ l, 0 ≤ v) → (∀ pr ∈ z.ps, RE pr.q) →
  (∀ a, jO (l.foldl (aE m) z).ps a + (l.foldl (aE m) z).gl.count a = jO z.ps a + z.gl.count a + l.count a) ∧
  (∀ pr ∈ (l.foldl (aE m) z).ps, RE pr.q) ∧ (∀ j : Nat, ((l.foldl (aE m) z).ps.getD j cY).eN = (z.ps.getD j cY).eN ∧ ((l.foldl (aE m) z).ps.getD j cY).turns = (z.ps.getD j cY).turns)
 | [], z, _, _, _, hr => ⟨fun a => by simp, hr, fun j => ⟨rfl, rfl⟩⟩
 | r :: l, z, h0, h1, hv, hr => by
  have jC := mh (x := z) h0 h1
  have hps : (aE m z r).ps.length = z.ps.length := by simp [aE, Sc.bT]
  have jD : ax (aE m z r) m = ax z m := rfl
  have ZU := hr _ (List.mem_of_getElem? jC)
  have Oq : ∀ pr ∈ (aE m z r).ps, RE pr.q := fun pr hp => by
   rcases List.mem_or_eq_of_mem_set hp with hp | rfl
   ·exact hr pr hp
   ·exact Oi ZU _ _
  obtain ⟨a1, a2, a3⟩ := wC l (aE m z r) (by rw [jD]; exact h0) (by rw [jD, hps]; exact h1) (fun v hm => hv v (List.mem_cons_of_mem _ hm)) Oq
  rw [List.foldl_cons]
  refine ⟨fun a => ?_, a2, fun j => ?_⟩
  ·have b1 := a1 a
   have b2 := KF (ay z (ax z m).p).q r (by have := hv r (by simp); omega) z.gl a
   have b3 := qt (a := a) (SU := { ay z (ax z m).p with q := ((ay z (ax z m).p).q.ready r z.gl).1 }) jC
   have b4 : jO (aE m z r).ps a = jO (z.ps.set (ax z m).p.toNat { ay z (ax z m).p with q := ((ay z (ax z m).p).q.ready r z.gl).1 }) a := rfl
   have b5 : (aE m z r).gl = ((ay z (ax z m).p).q.ready r z.gl).2.1 := rfl
   rw [b4, b5] at b1
   simp only [List.count_cons, List.count_nil] at *
   try dsimp only at *
   omega
  ·obtain ⟨c1, c2⟩ := a3 j
   rw [c1, c2]
   show ((z.ps.set (ax z m).p.toNat _).getD j cY).eN = _ ∧ ((z.ps.set (ax z m).p.toNat _).getD j cY).turns = _
   by_cases e : j = (ax z m).p.toNat
   ·subst e
    rw [bG (by omega)]
    exact ⟨rfl, rfl⟩
   ·rw [getD_set_ne e]
    exact ⟨rfl, rfl⟩
theorem RI {w y : Wd} (hy : WV p y) (h : hU g w y) : y.ready.length ≤ 100 := by
 have h1 := nV (b := 1) y.gs.length y.ready (fun v hv => ⟨(h.2.2.1 v hv).1, (h.2.2.1 v hv).2.1⟩) (fun v => List.nodup_iff_count.1 h.1 v)
 have := hy.n2
 omega
theorem Wq {w y : Wd} (h : hU g w y) (h0 : 0 ≤ g) (hg : g < w.gs.length) : (At y a 1 ↔ (a = g ∧ (aj y g).st = 1) ∨ a ∈ y.ready ∨ (a ≠ g ∧ At w a 1)) := by
 obtain ⟨_, a2, a3, a4, a5, a6⟩ := h
 constructor
 ·rintro ⟨b1, b2, b3⟩
  by_cases e : a = g
  ·exact .inl ⟨e, by rw [← e]; exact b3⟩
  ·by_cases er : a ∈ y.ready
   ·exact .inr (.inl er)
   ·refine .inr (.inr ⟨e, b1, ?_, by rw [← a4 a b1 e er]; exact b3⟩)
    by_cases hl : a < w.gs.length
    ·exact hl
    ·exact absurd (a6 a (by omega) b2) er
 ·rintro (⟨rfl, e⟩ | e | ⟨e, b1, b2, b3⟩)
  ·exact ⟨h0, by omega, e⟩
  ·exact ⟨(a3 a e).1, (a3 a e).2.1, (a3 a e).2.2.2⟩
  ·by_cases er : a ∈ y.ready
   ·exact ⟨(a3 a er).1, (a3 a er).2.1, (a3 a er).2.2.2⟩
   ·exact ⟨b1, by omega, by rw [a4 a b1 e er]; exact b3⟩
theorem SV.fk {d' : jz} {y : Wd} {rest : Bool} (h : SV p N x) (m0 : 0 ≤ m) (m1 : m < x.ms.length) (hp : (ax x m).p ≠ -1) (hg : 0 ≤ (ax x m).g) (hy : WV p y) (hr : hU (ax x m).g { x.w with ready := [] } y)
  (hd : d'.taken.length ≤ 3 * N + 3) (hk : d'.k.Ok) {d0 : jz} : ∃ z o, fk { x with d := d0 } m (ax x m).g d' y rest = some (z, o) ∧ SV p (N + 1) z ∧ z.steps = x.steps := by
 have jD := gA m0 m1
 have Gm := List.mem_of_getElem? jD
 have z9 := h.ms _ Gm
 have Fo := h.mg Gm hg
 have hbd : 0 ≤ (ax x m).p ∧ (ax x m).p < x.ps.length ∧ 1 ≤ (ax x m).left ∧ (ax x m).left ≤ 1024 := by
  rcases z9 with e | e
  ·exact absurd e.1 hp
  ·have := e.2.2.2.2.2 hg; omega
 obtain ⟨i0, i1, l0, l1⟩ := hbd
 have jR := RI hy hr
 have hglt : (ax x m).g < y.gs.length := by have := hr.2.2.2.2.1; have := Fo.2.1; dsimp only at *; omega
 unfold Proofs.fk
 rw [if_pos ⟨by omega, hglt⟩]
 have f1 := fE (m := m) y.ready { x with w := y, d := d' } i0 i1
 have f2 := wC (m := m) y.ready { x with w := y, d := d' } i0 i1 (fun v hv => (hr.2.2.1 v hv).1) h.room
 (try dsimp only at f1 f2 ⊢)
 generalize List.foldl (aE m) { x with w := y, d := d' } y.ready = z at f1 f2
 obtain ⟨z1, z2, z3, z4, z5, z6, _⟩ := f1
 obtain ⟨c1, c2, c3⟩ := f2
 have ZV := fun a => Wq (a := a) hr hg Fo.2.1
 have S8 : ∀ a, a ∈ y.ready → ¬ At x.w a 1 ∧ a ≠ (ax x m).g ∧ y.ready.count a = 1 := fun a ha =>
  ⟨(hr.2.2.1 a ha).2.2.1, fun e => hr.2.1 (e ▸ ha), Nat.le_antisymm (List.nodup_iff_count.1 hr.1 a) (List.count_pos_iff.2 ha)⟩
 have ZW : ∀ pr ∈ z.ps, 0 ≤ pr.turns ∧ pr.turns ≤ N := fun pr jC => by
  obtain ⟨j, hj, e⟩ := List.getElem_of_mem jC
  have e2 : z.ps.getD j cY = pr := by rw [List.getD_eq_getElem?_getD, List.getElem?_eq_getElem hj, e]; rfl
  have Gf : j < x.ps.length := by omega
  have e3 : x.ps.getD j cY = x.ps[j] := by rw [List.getD_eq_getElem?_getD, List.getElem?_eq_getElem Gf]; rfl
  have := (c3 j).2
  rw [e2, e3] at this
  rw [this]
  exact h.dO _ (List.getElem_mem Gf)
 have done : ∀ (lT : uZ) (Dq : List Int), lT.p = (ax x m).p → 0 ≤ lT.left → lT.left ≤ 1024 → -1 ≤ lT.g → (0 ≤ lT.g → 1 ≤ lT.left) →
   (∀ a, Dq.count a + (jy lT.g).count a = z.gl.count a + (if (aj y (ax x m).g).st = 1 then [(ax x m).g].count a else 0)) →
   SV p (N + 1) { z with ms := z.ms.set m.toNat lT, gl := Dq } := by
  intro lT Dq e1 e2 e3 e4 e5 e6
  have hS : ∀ a, jP { z with ms := z.ms.set m.toNat lT, gl := Dq } a + [(ax x m).g].count a = jP x a + y.ready.count a + (if (aj y (ax x m).g).st = 1 then [(ax x m).g].count a else 0) := fun a => by
   have q1 := z8 (a := a) (lT := lT) jD
   have q2 := c1 a
   have q3 := e6 a
   rw [iN hg] at q1
   unfold jP
   (try dsimp only)
   rw [z1]
   (try dsimp only at q2)
   omega
  have hwz : z.w = y := z3
  refine ⟨by (try dsimp only); rw [hwz]; exact hy, fun a ha => ?_, fun a ha => ?_, by (try dsimp only); rw [z5, z2]; exact h.cP, by (try dsimp only); rw [z5, z1]; simpa using h.cM, by (try dsimp only); rw [z2]; exact h.P1, by (try dsimp only); rw [z1]; simpa using h.M1, by (try dsimp only); rw [z5]; exact h.cS, c2, fun pr jC => by have := ZW pr jC; omega, fun mc OY => ?_, fun j mc hj hne => ?_, by have := h.st; (try dsimp only); rw [z6]; (try dsimp only); omega, by (try dsimp only); rw [z4]; (try dsimp only); omega, by (try dsimp only); rw [z4]; exact hk⟩
  ·(try dsimp only at ha)
   rw [hwz] at ha
   have hs := hS a
   rcases (ZV a).1 ha with ⟨e, es⟩ | e | ⟨e, ew⟩
   ·subst e
    have n1 : y.ready.count (ax x m).g = 0 := List.count_eq_zero.2 hr.2.1
    have n2 := h.one _ Fo
    rw [if_pos es] at hs
    omega
   ·obtain ⟨w1, w2, w3⟩ := S8 a e
    have n2 := h.zero a w1
    have n3 : [(ax x m).g].count a = 0 := List.count_eq_zero.2 (by simpa using w2)
    rw [n3] at hs
    have : (if (aj y (ax x m).g).st = 1 then 0 else 0) = 0 := by split <;> rfl
    omega
   ·have n3 : [(ax x m).g].count a = 0 := List.count_eq_zero.2 (by simpa using e)
    have n2 := h.one a ew
    have n1 : y.ready.count a = 0 := List.count_eq_zero.2 (fun e2 => (S8 a e2).1 ew)
    rw [n3] at hs
    have : (if (aj y (ax x m).g).st = 1 then 0 else 0) = 0 := by split <;> rfl
    omega
  ·(try dsimp only at ha)
   rw [hwz] at ha
   have hs := hS a
   have hn := fun e => ha ((ZV a).2 e)
   by_cases e : a = (ax x m).g
   ·subst e
    have n1 : y.ready.count (ax x m).g = 0 := List.count_eq_zero.2 hr.2.1
    have n2 := h.one _ Fo
    have n3 : [(ax x m).g].count (ax x m).g = 1 := by simp
    rw [if_neg (fun es => hn (.inl ⟨rfl, es⟩))] at hs
    omega
   ·have n3 : [(ax x m).g].count a = 0 := List.count_eq_zero.2 (by simpa using e)
    have n2 := h.zero a (fun ew => hn (.inr (.inr ⟨e, ew⟩)))
    have n1 : y.ready.count a = 0 := List.count_eq_zero.2 (fun e2 => hn (.inr (.inl e2)))
    rw [n3] at hs
    have : (if (aj y (ax x m).g).st = 1 then 0 else 0) = 0 := by split <;> rfl
    omega
  ·(try dsimp only at OY ⊢)
   rw [z2]
   rw [z1] at OY
   rcases jo OY with OY | rfl
   ·exact h.ms mc OY
   ·exact .inr ⟨by omega, by (try dsimp only); omega, e4, e2, e3, e5⟩
  ·(try dsimp only at hj)
   rw [z1] at hj
   show (z.ps.getD mc.p.toNat cY).eN = _
   rw [(c3 _).1]
   by_cases e : j = m.toNat
   ·subst e
    rw [List.getElem?_set_self (by (try dsimp only); omega)] at hj
    simp only [Option.some.injEq] at hj
    subst hj
    rw [e1]
    exact h.eN m.toNat _ jD hp
   ·rw [List.getElem?_set_ne (Ne.symm e)] at hj
    exact h.eN j mc hj hne
 have hzm : ax z m = ax x m := by unfold ax; rw [z1]
 have hzs : z.steps = x.steps := z6
 unfold Sc.gM
 rw [hzm]
 split
 ·rename_i hkp
  refine ⟨_, _, rfl, ?_, hzs⟩
  have hst : (aj y (ax x m).g).st = 1 := by
   have := hkp.1
   unfold g9 at this
   simp only [Bool.and_eq_true, beq_iff_eq] at this
   exact this.2
  exact done { ax x m with left := (ax x m).left - 1 } z.gl rfl (by (try dsimp only); omega) (by (try dsimp only); omega) (by (try dsimp only); omega) (fun _ => by (try dsimp only); omega) (fun a => by rw [if_pos hst]; (try dsimp only); rw [iN hg])
 ·refine ⟨_, _, rfl, ?_, hzs⟩
  refine done { ax x m with left := (ax x m).left - 1, g := -1 } _ rfl (by (try dsimp only); omega) (by (try dsimp only); omega) (by (try dsimp only); omega) (fun e => by (try dsimp only at e); omega) (fun a => ?_)
  have e1 : jy (-1) = [] := rfl
  (try dsimp only)
  rw [e1, z3]
  split
  ·rw [List.count_append]; simp
  ·simp
end
section
variable {p : b7} {N : Nat} {x y z : Sc} {m i g a kind : Int}
theorem SV.OZ (h : SV p N x) {r : List Int} {d' : jz} (hd : d'.taken.length ≤ 3 * N + 3) (hk : d'.k.Ok) : SV p (N + 1) { x with w := { x.w with ready := r }, d := d' } :=
 ⟨h.w.ready, h.one, h.zero, h.cP, h.cM, h.P1, h.M1, h.cS, h.room, fun pr hp => by have := h.dO pr hp; omega, h.ms, h.eN, by have := h.st; dsimp only; omega, by dsimp only; omega, hk⟩
theorem SV.run {d' : jz} (h : SV p N x) (hp : dn p) (m0 : 0 ≤ m) (m1 : m < x.ms.length) (hmp : (ax x m).p ≠ -1) (hg : (ax x m).g ≠ -1) (hN : N ≤ 1000000) (hd : d'.taken.length ≤ 3 * N + 1) (hk : d'.k.Ok) :
  ∃ z o, Sc.run p { x with d := d' } m = some (z, o) ∧ SV p (N + 1) z ∧ z.steps = x.steps := by
 have jD := gA m0 m1
 have Gm := List.mem_of_getElem? jD
 have z9 := h.ms _ Gm
 have hbd : 0 ≤ (ax x m).p ∧ (ax x m).p < x.ps.length ∧ 0 ≤ (ax x m).g ∧ 1 ≤ (ax x m).left ∧ (ax x m).left ≤ 1024 := by
  rcases z9 with e | e
  ·exact absurd e.1 hmp
  ·have := e.2.2.2.2.2; omega
 obtain ⟨i0, i1, g0, l0, l1⟩ := hbd
 have Fo := h.mg Gm g0
 unfold Sc.run
 have em : ax { x with d := d' } m = ax x m := rfl
 rw [em]
 rw [if_pos (show wv p { x with d := d' } m from ⟨m0, m1, i0, i1, by have := h.Wo; dsimp only; omega, by dsimp only; omega, l0, by show (ax x m).left < 1000000000; omega, g0⟩)]
 dsimp only
 generalize jL : asks p { x.w with ready := [] } (ax x m).g = ak
 have hbk : ∀ k n, ak = some (k, n) → 1 ≤ n ∧ n < 1099511627776 := fun k n e => Dw hp (by rw [jL]; exact e)
 rw [if_pos (show S0 ak = true from by
  cases ak with
  | none => rfl
  | some kn => obtain ⟨k, n⟩ := kn; have := hbk k n rfl; exact decide_eq_true (by omega))]
 have Bd : ∀ d2 dr, dh d' ak = (d2, dr) → d2.k.Ok ∧ d2.taken.length ≤ 3 * N + 2 ∧ (∀ v kd n, dr = .num v → ak = some (kd, n) → 0 ≤ v ∧ v < n) := by
  intro d2 dr e
  cases ak with
  | none =>
   unfold dh at e
   cases e
   exact ⟨hk, by omega, fun v kd n _ e => by cases e⟩
  | some kn =>
   obtain ⟨k, n⟩ := kn
   unfold dh at e
   dsimp only at e
   have a1 := lP (kind := k) (n := n) hk
   have a2 := va (k := k) (n := n) hk
   rw [e] at a1 a2
   dsimp only at a1 a2
   refine ⟨a1, by omega, fun v kd n' e1 e2 => ?_⟩
   subst e1
   cases e2
   have := eF hk e
   have hb := hbk _ _ rfl
   rw [show gU n = n from by unfold gU; rw [if_neg (by omega)]] at this
   exact ⟨this.1, this.2.1⟩
 generalize jM : dh d' ak = dd at Bd
 obtain ⟨d2, dr⟩ := dd
 obtain ⟨k2, t2, v2⟩ := Bd d2 dr rfl
 dsimp only
 obtain ⟨r, rest, hex, hres⟩ := zZ (d := dr) h.w hp g0 (fun v kd n e1 e2 => v2 v kd n e1 (by rw [← jL]; exact e2))
 rw [hex]
 rcases hres with ⟨hres, _⟩ | ⟨l, e1, e2, _⟩
 ·cases r with
  | on y => exact h.fk m0 m1 hmp g0 hres.1 hres.2 (by omega) k2
  | eC n y => exact h.fk (y := { y with end_ := 2, code := n }) m0 m1 hmp g0 (hres.1.fin (e := 2) (c := n)) (hres.2.Jf rfl rfl fun _ _ _ => rfl) (by omega) k2
  | cT l y => exact hres.elim
 ·subst e2
  exact ⟨_, _, rfl, h.OZ (by omega) k2, rfl⟩
theorem SV.step (h : SV p N x) (hp : dn p) (hN : N ≤ 1000000) : ∃ y o, x.step p = some (y, o) ∧ SV p (N + 1) y := by
 have hst := h.st
 have Rp := h.tk
 have hM := h.cM
 have hM1 := h.M1
 have hP1 := h.P1
 unfold Sc.step
 rw [if_pos (show ye x from ⟨by have := h.w.n2; omega, hM, by omega, by omega, by omega, hst.1, by omega⟩)]
 split
 ·exact ⟨_, _, rfl, h.mono (by omega)⟩
 ·rename_i hs
  have CN := va (k := 1) (n := x.c.M + 1) h.k
  have zN := lP (kind := 1) (n := x.c.M + 1) h.k
  split
  ·rename_i d' l jM
   rw [jM] at CN zN
   dsimp only at CN zN
   exact ⟨_, _, rfl, h.draw (by omega) zN⟩
  ·rename_i d' m jM
   rw [jM] at CN zN
   dsimp only at CN zN
   have hv := eF h.k jM
   rw [show gU (x.c.M + 1) = x.c.M + 1 from by unfold gU; rw [if_neg (by omega)]] at hv
   obtain ⟨m0, mM, _⟩ := hv
   have fin : ∀ z o, SV p (N + 1) z → z.steps = x.steps → ∃ y o', Option.map hJ (some (z, o)) = some (y, o') ∧ SV p (N + 1) y := fun z o hz hzs => by
    cases o with
    | ev e => exact ⟨_, _, rfl, hz.inc (by rw [hzs]; exact hst)⟩
    | cT l => exact ⟨_, _, rfl, hz⟩
   unfold Sc.act
   dsimp only
   split
   ·obtain ⟨t1, t2, t3⟩ := h.tick (d' := d') (by omega) zN
    rw [if_pos t1]
    exact fin _ _ t2 t3
   ·rename_i hmM
    have m1 : m < x.ms.length := by omega
    have em : ax { x with d := d' } m = ax x m := rfl
    rw [em]
    split
    ·rename_i hmp
     obtain ⟨t2, t3⟩ := h.hold (d' := d') m0 m1 hmp (by omega) zN
     exact fin _ _ t2 t3
    ·rename_i hmp
     split
     ·rename_i PN
      obtain ⟨t1, t2, t3⟩ := h.find (d' := d') m0 m1 hmp PN (by omega) (by omega) zN
      rw [if_pos t1]
      exact fin _ _ t2 t3
     ·rename_i PN
      obtain ⟨z, o, t1, t2, t3⟩ := h.run (d' := d') hp m0 m1 hmp PN hN (by omega) zN
      rw [t1]
      exact fin _ _ t2 t3
theorem SV.new {c : OB} {d : jz} (hp : dn p) (hP : 1 ≤ c.P ∧ c.P ≤ 64) (hM : 1 ≤ c.M ∧ c.M ≤ 64) (hS : 1 ≤ c.S ∧ c.S ≤ 1024) (hd : d.taken = []) (hk : d.k.Ok) : SV p 0 (Sc.new p c d) := by
 have hw := Wn hp
 have hA : ∀ a, At (Wd.new p) a 1 ↔ a = 0 := fun a => by
  constructor
  ·rintro ⟨b1, b2, _⟩
   simp [Wd.new] at b2
   omega
  ·rintro rfl
   exact ⟨by decide, by simp [Wd.new], rfl⟩
 have hQ : ∀ a, jO (List.replicate c.P.toNat ⟨⟨-1, fN c.R, []⟩, 0, -1⟩) a = 0 := fun a => by
  unfold jO
  rw [List.count_eq_zero]
  intro hm
  obtain ⟨q, hq, h2⟩ := List.mem_flatMap.1 hm
  obtain ⟨pr, jC, rfl⟩ := List.mem_map.1 hq
  rw [List.eq_of_mem_replicate jC] at h2
  simp [Loc.all] at h2
 have hMm : ∀ a, Bh (List.replicate c.M.toNat ⟨-1, -1, 0⟩) a = 0 := fun a => by
  unfold Bh
  rw [List.count_eq_zero]
  intro hm
  obtain ⟨q, hq, h2⟩ := List.mem_flatMap.1 hm
  rw [List.eq_of_mem_replicate hq] at h2
  simp [jy] at h2
 have hC : ∀ a, jP (Sc.new p c d) a = [(0 : Int)].count a := fun a => by
  unfold jP Sc.new
  dsimp only
  rw [hQ, hMm]; omega
 have cap := IQ c.R
 refine ⟨hw, fun a ha => ?_, fun a ha => ?_, by simp [Sc.new]; omega, by simp [Sc.new]; omega, by simp [Sc.new]; omega, by simp [Sc.new]; omega, hS, fun pr jC => ?_, fun pr jC => ?_, fun mc jD => ?_, fun j mc hj hne => ?_, by simp [Sc.new], by simp [Sc.new, hd], hk⟩
 ·rw [hC, (hA a).1 ha]; rfl
 ·rw [hC]
  exact List.count_eq_zero.2 (fun e => ha ((hA a).2 (by simpa using e)))
 ·rw [List.eq_of_mem_replicate jC]
  exact ⟨by simp, cap.2, cap.1⟩
 ·rw [List.eq_of_mem_replicate jC]
  simp
 ·rw [List.eq_of_mem_replicate jD]
  exact .inl ⟨rfl, rfl, rfl⟩
 ·have := List.eq_of_mem_replicate (List.mem_of_getElem? hj)
  rw [this] at hne
  exact absurd rfl hne
end
theorem O0 : bn Tryz.prog 248 4 1 1 [.bool false] := bn.mk' (zv := .bool false) (by kernel_rfl) (by kernel_rfl) rfl (by omega)
section
variable {R : Mem} {L L' : List HP} {M : Mem} {K : Value → Mem → Prop} {Kp : List PanicEntry → Mem → Prop}
theorem xd {B : Option Addr} {n c : Nat} {x : Int} {l : List (Int × Int)} (h : Hp R L M) (hB : Src R L B (Dl.cells l)) (hn : n = l.length) (hs : l.length ≤ 1000000) (hx : x ≤ 1000000) (hp : ∀ r ∈ l, 0 ≤ r.2)
  (k : ∀ M', Hp R L M' → K (.int .i64 (sI x.toNat l)) M') : aa Tryz.prog 75 #[.slice B n c, .int .i64 x] M K Kp := by
 subst hn
 refine y9 ?_
 have e0 : (if (0 : Int) > x then 0 else x) = ((x.toNat : Nat) : Int) := by split <;> omega
 rw [e0]
 have hm : x.toNat ≤ 1000000 := by omega
 generalize x.toNat = m at *
 refine h.xP (E := bB) (a := 0) pG (by omega) ?_
 clear h
 intro kl M h
 repeat (first|(refine aq h ?_;clear h;intro kb M h)|(refine au h ?_;clear h;intro M h)|refine St.to h ?_|(apply Exists.intro;(repeat apply Exists.intro);refine And.intro rfl ?_)|refine av ?_|refine ae ?_|refine ai ?_)
 rw [N6] at h
 refine ⟨fun d vs M => ∃ i : Nat, vs = [.int .i64 (i : Int)] ∧ d = m - i ∧ i ≤ m ∧ Hp R (bR bB 3 (some ⟨kl, 0, none⟩) m ((List.range m).map fun j => if j < i then -1 else 0) :: L) M,
  ⟨_, 0, rfl, rfl, by omega, by simpa using h⟩, ?_⟩
 clear h
 rintro d _ ii M ⟨i, he, hd, hi, h⟩
 simp only [List.cons.injEq, Value.int.injEq, and_true, true_and] at he
 subst he
 refine aM.2 ⟨fun hlt => ?_, fun hge => ?_⟩
 ·repeat (first|(refine aq h ?_;clear h;intro kb M h)|(refine au h ?_;clear h;intro M h)|refine St.to h ?_|(apply Exists.intro;(repeat apply Exists.intro);refine And.intro rfl ?_)|refine av ?_|refine ae ?_|refine ai ?_)
  refine gH (a' := -1) i 0 h (BR (by omega)) (by decide) rfl (by simp [bB]) ?_
  clear h; intro M h
  rw [aV (by omega)]
  refine ⟨m - (i + 1), by omega, i + 1, rfl, rfl, by omega, ?_⟩
  rw [GX, EJ (g := fun j => if j < i + 1 then -1 else 0)] at h
  ·exact h
  ·intro j _
   by_cases h1 : j = i
   ·subst h1; simp
   ·simp only [h1, if_false]
    by_cases h2 : j < i
    ·rw [if_pos h2, if_pos (by omega)]
    ·rw [if_neg h2, if_neg (by omega)]
 obtain rfl : i = m := by omega
 rw [EJ (g := fun _ => -1) (fun j hj => by simp [hj])] at h
 refine h.xP (E := Ei) (a := false) O0 (by omega) ?_
 clear h
 intro ks M h
 repeat (first|(refine aq h ?_;clear h;intro kb M h)|(refine au h ?_;clear h;intro M h)|refine St.to h ?_|(apply Exists.intro;(repeat apply Exists.intro);refine And.intro rfl ?_)|refine av ?_|refine ae ?_|refine ai ?_)
 rw [N6] at h
 refine ⟨fun d vs M => ∃ j : Nat, vs = [.int .i64 (fT i (l.take j)).at_, .int .i64 (fT i (l.take j)).out, .int .i64 (j : Int)] ∧ d = l.length - j ∧ j ≤ l.length ∧
   Hp R (bR Ei 4 (some ⟨ks, 0, none⟩) i ((List.range i).map (fT i (l.take j)).seen) :: bR bB 3 (some ⟨kl, 0, none⟩) i ((List.range i).map (fT i (l.take j)).last) :: L) M,
  ⟨_, 0, rfl, rfl, by omega, h⟩, ?_⟩
 clear h
 rintro d _ w1 w2 jj M ⟨j, he, hd, hj, h⟩
 simp only [List.cons.injEq, Value.int.injEq, and_true, true_and] at he
 obtain ⟨rfl, rfl, rfl⟩ := he
 have ok := uh i (l.take j)
 have ZX : (l.take j).length ≤ l.length := by rw [List.length_take]; omega
 refine aM.2 ⟨fun hlt => ?_, fun hge => ?_⟩
 ·obtain ⟨r, hr⟩ := aP (l := l) (i := j) (by omega)
  have W6 := hp r (List.mem_of_getElem? hr)
  have hstep : fT i (l.take (j + 1)) = dJ i (fT i (l.take j)) r := by rw [dB hr, qA]
  obtain ⟨rk, rn⟩ := r
  dsimp only at W6
  obtain ⟨q, rfl⟩ := Int.eq_ofNat_of_zero_le W6
  obtain ⟨b, o, rfl⟩ := hB.cons.cons.lD h (by omega) (by decide)
  generalize hS : fT i (l.take j) = s at *
  obtain ⟨b1, b2, b3, b4, b5⟩ := ok
  repeat (first|(refine aq h ?_;clear h;intro kb M h)|(refine au h ?_;clear h;intro M h)|refine St.to h ?_|(apply Exists.intro;(repeat apply Exists.intro);refine And.intro rfl ?_)|refine av ?_|refine ae ?_|refine ai ?_)
  simp only [Int.toNat_natCast]
  refine aZ (hB.cons.cons.at h (j := 0) hr rfl (by simp [Dl])) ?_
  refine aZ (hB.cons.cons.at h (j := 1) hr rfl (by simp [Dl]; omega)) ?_
  repeat (first|(refine aq h ?_;clear h;intro kb M h)|(refine au h ?_;clear h;intro M h)|refine St.to h ?_|(apply Exists.intro;(repeat apply Exists.intro);refine And.intro rfl ?_)|refine av ?_|refine ae ?_|refine ai ?_)
  rw [aV (by omega), fZ (n := s.at_ + 1) (by omega) (by omega)]
  refine eJ.2 ⟨fun hne => ?_, fun OU => ?_⟩
  ·have es : dJ i s (rk, (q : Int)) = s := by unfold dJ; rw [if_neg hne]
   refine ⟨l.length - (j + 1), by omega, j + 1, by rw [hstep, es], rfl, by omega, ?_⟩
   rw [hstep, es]; exact h.pA
  ·repeat (first|(refine aq h ?_;clear h;intro kb M h)|(refine au h ?_;clear h;intro M h)|refine St.to h ?_|(apply Exists.intro;(repeat apply Exists.intro);refine And.intro rfl ?_)|refine av ?_|refine ae ?_|refine ai ?_)
   have e_u : IntKind.wrap .u64 ((i : Nat) : Int) = (i : Int) := by rw [IntKind.wrap_u64]; omega
   rw [e_u]
   refine aM.2 ⟨fun hri => ?_, fun hri => ?_⟩
   ·have SZ : q < i := by omega
    have IJ := b3 q
    have s1 := h.src (A := some ⟨kl, 0, none⟩)
    repeat (first|(refine aq h ?_;clear h;intro kb M h)|(refine au h ?_;clear h;intro M h)|refine St.to h ?_|(apply Exists.intro;(repeat apply Exists.intro);refine And.intro rfl ?_)|refine av ?_|refine ae ?_|refine ai ?_)
    simp only [Int.toNat_natCast]
    refine aZ (s1.at h (j := 0) (BR SZ) rfl (by simp [bB])) ?_
    repeat (first|(refine aq h ?_;clear h;intro kb M h)|(refine au h ?_;clear h;intro M h)|refine St.to h ?_|(apply Exists.intro;(repeat apply Exists.intro);refine And.intro rfl ?_)|refine av ?_|refine ae ?_|refine ai ?_)
    refine gH (a' := s.at_) q 0 h (BR SZ) (by decide) rfl (by simp [bB]) ?_
    clear h; intro M h
    repeat (first|(refine aq h ?_;clear h;intro kb M h)|(refine au h ?_;clear h;intro M h)|refine St.to h ?_|(apply Exists.intro;(repeat apply Exists.intro);refine And.intro rfl ?_)|refine av ?_|refine ae ?_|refine ai ?_)
    refine gH (a' := true) q 0 h (BR SZ) (by decide) rfl (by simp [Ei]) ?_
    clear h; intro M h
    repeat (first|(refine aq h ?_;clear h;intro kb M h)|(refine au h ?_;clear h;intro M h)|refine St.to h ?_|(apply Exists.intro;(repeat apply Exists.intro);refine And.intro rfl ?_)|refine av ?_|refine ae ?_|refine ai ?_)
    rw [fZ (n := s.at_ - s.last q) (by omega) (by omega)]
    have es : dJ i s (rk, (q : Int)) = ⟨fun j => if j = q then s.at_ else s.last j, fun j => if j = q then true else s.seen j, s.at_ + 1, if s.at_ - s.last q > s.out then s.at_ - s.last q else s.out⟩ := by
     unfold dJ; rw [if_pos OU, if_pos hri]; simp
    rw [GX, GX] at h
    refine ⟨l.length - (j + 1), by omega, j + 1, by rw [hstep, es], rfl, by omega, ?_⟩
    rw [hstep, es]; exact h.sub bD
   ·have es : dJ i s (rk, (q : Int)) = ⟨s.last, s.seen, s.at_ + 1, s.out⟩ := by unfold dJ; rw [if_pos OU, if_neg hri]
    refine ⟨l.length - (j + 1), by omega, j + 1, by rw [hstep, es], rfl, by omega, ?_⟩
    rw [hstep, es]; exact h.pA
 ·have Si : l.take j = l := List.take_of_length_le (by omega)
  have hres : sI i l = if wall (fT i l) i then iH (fT i l) i else 0 := rfl
  rw [Si] at ok h ZX ⊢
  generalize fT i l = s at *
  obtain ⟨b1, b2, b3, b4, b5⟩ := ok
  have bw : ∀ t, iH s t ≤ l.length + 1 := fun t => lE.2 ⟨by omega, fun j _ => by have := b3 j; omega⟩
  refine ⟨fun d vs M => ∃ t : Nat, vs = [.int .i64 (iH s t), .int .i64 (t : Int)] ∧ d = i - t ∧ t ≤ i ∧ wall s t = true ∧
    Hp R (bR Ei 4 (some ⟨ks, 0, none⟩) i ((List.range i).map s.seen) :: bR bB 3 (some ⟨kl, 0, none⟩) i ((List.range i).map s.last) :: L) M, ⟨_, 0, rfl, rfl, by omega, rfl, h⟩, ?_⟩
  clear h
  rintro d _ w3 tt M ⟨t, he, hd, ht, hw, h⟩
  simp only [List.cons.injEq, Value.int.injEq, and_true, true_and] at he
  obtain ⟨rfl, rfl⟩ := he
  refine aM.2 ⟨fun hlt => ?_, fun hge => ?_⟩
  ·have PJ : t < i := by omega
   have s1 := h.src (A := some ⟨kl, 0, none⟩)
   have s2 := h.src (A := some ⟨ks, 0, none⟩)
   repeat (first|(refine aq h ?_;clear h;intro kb M h)|(refine au h ?_;clear h;intro M h)|refine St.to h ?_|(apply Exists.intro;(repeat apply Exists.intro);refine And.intro rfl ?_)|refine av ?_|refine ae ?_|refine ai ?_)
   simp only [Int.toNat_natCast]
   refine aZ (s1.at h (j := 0) (BR PJ) rfl (by simp [bB])) ?_
   repeat (first|(refine aq h ?_;clear h;intro kb M h)|(refine au h ?_;clear h;intro M h)|refine St.to h ?_|(apply Exists.intro;(repeat apply Exists.intro);refine And.intro rfl ?_)|refine av ?_|refine ae ?_|refine ai ?_)
   refine XJ (s2.at h (j := 0) (BR PJ) rfl (by simp [Ei])) ?_
   cases hss : s.seen t with
   | false =>
    have : sI i l = 0 := by
     rw [hres, if_neg]
     intro gP
     have := Ek.1 gP t PJ
     rw [hss] at this; cases this
    rw [this] at k
    exact ae (k _ h.pA)
   | true =>
    refine ai ?_
    have PK := b3 t
    refine ⟨i - (t + 1), by omega, t + 1, ?_, rfl, by omega, by simp [wall, hw, hss], h⟩
    rw [fZ (n := s.at_ - s.last t) (by omega) (by omega), aV (by omega)]
    rfl
  ·obtain rfl : t = i := by omega
   rw [hres, if_pos hw] at k
   exact k _ h.pA
end
structure jE where
 m : FO
 bY : Int
def kX : sG jE := ⟨fun b c => exs fun r : Nat => sep [pt b [.map (some r), .int .i64 c.bY] 172, ob r (iX c.m)]⟩
def jE.wait (c : jE) (g now : Int) : jE := match fW c.m.l g with
 | none => c
 | some f => ⟨c.m.del g, if IntKind.wrap .i64 (now - f) > c.bY then IntKind.wrap .i64 (now - f) else c.bY⟩
def jE.since (c : jE) (g now : Int) : jE := { c with m := c.m.put g now }
def jE.step (c : jE) (e : Ev) (y : Sc) : jE :=
 e.ready.foldl (fun c g => c.since g (IntKind.wrap .i64 (y.steps - 1)))
  (if e.kind = 7 then (if (aj y.w e.g).st = 1 then (c.wait e.g (IntKind.wrap .i64 (y.steps - 1))).since e.g (IntKind.wrap .i64 (y.steps - 1)) else c.wait e.g (IntKind.wrap .i64 (y.steps - 1))) else c)
section
variable {R : Mem} {L L' L2 : List HP} {M : Mem} {K : Value → Mem → Prop} {Kp : List PanicEntry → Mem → Prop} {pa : PA} {p : b7} {b cb wb db : Nat} {x : Sc} {c : jE} {g now : Int}
theorem vb (h : Hp R L M) [o : bZ kX b L c L'] : ∃ r, Hp R (pt b [.map (some r), .int .i64 c.bY] 172 :: ob r (iX c.m) :: L') M := by
 have := h.obj kX b
 simpa only [kX, Hp.di, Hp.aX, List.cons_append, List.nil_append] using this
theorem Aa {r : Nat} (h : Hp R (pt b [.map (some r), .int .i64 c.bY] 172 :: ob r (iX c.m) :: L) M) : Hp R (az kX b c :: L) M := by
 refine Hp.vG ?_
 simp only [kX, Hp.di, Hp.aX, List.cons_append, List.nil_append]
 exact ⟨_, h⟩
theorem O1 : Tryz.prog.underlying 170 = some (.map 3 3) := by kernel_rfl
theorem O2 : Tryz.prog.underlying 3 = some (.int .i64) := by kernel_rfl
theorem mp_i : ∃ i, Tryz.prog.info? 3 = some i ∧ i.zero = some (.int .i64 0) := ⟨_, rfl, rfl⟩
theorem Co (h : Hp R L M) [o : bZ kX b L c L'] (k : ∀ M', Hp R (az kX b (c.wait g now) :: L') M' → K (.tuple #[]) M') : aa Tryz.prog 74 #[.pointer (some ⟨b, 0, none⟩), .int .i64 g, .int .i64 now] M K Kp := by
 refine tq ?_
 have h' := vb h (b := b)
 clear h
 obtain ⟨r, h⟩ := h'
 obtain ⟨i, hi, hz⟩ := mp_i
 refine yI h ?_
 refine Q3 (r := r) h O1 O2 hi hz ?_
 refine ⟨_, _, rfl, ?_⟩
 unfold jE.wait at k
 cases hs : fW c.m.l g with
 | none =>
  rw [hs] at k
  exact ai (k _ (Aa h))
 | some f =>
  rw [hs] at k
  refine ae (aI h ?_)
  simp only [Option.getD_some]
  refine au h ?_
  clear h; intro M h
  refine yI h ?_
  refine V0 (r := r) h O1 O2 ?_
  clear h; intro M h
  exact ⟨rfl, k _ (Aa (r := r) (h.sub bD))⟩
theorem Lc (h : Hp R L M) [q : qg b L pa p wb db x L'] (g0 : 0 ≤ g) (g1 : g < x.w.gs.length) (k : ∀ M', Hp R (az (eU pa p wb db) b x :: L') M' → K (.int .i64 (aj x.w g).st) M') : aa Tryz.prog 119 #[.pointer (some ⟨wb, 0, none⟩), .int .i64 g] M K Kp := by
 have h' := fj h (b := b)
 clear h
 obtain ⟨a, hl, h⟩ := h'
 refine uV (b := wb) h g0 g1 ?_
 exact k _ (hH hl (h.sub bD))
theorem O3 (h : Hp R L M) [q : qg b L pa p wb db x L'] (k : ∀ M', Hp R (az (eU pa p wb db) b x :: L') M' → K (.int .i64 (x.w.gs.length : Int)) M') : aa Tryz.prog 73 #[.pointer (some ⟨wb, 0, none⟩)] M K Kp := by
 have h' := fj h (b := b)
 clear h
 obtain ⟨a, hl, h⟩ := h'
 refine KI (b := wb) h ?_
 exact k _ (hH hl (h.sub bD))
theorem HM {rs : List Int} {A : Option Addr} {n : Nat} {now : Int} {ZY : Mem → Prop} {L0 : List HP} (h : Hp R (az kX b c :: L0) M) (hA : RS bB R A n rs) (jR : rs.length ≤ 1000000) (k : ∀ M', Hp R (az kX b (rs.foldl (fun c g => c.since g now) c) :: L0) M' → ZY M') :
  ∃ I : Nat → List Value → Mem → Prop, (∃ k2 : Nat, I k2 [.int .i64 0] M) ∧ ∀ k3 : Nat, ∀ JM : Nat → Value, ∀ n : Int, ∀ M8 : Mem, (I k3 [.int .i64 n] M8) → aO (decide ((n : Int) < ((rs.length : Nat) : Int)))
   (((0 : Int) ≤ n) ∧ ((n : Int) < ((rs.length : Nat) : Int)) ∧ aF A fun kb ko => aJ (Mem.ld M8 ⟨kb, (ko + (Int.toNat n)), none⟩) .i64 fun si =>
    dZ (Mem.ld M8 ⟨b, 0, none⟩) fun T3 =>
    bA Tryz.prog (Go.Instr.mapUpdate 170 T3 (.int .i64 si) (.int .i64 now)) M8 (fun Ao => ∃ qC : Nat, (qC < k3) ∧ I qC [.int .i64 (IntKind.wrap .i64 (n + 1))] Ao) Kp)
   (ZY M8) := by
 refine ⟨fun d ws M => ∃ i : Nat, ws = [.int .i64 (i : Int)] ∧ d = rs.length - i ∧ i ≤ rs.length ∧ Hp R (az kX b ((rs.take i).foldl (fun c g => c.since g now) c) :: L0) M, ⟨_, 0, rfl, rfl, by omega, by simpa using h⟩, ?_⟩
 clear h
 rintro dd JM nn M8 ⟨i, he, hd, hi, h⟩
 simp only [List.cons.injEq, Value.int.injEq, and_true, true_and] at he
 subst he
 refine aM.2 ⟨fun hlt => ?_, fun hge => k M8 (by rw [List.take_of_length_le (by omega)] at h; exact h)⟩
 have Mb : i < rs.length := by omega
 obtain ⟨w, hw⟩ := aP (l := rs) (i := i) Mb
 have hs : Src R (az kX b ((rs.take i).foldl (fun c g => c.since g now) c) :: L0) A (bB.cells rs) := hA.src
 obtain ⟨kb, ko, rfl⟩ := hs.lD h (by omega) (by decide)
 refine ⟨by omega, hlt, bp ?_⟩
 simp only [Int.toNat_natCast]
 refine aZ (Src.at hs h (i := i) (j := 0) hw rfl (by simp [bB])) ?_
 have h' := vb h (b := b)
 clear h
 obtain ⟨r, h⟩ := h'
 refine yI h ?_
 refine Hi (r := r) h O1 O2 ?_
 clear h; intro M h
 refine ⟨rs.length - (i + 1), by omega, i + 1, by rw [aV (by omega)], rfl, by omega, ?_⟩
 rw [dB hw, List.foldl_append]
 exact Aa (r := r) (h.sub bD)
theorem Ld {e : Ev} {A : Option Addr} {n : Nat} (h : Hp R (az (eU pa p wb db) b x :: az kX cb c :: L) M) (hA : RS bB R A n e.ready) (jR : e.ready.length ≤ 1000000) (hg : e.kind = 7 → 0 ≤ e.g ∧ e.g < x.w.gs.length)
  (k : ∀ M', Hp R (az (eU pa p wb db) b x :: az kX cb (c.step e x) :: L) M' → K (.tuple #[]) M') : aa Tryz.prog 72 #[.pointer (some ⟨cb, 0, none⟩), K0 e A n, .pointer (some ⟨b, 0, none⟩)] M K Kp := by
 refine tp ?_
 refine aq h ?_
 clear h
 intro k1 M h
 refine qi h ?_
 refine cG ?_
 refine aI h ?_
 have fin : ∀ (c' : jE) M', (c.step e x = e.ready.foldl (fun c g => c.since g (IntKind.wrap .i64 (x.steps - 1))) c') → Hp R (az kX cb c' :: az (eU pa p wb db) b x :: pt k1 [.int .i64 e.kind, .int .i64 e.m, .int .i64 e.g, .slice A e.ready.length n] 43 :: L) M' → ∃ I : Nat → List Value → Mem → Prop, (∃ k2 : Nat, I k2 [.int .i64 0] M') ∧ ∀ k3 : Nat, ∀ JM : Nat → Value, ∀ n : Int, ∀ M8 : Mem, (I k3 [.int .i64 n] M8) → aO (decide ((n : Int) < ((e.ready.length : Nat) : Int)))
   (((0 : Int) ≤ n) ∧ ((n : Int) < ((e.ready.length : Nat) : Int)) ∧ aF A fun kb ko => aJ (Mem.ld M8 ⟨kb, (ko + (Int.toNat n)), none⟩) .i64 fun si =>
    dZ (Mem.ld M8 ⟨cb, 0, none⟩) fun T3 =>
    bA Tryz.prog (Go.Instr.mapUpdate 170 T3 (.int .i64 si) (.int .i64 (IntKind.wrap .i64 (x.steps - 1)))) M8 (fun Ao => ∃ qC : Nat, (qC < k3) ∧ I qC [.int .i64 (IntKind.wrap .i64 (n + 1))] Ao) Kp)
   (K (.tuple #[]) M8) := fun c' M' hc h => HM h hA jR fun M2 h2 => k M2 (by rw [hc]; exact h2.sub bD)
 refine aR.2 ⟨fun he => ?_, fun he => ?_⟩
 ·refine aI h ?_
  refine Co (b := cb) h ?_
  clear h; intro M h
  refine ⟨rfl, ?_⟩
  refine aI h ?_
  refine qh (b := b) h ?_
  refine js ⟨bM h, ?_⟩
  refine Lc (b := b) h (hg he).1 (hg he).2 ?_
  clear h; intro M h
  refine cG ⟨bM h, ?_⟩
  refine aR.2 ⟨fun hs => ?_, fun hs => ?_⟩
  ·have h' := vb h (b := cb)
   clear h
   obtain ⟨r, h⟩ := h'
   refine yI h ?_
   refine aI h ?_
   refine Hi (r := r) h O1 O2 ?_
   clear h; intro M h
   refine aS h ?_
   refine fin ((c.wait e.g (IntKind.wrap .i64 (x.steps - 1))).since e.g (IntKind.wrap .i64 (x.steps - 1))) _ (by unfold jE.step; rw [if_pos he, if_pos hs]) (Aa (r := r) (h.sub bD))
  ·refine aS h ?_
   exact fin (c.wait e.g (IntKind.wrap .i64 (x.steps - 1))) _ (by unfold jE.step; rw [if_pos he, if_neg hs]) (h.sub bD)
 ·refine aS h ?_
  exact fin c _ (by unfold jE.step; rw [if_neg he]) (h.sub bD)
end
inductive WR (p : b7) (x0 : Sc) (c0 : jE) : Nat → Sc → jE → Prop
 | zero : WR p x0 c0 0 x0 c0
 | succ {j : Nat} {x y : Sc} {c : jE} {e : Ev} : WR p x0 c0 j x c → x.status = 0 → x.step p = some (y, .ev e) → WR p x0 c0 (j + 1) y (c.step e y)
inductive Ad (p : b7) (x0 : Sc) (c0 : jE) (most : Nat) : Sc → jE → Prop
 | O4 {j : Nat} {x : Sc} {c : jE} : WR p x0 c0 j x c → j ≤ most → Ad p x0 c0 most x c
 | cT {j : Nat} {x y : Sc} {c : jE} {l : List PanicEntry} : WR p x0 c0 j x c → j < most → x.status = 0 → x.step p = some (y, .cT l) → Ad p x0 c0 most y c
section
variable {R : Mem} {L L' L2 : List HP} {M : Mem} {K : Value → Mem → Prop} {Kp : List PanicEntry → Mem → Prop} {pa : PA} {p : b7} {b cb wb db : Nat} {x x0 y : Sc} {c c0 : jE} {g now : Int}
theorem WR.sv {j : Nat} (h : WR p x0 c0 j x c) (h0 : SV p 0 x0) (hp : dn p) (hj : j ≤ 1000000) : SV p j x := by
 induction h with
 | zero => exact h0
 | succ hw hs he ih =>
  obtain ⟨y', o, h1, h2⟩ := (ih (by omega)).step hp (by omega)
  rw [he] at h1
  cases h1
  exact h2
end
def Wr (t : Int) : Nat := if Int.tmod t 7 = 6 then 1 else 0
def Bi (t : Int) : Nat := 6 - (Int.tmod t 7).toNat
def uM (mc : uZ) : Nat := if mc.g = -1 then 2 * mc.left.toNat + 1 else 2 * mc.left.toNat
def Lr (GG : Nat) (q : Loc) (gl : List Int) (t g : Int) (n : Nat) : Prop :=
 (∃ k, q.l[k]? = some g ∧ 2 * k + Wr t + (7 * GG + 7) ≤ n) ∨ ∃ j, gl[j]? = some g ∧ 7 * j + Bi t ≤ n
def Lv (Rm GG : Nat) (q : Loc) (gl : List Int) (t g : Int) (n : Nat) : Prop :=
 (q.next = g ∧ 2 * Rm + 2 + (7 * GG + 7) ≤ n) ∨ Lr GG q gl t g n
theorem Dx (t : Int) : Wr t ≤ 1 := by unfold Wr; split <;> omega
theorem ve (t : Int) : Bi t ≤ 6 := by unfold Bi; omega
theorem kH {l : List Int} {j : Nat} {g : Int} (h : l[j]? = some g) : j < l.length := (List.getElem?_eq_some_iff.1 h).1
theorem Ae (x : Loc) (v : Int) (gl : List Int) : (x.put v gl).1.next = x.next ∧ (x.put v gl).1.room = x.room ∧ gl <+: (x.put v gl).2.1 := by
 unfold Loc.put
 split
 ·exact ⟨rfl, rfl, List.prefix_refl _⟩
 ·exact ⟨rfl, rfl, List.prefix_append _ _⟩
theorem ZZ {x : Loc} {v : Int} {gl : List Int} : (∃ k : Nat, (x.put v gl).1.l[k]? = some v ∧ k + 1 ≤ x.room) ∨ ∃ j : Nat, (x.put v gl).2.1[j]? = some v := by
 unfold Loc.put
 split
 ·rename_i h
  exact .inl ⟨x.l.length, by simp, by omega⟩
 ·refine .inr ⟨gl.length + (x.l.take (x.l.length / 2)).length, ?_⟩
  dsimp only
  rw [List.getElem?_append_right (by omega)]
  simp
theorem Z0 {x : Loc} {v g : Int} {gl : List Int} {k : Nat} (h : x.l[k]? = some g) : (∃ k', k' ≤ k ∧ (x.put v gl).1.l[k']? = some g) ∨ ∃ j : Nat, (x.put v gl).2.1[j]? = some g := by
 have hk := kH h
 unfold Loc.put
 split
 ·exact .inl ⟨k, Nat.le_refl _, by dsimp only; rw [List.getElem?_append_left hk]; exact h⟩
 ·dsimp only
  by_cases hc : k < x.l.length / 2
  ·refine .inr ⟨gl.length + k, ?_⟩
   rw [List.getElem?_append_right (by omega), Nat.add_sub_cancel_left, List.getElem?_append_left (by simp; omega), List.getElem?_take_of_lt hc]
   exact h
  ·refine .inl ⟨k - x.l.length / 2, by omega, ?_⟩
   rw [List.getElem?_drop, show x.l.length / 2 + (k - x.l.length / 2) = k by omega]
   exact h
theorem yj {l l' : List Int} {j : Nat} {g : Int} (hp : l <+: l') (h : l[j]? = some g) : l'[j]? = some g := by
 obtain ⟨t, rfl⟩ := hp
 rw [List.getElem?_append_left (kH h)]; exact h
theorem O5 {GG n : Nat} {x : Loc} {v g t : Int} {gl : List Int} (h : Lr GG x gl t g n) (hG : (x.put v gl).2.1.length ≤ GG) : Lr GG (x.put v gl).1 (x.put v gl).2.1 t g n := by
 have h7 := ve t
 rcases h with ⟨k, h1, h2⟩ | ⟨j, h1, h2⟩
 ·rcases Z0 (v := v) (gl := gl) h1 with ⟨k', h3, h4⟩ | ⟨j, h3⟩
  ·exact .inl ⟨k', h4, by omega⟩
  ·have := kH h3
   exact .inr ⟨j, h3, by omega⟩
 ·exact .inr ⟨j, yj (Ae x v gl).2.2 h1, h2⟩
theorem Jj {GG Rm n : Nat} {x : Loc} {v t : Int} {gl : List Int} (hR : x.room = Rm) (hn : 2 * Rm + 2 + (7 * GG + 7) ≤ n) (hG : (x.put v gl).2.1.length ≤ GG) : Lr GG (x.put v gl).1 (x.put v gl).2.1 t v n := by
 have h7 := ve t
 have h1 := Dx t
 rcases ZZ (x := x) (v := v) (gl := gl) with ⟨k, h3, h4⟩ | ⟨j, h3⟩
 ·exact .inl ⟨k, h3, by omega⟩
 ·have := kH h3
  exact .inr ⟨j, h3, by omega⟩
theorem HN (q : Loc) (r : Int) (gl : List Int) : (q.ready r gl).1.next = r ∧ (q.ready r gl).1.room = q.room ∧ gl <+: (q.ready r gl).2.1 := by
 unfold Loc.ready
 split
 ·exact ⟨rfl, rfl, List.prefix_refl _⟩
 ·exact Ae { q with next := r } q.next gl
theorem O6 {GG Rm n : Nat} {q : Loc} {g r t : Int} {gl : List Int} (h : Lv Rm GG q gl t g n) (h0 : 0 ≤ g) (hR : q.room = Rm) (hG : (q.ready r gl).2.1.length ≤ GG) : Lv Rm GG (q.ready r gl).1 (q.ready r gl).2.1 t g n := by
 unfold Loc.ready at hG ⊢
 split
 ·rename_i e
  rcases h with ⟨h1, _⟩ | h
  ·omega
  ·exact .inr h
 ·rename_i e
  rw [if_neg e] at hG
  rcases h with ⟨h1, h2⟩ | h
  ·subst h1
   exact .inr (Jj (x := { q with next := r }) hR h2 hG)
  ·exact .inr (O5 (x := { q with next := r }) h hG)
theorem qN (q : Loc) (gl : List Int) : (q.dO gl).1.next = -1 ∧ (q.dO gl).1.room = q.room ∧ gl <+: (q.dO gl).2.1 := by
 unfold Loc.dO
 split
 ·rename_i e; exact ⟨e, rfl, List.prefix_refl _⟩
 ·exact Ae { q with next := -1 } q.next gl
theorem RJ {GG Rm n : Nat} {q : Loc} {g t : Int} {gl : List Int} (h : Lv Rm GG q gl t g n) (h0 : 0 ≤ g) (hR : q.room = Rm) (hG : (q.dO gl).2.1.length ≤ GG) : Lr GG (q.dO gl).1 (q.dO gl).2.1 t g n := by
 unfold Loc.dO at hG ⊢
 split
 ·rename_i e
  rcases h with ⟨h1, _⟩ | h
  ·omega
  ·exact h
 ·rename_i e
  rw [if_neg e] at hG
  rcases h with ⟨h1, h2⟩ | h
  ·subst h1
   exact Jj (x := { q with next := -1 }) hR h2 hG
  ·exact O5 (x := { q with next := -1 }) h hG
theorem t7 {t : Int} (h : 0 ≤ t) : (Int.tmod t 7 = 6 → Wr t = 1 ∧ Bi t = 0 ∧ Wr (t + 1) = 0 ∧ Bi (t + 1) = 6) ∧ (Int.tmod t 7 ≠ 6 → Wr t = 0 ∧ Bi (t + 1) + 1 = Bi t) := by
 have e1 : Int.tmod t 7 = t % 7 := Int.tmod_eq_emod_of_nonneg h
 have e2 : Int.tmod (t + 1) 7 = (t + 1) % 7 := Int.tmod_eq_emod_of_nonneg (by omega)
 unfold Wr Bi
 rw [e1, e2]
 constructor
 ·intro e
  rw [if_pos e, if_neg (by omega)]
  omega
 ·intro e
  rw [if_neg e]
  omega
theorem Jk {q : Loc} (hn : q.next = -1) (hl : q.l = []) : q.get = (q, -1) := by
 unfold Loc.get
 rw [if_neg (by rw [hn]; decide), hl]
theorem O7 {q : Loc} {v : Int} {l : List Int} (hn : q.next = -1) (hl : q.l = v :: l) : q.get = ({ q with l := l }, v) := by
 unfold Loc.get
 rw [if_neg (by rw [hn]; decide), hl]
theorem Dy (q : Loc) (gl : List Int) : q.ee gl 0 = match gl with | [] => (q, [], -1) | v :: l => (q, l, v) := by
 have e : q.c5 gl 0 = 1 := by unfold Loc.c5; rw [if_pos (by decide)]
 unfold Loc.ee
 rw [e]
 cases gl with
 | nil => rfl
 | cons v l => simp
theorem Ws {GG Rm n : Nat} {q : Loc} {g t : Int} {gl : List Int} (h : Lv Rm GG q gl t g n) (h0 : 0 ≤ g) (ht : 0 ≤ t) (hR : q.room = Rm) (hG : (q.dO gl).2.1.length ≤ GG) :
  (fY q t gl).2.2.2 = true ∧ ((fY q t gl).2.2.1 = g ∨ ∃ n', n' + 1 ≤ n ∧ Lv Rm GG (fY q t gl).1 (fY q t gl).2.1 (t + 1) g n') := by
 have hr := RJ h h0 hR hG
 obtain ⟨hn, _, _⟩ := qN q gl
 obtain ⟨ta, tb⟩ := t7 ht
 unfold fY
 generalize q.dO gl = r at hr hn hG
 obtain ⟨q1, g1, n1⟩ := r
 dsimp only at hr hn hG ⊢
 have xe := Dx (t + 1)
 split
 ·rename_i hh
  obtain ⟨p1, p2, p3, p4⟩ := ta hh.1
  refine ⟨rfl, ?_⟩
  rcases hr with ⟨k, h1, h2⟩ | ⟨j, h1, h2⟩
  ·exact .inr ⟨2 * k + (7 * GG + 7), by omega, .inr (.inl ⟨k, h1, by omega⟩)⟩
  ·cases g1 with
   | nil => simp at h1
   | cons v l =>
    cases j with
    | zero => exact .inl (by simpa using h1)
    | succ j => exact .inr ⟨7 * j + 6, by omega, .inr (.inr ⟨j, by simpa using h1, by omega⟩)⟩
 ·rename_i hh
  split
  ·rename_i ho
   refine ⟨rfl, ?_⟩
   have hl : q1.l ≠ [] := by
    intro e
    unfold nU at ho
    rw [hn, e] at ho
    cases ho
   obtain ⟨v, l, hl⟩ := List.exists_cons_of_ne_nil hl
   rw [O7 hn hl]
   dsimp only
   rcases hr with ⟨k, h1, h2⟩ | ⟨j, h1, h2⟩
   ·rw [hl] at h1
    cases k with
    | zero => exact .inl (by simpa using h1)
    | succ k => exact .inr ⟨2 * k + 1 + (7 * GG + 7), by omega, .inr (.inl ⟨k, by simpa using h1, by omega⟩)⟩
   ·have hne : Int.tmod t 7 ≠ 6 := fun e => hh ⟨e, by have := kH h1; omega⟩
    have := tb hne
    exact .inr ⟨7 * j + Bi (t + 1), by omega, .inr (.inr ⟨j, h1, Nat.le_refl _⟩)⟩
  ·rename_i ho
   have hl : q1.l = [] := by
    unfold nU at ho
    simp only [Bool.or_eq_true, bne_iff_ne, ne_eq, Bool.not_eq_true', List.isEmpty_eq_false_iff, not_or, Decidable.not_not] at ho
    exact ho.2
   rw [Jk hn hl]
   dsimp only
   rcases hr with ⟨k, h1, h2⟩ | ⟨j, h1, h2⟩
   ·rw [hl] at h1; simp at h1
   ·have hne : Int.tmod t 7 ≠ 6 := fun e => hh ⟨e, by have := kH h1; omega⟩
    have := tb hne
    rw [Dy]
    cases g1 with
    | nil => simp at h1
    | cons v l =>
     refine ⟨rfl, ?_⟩
     dsimp only
     cases j with
     | zero => exact .inl (by simpa using h1)
     | succ j => exact .inr ⟨7 * j + 6, by omega, .inr (.inr ⟨j, by simpa using h1, by have := ve (t + 1); omega⟩)⟩
theorem O8 {q : Loc} {t : Int} {gl : List Int} (h : (fY q t gl).2.2.2 = false) : (fY q t gl).1.next = -1 ∧ (fY q t gl).1.l = [] ∧ (fY q t gl).1.room = q.room ∧ (fY q t gl).2.1 = [] := by
 obtain ⟨hn, hr, _⟩ := qN q gl
 unfold fY at h ⊢
 generalize q.dO gl = r at hn hr h
 obtain ⟨q1, g1, n1⟩ := r
 dsimp only at hn hr h ⊢
 split
 ·rename_i hh; rw [if_pos hh] at h; cases h
 ·rename_i hh
  rw [if_neg hh] at h
  split
  ·rename_i ho; rw [if_pos ho] at h; cases h
  ·rename_i ho
   rw [if_neg ho] at h
   have hl : q1.l = [] := by
    unfold nU at ho
    simp only [Bool.or_eq_true, bne_iff_ne, ne_eq, Bool.not_eq_true', List.isEmpty_eq_false_iff, not_or, Decidable.not_not] at ho
    exact ho.2
   rw [Jk hn hl]
   dsimp only at h ⊢
   cases g1 with
   | nil => rw [Dy]; exact ⟨hn, hl, hr, rfl⟩
   | cons v l => cases h
theorem O9 {q : Loc} {t : Int} {gl : List Int} : (fY q t gl).1.room = q.room := by
 obtain ⟨hn, hr, _⟩ := qN q gl
 unfold fY
 generalize q.dO gl = r at hn hr
 obtain ⟨q1, g1, n1⟩ := r
 dsimp only at hn hr ⊢
 have hg : q1.get.1.room = q1.room := by
  unfold Loc.get
  split
  ·rfl
  ·split <;> rfl
 split
 ·exact hr
 ·split
  ·rw [hg]; exact hr
  ·rw [Dy]
   split <;> · dsimp only; rw [hg]; exact hr
theorem Le {q f : Loc} {Rm : Nat} (hq : q.l = []) (hR : q.room = Rm) (hf : f.l.length ≤ Rm) (hn : q.next = -1) :
  (f.l = [] ∧ q.c9 f = (q, { f with next := -1 }, f.next)) ∨
   ∃ v out rest, f.l = v :: (out ++ rest) ∧ q.c9 f = ({ q with l := out }, { f with l := rest }, v) := by
 have e : q.fV f = f.l.length - f.l.length / 2 := by unfold Loc.fV; rw [hq, hR]; simp only [List.length_nil]; omega
 unfold Loc.c9
 rw [e]
 cases hl : f.l with
 | nil => left; simp
 | cons v l =>
  right
  have h1 : (v :: l).length - (v :: l).length / 2 = ((v :: l).length - (v :: l).length / 2 - 1) + 1 := by simp only [List.length_cons]; omega
  rw [h1, List.take_succ_cons, List.drop_succ_cons]
  refine ⟨v, l.take ((v :: l).length - (v :: l).length / 2 - 1), l.drop ((v :: l).length - (v :: l).length / 2 - 1), ?_, ?_⟩
  ·rw [List.take_append_drop]
  ·dsimp only; rw [hq]; rfl
def Lf (Rm GG : Nat) (x : Sc) (g : Int) (m n u : Nat) : Prop :=
 ∃ mc, x.ms[m]? = some mc ∧ (mc.g = g ∨ (mc.p ≠ -1 ∧ uM mc ≤ u ∧ Lv Rm GG (ay x mc.p).q x.gl (ay x mc.p).turns g n) ∨ ((∀ c ∈ x.ms, c.p = -1) ∧ ∃ j, x.gl[j]? = some g ∧ 7 * j + 7 ≤ n))
structure HV (Rm : Nat) (x : Sc) : Prop where
 hold : ∀ i : Nat, i < x.ps.length → ((ay x (i : Int)).eN = -1 ∧ (ay x (i : Int)).q.next = -1 ∧ (ay x (i : Int)).q.l = []) ∨ ∃ m : Nat, ∃ mc, x.ms[m]? = some mc ∧ mc.p = (i : Int)
 room : ∀ pr ∈ x.ps, pr.q.room = Rm
 left : ∀ mc ∈ x.ms, mc.left ≤ x.c.S
def Bet (S n' u' n u : Nat) : Prop := n' + 1 ≤ n ∧ u' ≤ 2 * S + 1 ∨ n' ≤ n ∧ u' + 1 ≤ u
def nY (Rm GG S : Nat) (y : Sc) (g : Int) (pk m n u : Nat) : Prop := (pk ≠ m ∧ Lf Rm GG y g m n u) ∨ ∃ n' u', Bet S n' u' n u ∧ Lf Rm GG y g pk n' u'
section
variable {p : b7} {N Rm GG m n u k : Nat} {x y z : Sc} {i g a kind : Int}
theorem HO {q : Loc} {gl Dq : List Int} {t : Int} (h : Lv Rm GG q gl t g n) (hp : gl <+: Dq) : Lv Rm GG q Dq t g n := by
 rcases h with h | ⟨k, h1, h2⟩ | ⟨j, h1, h2⟩
 ·exact .inl h
 ·exact .inr (.inl ⟨k, h1, h2⟩)
 ·exact .inr (.inr ⟨j, yj hp h1, h2⟩)
theorem Pa {P : Nat} {mc : uZ} (h : MV P mc) : 1 ≤ uM mc := by
 unfold uM
 split
 ·omega
 ·rename_i hg
  rcases h with h | h
  ·exact absurd h.2.1 hg
  ·have := h.2.2.2.2.2 (by omega); omega
theorem ke {l : List uZ} {a b : Nat} {w : uZ} (h : b ≠ a) : (l.set a w)[b]? = l[b]? := List.getElem?_set_ne (Ne.symm h)
theorem SV.apart (h : SV p N x) {mc lT : uZ} {k : Nat} (h1 : x.ms[m]? = some mc) (h2 : x.ms[k]? = some lT) (hp : mc.p ≠ -1) (he : mc.p = lT.p) : m = k := by
 have a1 := h.eN m mc h1 hp
 have a2 := h.eN k lT h2 (by rw [← he]; exact hp)
 rw [he] at a1
 rw [a1] at a2
 omega
theorem SV.mv (h : SV p N x) {mc : uZ} (h1 : x.ms[m]? = some mc) : MV x.ps.length mc := h.ms _ (List.mem_of_getElem? h1)
theorem SV.Dz (h : SV p N x) {l : List Int} (hc : ∀ a, l.count a ≤ jP x a) : l.length ≤ x.w.gs.length := by
 refine Nat.le_trans (nV (b := 1) x.w.gs.length l (fun v hv => ?_) (fun v => by have := h.ZT (a := v); have := hc v; omega)) (by omega)
 have := h.at_ (a := v) (by have : 0 < l.count v := List.count_pos_iff.2 hv; have := hc v; omega)
 exact ⟨this.1, this.2.1⟩
theorem Jl {j : Int} {b : dm} (h : j.toNat ≠ i.toNat) : ay (x.bT i b) j = ay x j := by unfold ay Sc.bT; exact getD_set_ne h
theorem Pb {b : dm} (h : i.toNat < x.ps.length) : ay (x.bT i b) i = b := by unfold ay Sc.bT; exact bG h
theorem HV.Wu (h : HV Rm x) (h0 : 0 ≤ i) (h1 : i < x.ps.length) : (ay x i).q.room = Rm := h.room _ (List.mem_of_getElem? (mh h0 h1))
theorem Pc (h : Lf Rm GG x g m n u) (l : List Int) (w : Wd) (d : jz) : Lf Rm GG { x with w := w, gl := x.gl ++ l, d := d } g m n u := by
 obtain ⟨mc, h1, h2 | ⟨h2, h3, h4⟩ | ⟨h2, j, h3, h4⟩⟩ := h
 ·exact ⟨mc, h1, .inl h2⟩
 ·exact ⟨mc, h1, .inr (.inl ⟨h2, h3, HO h4 (List.prefix_append _ _)⟩)⟩
 ·exact ⟨mc, h1, .inr (.inr ⟨h2, j, yj (List.prefix_append _ _) h3, h4⟩)⟩
theorem RK (h : HV Rm x) (l : List Int) (w : Wd) (d : jz) : HV Rm { x with w := w, gl := x.gl ++ l, d := d } := ⟨h.hold, h.room, h.left⟩
theorem Pd {S : Nat} (hs : SV p N x) (hv : HV Rm x) (k1 : k < x.ms.length) (hk : (ax x (k : Int)).p = -1) : (0 ≤ g → Lf Rm GG x g m n u → nY Rm GG S (x.hold (k : Int)).1 g k m n u) ∧ HV Rm (x.hold (k : Int)).1 := by
 have hmk := gA (x := x) (m := (k : Int)) (by omega) (by omega)
 rw [Int.toNat_natCast] at hmk
 have z9 : (ax x (k : Int)).g = -1 ∧ (ax x (k : Int)).left = 0 := by
  rcases hs.mv hmk with e | e
  ·exact e.2
  ·omega
 have hne : 0 ≤ g → (∃ mc, x.ms[m]? = some mc ∧ (mc.g = g ∨ mc.p ≠ -1)) → k ≠ m := by
  rintro h0 ⟨mc, h1, h2⟩ rfl
  rw [hmk] at h1
  obtain rfl := Option.some.inj h1
  rcases h2 with h2 | h2
  ·omega
  ·exact h2 hk
 unfold Sc.hold
 split
 ·rename_i i hi
  obtain ⟨hlt, hb, _⟩ := List.findIdx?_eq_some_iff_getElem.1 hi
  have Mb : (i : Int).toNat < x.ps.length := by omega
  dsimp only
  refine ⟨fun h0 h => ?_, ?_⟩
  ·obtain ⟨mc, h1, h2 | ⟨h2, h3, h4⟩ | ⟨h2, j, h3, h4⟩⟩ := h
   ·have := hne h0 ⟨mc, h1, .inl h2⟩
    refine .inl ⟨this, mc, ?_, .inl h2⟩
    show (x.ms.set (k : Int).toNat _)[m]? = _
    rw [Int.toNat_natCast, ke (Ne.symm this)]; exact h1
   ·have := hne h0 ⟨mc, h1, .inr h2⟩
    refine .inl ⟨this, mc, ?_, .inr (.inl ⟨h2, h3, ?_⟩)⟩
    ·show (x.ms.set (k : Int).toNat _)[m]? = _
     rw [Int.toNat_natCast, ke (Ne.symm this)]; exact h1
    ·have e : (ay (x.bT (i : Int) { ay x (i : Int) with eN := (k : Int) }) mc.p).q = (ay x mc.p).q ∧ (ay (x.bT (i : Int) { ay x (i : Int) with eN := (k : Int) }) mc.p).turns = (ay x mc.p).turns := by
      by_cases e : mc.p.toNat = (i : Int).toNat
      ·have e2 : ay x mc.p = ay x (i : Int) := by unfold ay; rw [e]
       have e3 : ay (x.bT (i : Int) { ay x (i : Int) with eN := (k : Int) }) mc.p = ay (x.bT (i : Int) { ay x (i : Int) with eN := (k : Int) }) (i : Int) := by unfold ay; rw [e]
       rw [e3, Pb Mb, e2]
       exact ⟨rfl, rfl⟩
      ·rw [Jl e]; exact ⟨rfl, rfl⟩
     show Lv Rm GG (ay (x.bT (i : Int) { ay x (i : Int) with eN := (k : Int) }) mc.p).q x.gl (ay (x.bT (i : Int) { ay x (i : Int) with eN := (k : Int) }) mc.p).turns g n
     rw [e.1, e.2]; exact h4
   ·refine .inr ⟨7 * j + 6, 1, .inl ⟨by omega, by omega⟩, { ax x (k : Int) with p := (i : Int) }, ?_, .inr (.inl ⟨by dsimp only; omega, ?_, ?_⟩)⟩
    ·show (x.ms.set (k : Int).toNat _)[k]? = _
     rw [Int.toNat_natCast, List.getElem?_set_self k1]
    ·unfold uM
     dsimp only
     rw [z9.2]; split <;> simp
    ·have hsv : ∀ t, 7 * j + Bi t ≤ 7 * j + 6 := fun t => by have := ve t; omega
     exact .inr (.inr ⟨j, h3, hsv _⟩)
  ·refine ⟨fun a ha => ?_, fun pr hp => ?_, fun mc hm => ?_⟩
   ·have ZQ : a < x.ps.length := by simpa [Sc.bT, Sc.gV] using ha
    by_cases e : a = i
    ·subst e
     exact .inr ⟨k, _, by show (x.ms.set (k : Int).toNat _)[k]? = _; rw [Int.toNat_natCast, List.getElem?_set_self k1], rfl⟩
    ·rcases hv.hold a ZQ with hh | ⟨c, mc, h1, h2⟩
     ·refine .inl ?_
      show (ay (x.bT (i : Int) _) (a : Int)).eN = -1 ∧ (ay (x.bT (i : Int) _) (a : Int)).q.next = -1 ∧ (ay (x.bT (i : Int) _) (a : Int)).q.l = []
      rw [Jl (by omega)]; exact hh
     ·refine .inr ⟨c, mc, ?_, h2⟩
      have : c ≠ k := by
       rintro rfl
       rw [hmk] at h1
       obtain rfl := Option.some.inj h1
       omega
      show (x.ms.set (k : Int).toNat _)[c]? = _
      rw [Int.toNat_natCast, ke this]; exact h1
   ·have xe : pr ∈ x.ps.set (i : Int).toNat { ay x (i : Int) with eN := (k : Int) } := hp
    rcases List.mem_or_eq_of_mem_set xe with xe | rfl
    ·exact hv.room pr xe
    ·exact hv.Wu (i := (i : Int)) (by omega) (by omega)
   ·have hm' : mc ∈ x.ms.set (k : Int).toNat { ax x (k : Int) with p := (i : Int) } := hm
    rcases List.mem_or_eq_of_mem_set hm' with hm' | rfl
    ·exact hv.left mc hm'
    ·exact hv.left (ax x (k : Int)) (List.mem_of_getElem? hmk)
 ·rename_i hi
  refine ⟨fun h0 h => ?_, hv⟩
  have hno := List.findIdx?_eq_none_iff.1 hi
  obtain ⟨mc, h1, h2 | ⟨h2, h3, h4⟩ | ⟨h2, j, h3, h4⟩⟩ := h
  ·exact .inl ⟨hne h0 ⟨mc, h1, .inl h2⟩, mc, h1, .inl h2⟩
  ·exact .inl ⟨hne h0 ⟨mc, h1, .inr h2⟩, mc, h1, .inr (.inl ⟨h2, h3, h4⟩)⟩
  ·exfalso
   have hP := hs.P1.1
   rcases hv.hold 0 (by omega) with hh | ⟨c, lT, h5, h6⟩
   ·have := hno (ay x ((0 : Nat) : Int)) (List.mem_of_getElem? (mh (by omega) (by omega)))
    rw [hh.1] at this
    simp at this
   ·have := h2 lT (List.mem_of_getElem? h5)
    omega
end
end Go.Proofs
