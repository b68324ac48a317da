/- A part of proofs about one program. -/
import Derived.Test.YtfjgcljdnhkmaaaGreatZSchedAlone3
set_option linter.unusedVariables false
namespace Go.Proofs
open Go.AF
set_option maxRecDepth 100000
set_option maxHeartbeats 1000000
attribute [local irreducible] aG c6 fD cj aC eU aD aF bg aZ bD aQ
def JK (R : Mem) (pa : PA) (p : cf) (b wb db : Nat) (L' : List HP) (K : Value → Mem → Prop) (Kp : List PanicEntry → Mem → Prop) (y : Sc) : kK → Prop
 | .ev e => ∀ R' A c M', R.le R' → RS bN R' A c e.ready → Hp R' (ax (fA pa p wb db) b y :: L') M' → K (DL e A c) M'
 | .cG l => ∀ M', Hp R (ax (fA pa p wb db) b y :: L') M' → Kp l M'
section
variable {R : Mem} {L L' L2 : List HP} {M : Mem} {K : Value → Mem → Prop} {Kp : List PanicEntry → Mem → Prop} {pa : PA} {p : cf} {b wb db : Nat} {x : Sc} {m i : Int} {a : SA}
theorem JL {A : Option Addr} {q o : Nat} {G : Nat → Nat → Prop} (e : A = some ⟨q, o, none⟩) (g : G q o) : aD A G := by subst e; exact bp g
theorem BR {q2 k1 c : Nat} {g : Int} {kp : Bool} {A : Option Addr} {w : Wd} {d' : kI} {rest : Bool} {y : Sc} {o : kK}
  (h : Hp R (fI (c9 b wb db a x) x.gl :: ax (bx pa p) wb w :: ax (cn .nilFunc) db d' :: bR a.ap a.cp (bF a.lb x.ps) :: aR bA a.lb (x.ps.map cV.q) :: bV (some ⟨q2, 0, none⟩) a.cm x.ms :: pt k1 [.int .i64 0, .int .i64 0, .int .i64 0, .slice none 0 0] 47 :: L') M)
  (uh : RS bN R A c w.ready) (EH : a.am = some ⟨q2, 0, none⟩) (hl : a.lb.length = x.ps.length) (hpre : wG p x m) (hg : g = (av x m).g) (hkp : kp = dg w g rest) (he : gL x m g d' w rest = some (y, o)) (k : JK R pa p b wb db L' K Kp y o) :
  ∃ t13 : Bool, ∃ mP : Option Addr, ∃ gn : Nat, ∃ fU : Nat, ((Value.agg #[.bool kp, .slice A w.ready.length c]) = (.agg #[(.bool t13), (.slice mP gn fU)])) ∧
bg M (.cells #[(.bool false), (.slice none 0 0)] 120 (0, 0)) fun eG pZ =>
aF pZ ⟨eG, 0, none⟩ (.bool t13) fun jV =>
aF jV ⟨eG, (0 + 1), none⟩ (.slice mP gn fU) fun rm =>
aC (Mem.ld rm ⟨eG, (0 + 1), none⟩) fun xA gO ji =>
∃ Pr : Nat → List Value → Mem → Prop, (∃ uR : Nat, Pr uR [(.int .i64 0)] rm) ∧
∀ rq : Nat, ∀ Ps : Nat → Value, ∀ tT : Int, ∀ mO : Mem, (Pr rq [(.int .i64 tT)] mO) → aQ (decide ((tT : Int) < ((gO : Nat) : Int)))
 (((0 : Int) ≤ tT) ∧
 ((tT : Int) < ((gO : Nat) : Int)) ∧
 aD xA fun lF pL =>
 aG (Mem.ld mO ⟨lF, (pL + (Int.toNat tT)), none⟩) .i64 fun n32 =>
 aC (Mem.ld mO ⟨b, (0 + 5), none⟩) fun Ic yp w6 =>
 aG (Mem.ld mO ⟨q2, (m.toNat * 3), none⟩) .i64 fun xF =>
 ((0 : Int) ≤ xF) ∧
 ((xF : Int) < ((yp : Nat) : Int)) ∧
 aD Ic fun xe ia =>
 cj (Mem.ld mO ⟨xe, (ia + ((Int.toNat xF) * 3)), none⟩) fun TH =>
 aa Tryz.prog 134 #[(.pointer TH), (.int .i64 n32), (.pointer (some ⟨b, (0 + 7), none⟩))] mO (fun K5 Be =>
 aG (some K5) .i64 fun RQ =>
 ∃ w7 : Nat, (w7 < rq) ∧
 Pr w7 [(.int .i64 (IntKind.wrap .i64 (tT + 1)))] Be) Kp)
 (aG (Mem.ld mO ⟨q2, ((m.toNat * 3) + 2), none⟩) .i64 fun FK =>
 aF mO ⟨q2, ((m.toNat * 3) + 2), none⟩ (.int .i64 (IntKind.wrap .i64 (FK - 1))) fun ua =>
 c6 (Mem.ld ua ⟨eG, 0, none⟩) fun t46 =>
 aQ (!t46)
  (aF ua ⟨q2, ((m.toNat * 3) + 1), none⟩ (.int .i64 (-1)) fun vH =>
  cj (Mem.ld vH ⟨b, 0, none⟩) fun Le =>
  aa Tryz.prog 65 #[(.pointer Le), (.int .i64 g)] vH (fun H9 w5 =>
  aG (some H9) .i64 fun Ip =>
  aQ (Ip == 1)
   (bg w5 (.cells #[(.int .i64 g)] 3 (0, 0)) fun sA Iv =>
   aa Tryz.prog 53 #[(.pointer (some ⟨b, (0 + 7), none⟩)), (.slice (some ⟨sA, 0, none⟩) 1 1)] Iv (fun Lh xh =>
   (Lh = (.tuple #[])) ∧
   aC (Mem.ld xh ⟨eG, (0 + 1), none⟩) fun Pt xg FE =>
   aF xh ⟨k1, 0, none⟩ (.int .i64 7) fun yx =>
   aF yx ⟨k1, (0 + 1), none⟩ (.int .i64 m) fun AV =>
   aF AV ⟨k1, (0 + 2), none⟩ (.int .i64 g) fun CO =>
   aF CO ⟨k1, (0 + 3), none⟩ (.slice Pt xg FE) fun qJ =>
   aG (Mem.ld qJ ⟨k1, 0, none⟩) .i64 fun GP =>
   aG (Mem.ld qJ ⟨k1, (0 + 1), none⟩) .i64 fun n64 =>
   aG (Mem.ld qJ ⟨k1, (0 + 2), none⟩) .i64 fun yo =>
   aC (Mem.ld qJ ⟨k1, (0 + 3), none⟩) fun IL yw ud =>
   K (.agg #[(.int .i64 GP), (.int .i64 n64), (.int .i64 yo), (.slice IL yw ud)]) qJ) Kp)
   (aC (Mem.ld w5 ⟨eG, (0 + 1), none⟩) fun SC IG Km =>
   aF w5 ⟨k1, 0, none⟩ (.int .i64 7) fun z8 =>
   aF z8 ⟨k1, (0 + 1), none⟩ (.int .i64 m) fun Bh =>
   aF Bh ⟨k1, (0 + 2), none⟩ (.int .i64 g) fun Bf =>
   aF Bf ⟨k1, (0 + 3), none⟩ (.slice SC IG Km) fun uc =>
   aG (Mem.ld uc ⟨k1, 0, none⟩) .i64 fun KZ =>
   aG (Mem.ld uc ⟨k1, (0 + 1), none⟩) .i64 fun sU =>
   aG (Mem.ld uc ⟨k1, (0 + 2), none⟩) .i64 fun uE =>
   aC (Mem.ld uc ⟨k1, (0 + 3), none⟩) fun OJ Ld uU =>
   K (.agg #[(.int .i64 KZ), (.int .i64 sU), (.int .i64 uE), (.slice OJ Ld uU)]) uc)) Kp)
  (aG (Mem.ld ua ⟨q2, ((m.toNat * 3) + 2), none⟩) .i64 fun GQ =>
  aQ (GQ == 0)
   (aF ua ⟨q2, ((m.toNat * 3) + 1), none⟩ (.int .i64 (-1)) fun FL =>
   cj (Mem.ld FL ⟨b, 0, none⟩) fun XN =>
   aa Tryz.prog 65 #[(.pointer XN), (.int .i64 g)] FL (fun Si Lf =>
   aG (some Si) .i64 fun XO =>
   aQ (XO == 1)
    (bg Lf (.cells #[(.int .i64 g)] 3 (0, 0)) fun OG Aa =>
    aa Tryz.prog 53 #[(.pointer (some ⟨b, (0 + 7), none⟩)), (.slice (some ⟨OG, 0, none⟩) 1 1)] Aa (fun La pX =>
    (La = (.tuple #[])) ∧
    aC (Mem.ld pX ⟨eG, (0 + 1), none⟩) fun R8 Sj OH =>
    aF pX ⟨k1, 0, none⟩ (.int .i64 7) fun Lo =>
    aF Lo ⟨k1, (0 + 1), none⟩ (.int .i64 m) fun XP =>
    aF XP ⟨k1, (0 + 2), none⟩ (.int .i64 g) fun Lb =>
    aF Lb ⟨k1, (0 + 3), none⟩ (.slice R8 Sj OH) fun Jc =>
    aG (Mem.ld Jc ⟨k1, 0, none⟩) .i64 fun QL =>
    aG (Mem.ld Jc ⟨k1, (0 + 1), none⟩) .i64 fun ru =>
    aG (Mem.ld Jc ⟨k1, (0 + 2), none⟩) .i64 fun Ig =>
    aC (Mem.ld Jc ⟨k1, (0 + 3), none⟩) fun zB uD FU =>
    K (.agg #[(.int .i64 QL), (.int .i64 ru), (.int .i64 Ig), (.slice zB uD FU)]) Jc) Kp)
    (aC (Mem.ld Lf ⟨eG, (0 + 1), none⟩) fun zC uB FV =>
    aF Lf ⟨k1, 0, none⟩ (.int .i64 7) fun FY =>
    aF FY ⟨k1, (0 + 1), none⟩ (.int .i64 m) fun uy =>
    aF uy ⟨k1, (0 + 2), none⟩ (.int .i64 g) fun Pu =>
    aF Pu ⟨k1, (0 + 3), none⟩ (.slice zC uB FV) fun lK =>
    aG (Mem.ld lK ⟨k1, 0, none⟩) .i64 fun CQ =>
    aG (Mem.ld lK ⟨k1, (0 + 1), none⟩) .i64 fun Ih =>
    aG (Mem.ld lK ⟨k1, (0 + 2), none⟩) .i64 fun Ii =>
    aC (Mem.ld lK ⟨k1, (0 + 3), none⟩) fun Pv Pw Px =>
    K (.agg #[(.int .i64 CQ), (.int .i64 Ih), (.int .i64 Ii), (.slice Pv Pw Px)]) lK)) Kp)
   (aC (Mem.ld ua ⟨eG, (0 + 1), none⟩) fun Py Jd FZ =>
   aF ua ⟨k1, 0, none⟩ (.int .i64 7) fun Pz =>
   aF Pz ⟨k1, (0 + 1), none⟩ (.int .i64 m) fun PB =>
   aF PB ⟨k1, (0 + 2), none⟩ (.int .i64 g) fun Db =>
   aF Db ⟨k1, (0 + 3), none⟩ (.slice Py Jd FZ) fun vP =>
   aG (Mem.ld vP ⟨k1, 0, none⟩) .i64 fun PC =>
   aG (Mem.ld vP ⟨k1, (0 + 1), none⟩) .i64 fun F0 =>
   aG (Mem.ld vP ⟨k1, (0 + 2), none⟩) .i64 fun uF =>
   aC (Mem.ld vP ⟨k1, (0 + 3), none⟩) fun PD PE F1 =>
   K (.agg #[(.int .i64 PC), (.int .i64 F0), (.int .i64 uF), (.slice PD PE F1)]) vP))) := by
 obtain ⟨m0, m1, i0, i1, QW, P5, l1, l2, g0⟩ := hpre
 rw [← hg] at g0
 unfold gL at he
 split at he
 ·rename_i hc
  obtain ⟨hr, ZA⟩ := hc
  simp only [Option.some.injEq, Prod.mk.injEq] at he
  obtain ⟨BS, uf⟩ := he
  have kL := nV m0 m1
  have m2 : m.toNat < x.ms.length := by omega
  refine ⟨_, _, _, _, rfl, ?_⟩
  refine aj h ?_
  clear h; intro eG M h
  refine aq h ?_
  clear h; intro M h
  refine aq h ?_
  clear h; intro M h
  refine bl h ?_
  generalize zO : ({ x with w := w, d := d' } : Sc) = x1 at BS uf
  have q1 : x1.ps = x.ps := by rw [← zO]
  have QX : x1.ms = x.ms := by rw [← zO]
  have q3 : x1.gl = x.gl := by rw [← zO]
  have q4 : x1.w = w := by rw [← zO]
  have q5 : x1.d = d' := by rw [← zO]
  have q6 : c9 b wb db a x1 = c9 b wb db a x := by rw [← zO]
  have q7 : av x1 m = av x m := by rw [← zO]; rfl
  have hf := gd (m := m) (l := w.ready) (z := x1) (by rw [q7]; exact i0) (by rw [q7, q1]; exact i1)
  rw [← q1, ← QX, ← q3, ← q4, ← q5, ← q6] at h
  rw [← q4] at uh ZA hr
  rw [show w.ready = x1.w.ready from by rw [q4]] at BS uf hf ⊢
  clear zO
  have key : ∀ j, j ≤ x1.w.ready.length → ((x1.w.ready.take j).foldl (aI m) x1).ms = x1.ms ∧ ((x1.w.ready.take j).foldl (aI m) x1).ps.length = x1.ps.length ∧ ((x1.w.ready.take j).foldl (aI m) x1).w = x1.w ∧ ((x1.w.ready.take j).foldl (aI m) x1).d = x1.d ∧ ((x1.w.ready.take j).foldl (aI m) x1).c = x1.c ∧ ((x1.w.ready.take j).foldl (aI m) x1).steps = x1.steps ∧ ∀ bs, bF bs ((x1.w.ready.take j).foldl (aI m) x1).ps = bF bs x1.ps :=
   fun j _ => gd (m := m) (l := x1.w.ready.take j) (z := x1) (by rw [q7]; exact i0) (by rw [q7, q1]; exact i1)
  refine ⟨fun d vs M => ∃ j : Nat, vs = [.int .i64 (j : Int)] ∧ d = x1.w.ready.length - j ∧ j ≤ x1.w.ready.length ∧ ((x1.w.ready.take j).foldl (aI m) x1).gl.length ≤ 1000000 + 1030 * j ∧
    Hp R (fI (c9 b wb db a x1) ((x1.w.ready.take j).foldl (aI m) x1).gl :: ax (bx pa p) wb x1.w :: ax (cn .nilFunc) db x1.d :: bR a.ap a.cp (bF a.lb x1.ps) :: aR bA a.lb (((x1.w.ready.take j).foldl (aI m) x1).ps.map cV.q) :: bV (some ⟨q2, 0, none⟩) a.cm x1.ms :: wI eG kp A x1.w.ready.length c :: pt k1 [.int .i64 0, .int .i64 0, .int .i64 0, .slice none 0 0] 47 :: L') M,
   ⟨_, 0, rfl, rfl, by omega, by rw [List.take_zero, List.foldl_nil, q3]; omega, h.sub bQ⟩, ?_⟩
  clear h
  rintro d _ nn M ⟨j, ZB, hd, hj, P7, h⟩
  simp only [List.cons.injEq, Value.int.injEq, and_true, true_and] at ZB
  subst ZB
  obtain ⟨z1, z2, z3, z4, z5, z6, z7⟩ := key j hj
  refine aL.2 ⟨fun hlt => ?_, fun hge => ?_⟩
  ·obtain ⟨rv, ZC⟩ := aN (l := x1.w.ready) (i := j) (by omega)
   refine ⟨by omega, hlt, ?_⟩
   obtain ⟨rb, ro, hrb⟩ := uh.some (by omega) (by decide)
   have S6 := uh
   rw [hrb] at S6
   refine JL hrb ?_
   simp only [Int.toNat_natCast]
   refine br (Src.at (S6.src (L := _)) h (i := j) (j := 0) ZC rfl (by simp [bN])) ?_
   have hstep : (x1.w.ready.take (j + 1)).foldl (aI m) x1 = aI m ((x1.w.ready.take j).foldl (aI m) x1) rv := by rw [dB ZC, List.foldl_append]; rfl
   generalize hz : (x1.w.ready.take j).foldl (aI m) x1 = z at h hstep z1 z2 z3 z4 z5 z6 z7 P7
   have S7 : av z m = av x m := by unfold av; rw [z1, QX]
   have hps : z.ps.length = x.ps.length := by rw [z2, q1]
   rw [JG h]
   refine aW ?_
   refine br (Src.at (h.src (A := some ⟨q2, 0, none⟩)) h (i := m.toNat) (j := 0) (a := av x m) (by rw [QX]; exact kL) rfl (by show _ = 0 + (m.toNat * 3 + 0); simp)) ?_
   refine ⟨i0, by rw [q1]; exact i1, ?_⟩
   have S8 : a.lb.length = z.ps.length := by rw [hps]; exact hl
   obtain ⟨lb, hlb, kJ, hrow⟩ := nU (i := (av x m).p) (x := z) S8 i0 (by rw [hps]; exact i1)
   rw [z7] at hrow
   obtain ⟨q, hq⟩ := h.bt (A := a.ap) (l := bF a.lb x1.ps) (by rw [jl (by rw [q1]; exact hl), q1]; omega) (by decide)
   have hs0 := (h.src (A := a.ap)) M h
   rw [hq] at hs0
   refine JL hq ?_
   refine kq (Sl.at hs0 (i := (av x m).p.toNat * 3 + 0) (by simp) (jv.qW (E := nQ) hrow rfl)) ?_
   clear hs0
   have hqz : (z.ps.map cV.q)[(av x m).p.toNat]? = some (aB z (av x m).p).q := by rw [List.getElem?_map, kJ]; rfl
   replace h := h.cz bA hlb hqz
   replace h : Hp R (ax bA lb (aB z (av x m).p).q :: fI (c9 b wb db a x1) z.gl :: jH bA a.lb (z.ps.map cV.q) (av x m).p.toNat :: ax (bx pa p) wb x1.w :: ax (cn .nilFunc) db x1.d :: bR a.ap a.cp (bF a.lb x1.ps) :: bV (some ⟨q2, 0, none⟩) a.cm x1.ms :: wI eG kp A x1.w.ready.length c :: pt k1 [.int .i64 0, .int .i64 0, .int .i64 0, .slice none 0 0] 47 :: L') M := h.sub bQ
   have hbd := tu h (b := lb)
   have je := Gx (q := (aB z (av x m).p).q) (r := rv) (gl := z.gl)
   refine Bw (P := c9 b wb db a x1) wz h (by omega) ?_
   clear h; intro M h
   refine cF ?_
   replace h := h.cY bA lb hlb (by rw [List.length_map]; omega)
   refine ⟨x1.w.ready.length - (j + 1), by omega, j + 1, by rw [bk (by omega)], rfl, by omega, ?_, ?_⟩
   ·rw [hstep]
    unfold aI
    rw [S7]
    dsimp only
    obtain ⟨b1, b2, b3⟩ := hbd
    omega
   ·rw [hstep]
    have e2 : (aI m z rv).ps.map cV.q = (z.ps.map cV.q).set (av x m).p.toNat ((aB z (av x m).p).q.ready rv z.gl).1 := by
     unfold aI; rw [S7]; simp [Sc.b7, List.map_set]
    have e3 : (aI m z rv).gl = ((aB z (av x m).p).q.ready rv z.gl).2.1 := by unfold aI; rw [S7]
    rw [e2, e3]
    exact h.sub bQ
  ·have GW : j = x1.w.ready.length := by omega
   subst GW
   rw [List.take_length] at z1 z2 z3 z4 z5 z6 z7 P7 h
   clear key hf
   generalize hrd : x1.w.ready = rd at *
   generalize hz : rd.foldl (aI m) x1 = z at h z1 z2 z3 z4 z5 z6 z7 P7 BS uf
   have S7 : av z m = av x m := by unfold av; rw [z1, QX]
   have ez : c9 b wb db a z = c9 b wb db a x1 := by unfold c9 dm; rw [z1, z2, z5, z6]
   have S8 : a.lb.length = z.ps.length := by rw [z2, q1]; exact hl
   rw [← ez, ← z3, ← z4, ← z7, ← z1] at h
   have S9 : z.ms[m.toNat]? = some (av z m) := nV m0 (by rw [z1, QX]; exact m1)
   have ZD : m < z.ms.length := by rw [z1, QX]; exact m1
   have m2z : m.toNat < z.ms.length := by omega
   rw [← S7] at l1 l2
   refine br (Src.at (h.src (A := some ⟨q2, 0, none⟩)) h (i := m.toNat) (j := 2) S9 rfl (by show _ = 0 + (m.toNat * 3 + 2); omega)) ?_
   rw [cD (by omega) (by omega)]
   refine gS (E := jP) (a' := { av z m with left := (av z m).left - 1 }) m.toNat 2 h S9 (by decide) rfl rfl ?_
   clear h; intro M h
   replace h : Hp R (fI (c9 b wb db a z) z.gl :: ax (bx pa p) wb z.w :: ax (cn .nilFunc) db z.d :: bR a.ap a.cp (bF a.lb z.ps) :: aR bA a.lb (z.ps.map cV.q) :: bV (some ⟨q2, 0, none⟩) a.cm (z.ms.set m.toNat { av z m with left := (av z m).left - 1 }) :: wI eG kp A rd.length c :: pt k1 [.int .i64 0, .int .i64 0, .int .i64 0, .slice none 0 0] 47 :: L') M := h.sub bQ
   refine Ea h ?_
   have ZE : g < z.w.gs.length := by rw [z3]; exact ZA
   have BT : (¬ (dg w g rest = true ∧ (av z m).left - 1 ≠ 0)) → ∀ M', Hp R (ax (fA pa p wb db) b { z.eT m { av z m with left := (av z m).left - 1, g := -1 } with gl := if (ae z.w g).st = 1 then z.gl ++ [g] else z.gl } :: L') M' → K (DL ⟨7, m, g, rd⟩ A c) M' := by
    intro hno M' h'
    unfold Sc.nY at BS uf
    rw [if_neg hno] at BS uf
    dsimp only at BS uf
    subst uf
    exact k R A c M' (Mem.le_refl _) uh (by rw [← BS]; exact h')
   cases hk : kp with
   | false =>
    subst hk
    refine af ?_
    exact BQ h EH S8 m0 ZD g0 ZE (by omega) (BT (fun hc => by rw [← hkp] at hc; cases hc.1))
   | true =>
    subst hk
    refine ai ?_
    refine br (Src.at (h.src (A := some ⟨q2, 0, none⟩)) h (i := m.toNat) (j := 2) (a := { av z m with left := (av z m).left - 1 }) (by simp [m2z]) rfl (by show _ = 0 + (m.toNat * 3 + 2); omega)) ?_
    refine bP.2 ⟨fun e0 => ?_, fun e0 => ?_⟩
    ·exact BQ h EH S8 m0 ZD g0 ZE (by omega) (BT (fun hc => hc.2 e0))
    ·refine bl h ?_
     refine jm h ?_
     clear h; intro M h
     refine nS h ?_
     unfold Sc.nY at BS uf
     rw [if_pos ⟨hkp.symm, e0⟩] at BS uf
     dsimp only at BS uf
     subst uf
     refine k R A c M (Mem.le_refl _) uh ?_
     rw [← BS]
     refine g9 (a := a) (x := z.eT m { av z m with left := (av z m).left - 1 }) S8 ?_
     rw [wD]
     show Hp R (_ :: _ :: _ :: _ :: _ :: bV a.am a.cm (z.ms.set m.toNat { av z m with left := (av z m).left - 1 }) :: _) M
     rw [EH]
     exact h.sub bQ
 ·cases he
end
section
variable {R : Mem} {L L' L2 : List HP} {M : Mem} {K : Value → Mem → Prop} {Kp : List PanicEntry → Mem → Prop} {pa : PA} {p : cf} {b wb db : Nat} {x : Sc} {m i : Int}
theorem Gz {y : Sc} {o : kK} (h : Hp R L M) [q : nR b L pa p wb db x L'] (hp : mH R pa p) (hd : x.d.k.Ok) (he : x.run p m = some (y, o)) (k : JK R pa p b wb db L' K Kp y o) :
  aa Tryz.prog 102 #[.pointer (some ⟨b, 0, none⟩), .int .i64 m] M K Kp := by
 unfold Sc.run at he
 split at he
 ·rename_i hpre
  have Ta := hpre
  obtain ⟨m0, m1, i0, i1, QW, P5, l1, l2, g0⟩ := Ta
  split at he
  ·rename_i uH
   have wH : x.d.Ok := ⟨hd, by omega⟩
   refine qp ?_
   refine aj h ?_
   clear h
   intro k1 M h
   have h' := fB h (b := b)
   clear h
   obtain ⟨a, hl, h⟩ := h'
   have kL := nV m0 m1
   obtain ⟨q2, oB⟩ := h.bt (A := a.am) (l := x.ms) (by omega) (by decide)
   replace h : Hp R (fI (c9 b wb db a x) x.gl :: ax (bx pa p) wb x.w :: ax (cn .nilFunc) db x.d :: bR a.ap a.cp (bF a.lb x.ps) :: aR bA a.lb (x.ps.map cV.q) :: bV (some ⟨q2, 0, none⟩) a.cm x.ms :: pt k1 [.int .i64 0, .int .i64 0, .int .i64 0, .slice none 0 0] 47 :: L') M := by
    unfold gK at h
    rw [show bV a.am a.cm x.ms = bV (some ⟨q2, 0, none⟩) a.cm x.ms from by rw [oB]] at h
    exact h.sub bQ
   rw [wF h]
   refine aW ⟨m0, m1, ?_⟩
   refine JL oB ?_
   refine br (Src.at (h.src (A := some ⟨q2, 0, none⟩)) h (i := m.toNat) (j := 1) kL rfl (by show _ = 0 + (m.toNat * 3 + 1); omega)) ?_
   simp only [Nat.zero_add]
   rw [SZ h]
   refine fR ?_
   rw [show M.ld ⟨b, 8, none⟩ = some (.pointer (some ⟨db, 0, none⟩)) from P4 h]
   refine fR ⟨trivial, ?_⟩
   replace h : Hp R (ax (bx pa p) wb x.w :: ax (cn .nilFunc) db x.d :: fI (c9 b wb db a x) x.gl :: bR a.ap a.cp (bF a.lb x.ps) :: aR bA a.lb (x.ps.map cV.q) :: bV (some ⟨q2, 0, none⟩) a.cm x.ms :: pt k1 [.int .i64 0, .int .i64 0, .int .i64 0, .slice none 0 0] 47 :: L') M := h.sub bQ
   generalize JM : (fI (c9 b wb db a x) x.gl :: bR a.ap a.cp (bF a.lb x.ps) :: aR bA a.lb (x.ps.map cV.q) :: bV (some ⟨q2, 0, none⟩) a.cm x.ms :: pt k1 [.int .i64 0, .int .i64 0, .int .i64 0, .slice none 0 0] 47 :: L') = LL at h
   have hds : match asks p { x.w with ready := [] } (av x m).g with
     | none => (ax (cn .nilFunc) db (dU x.d (asks p { x.w with ready := [] } (av x m).g)).1 :: LL) = (ax (cn .nilFunc) db x.d :: LL)
     | some (kd, n) => gJ R (.func (.func 98) #[.pointer (some ⟨db, 0, none⟩)] #[]) kd n (dU x.d (asks p { x.w with ready := [] } (av x m).g)).2 (ax (cn .nilFunc) db x.d :: LL) (ax (cn .nilFunc) db (dU x.d (asks p { x.w with ready := [] } (av x m).g)).1 :: LL) := by
    cases T7 : asks p { x.w with ready := [] } (av x m).g with
    | none => rfl
    | some kn =>
     obtain ⟨kd, n⟩ := kn
     rw [T7] at uH
     exact Gt wH (of_decide_eq_true uH) P5
   have DA : ∀ l, (dU x.d (asks p { x.w with ready := [] } (av x m).g)).2 = .cG l → yL l (uI l) := by
    intro l hl
    cases T7 : asks p { x.w with ready := [] } (av x m).g with
    | none => rw [T7] at hl; cases hl
    | some kn =>
     obtain ⟨kd, n⟩ := kn
     rw [T7] at hl
     exact (BP (x' := (x.d.draw kd n).1) (by rw [← hl]; rfl)).2
   generalize uk : dU x.d (asks p { x.w with ready := [] } (av x m).g) = dd at he hds DA
   obtain ⟨d', dr⟩ := dd
   dsimp only at he hds DA
   cases hex : jO p x.w (av x m).g dr with
   | none => rw [hex] at he; cases he
   | some rr =>
    obtain ⟨r, rest⟩ := rr
    rw [hex] at he
    refine Gr h hp ⟨_, _, _, rfl⟩ hex hds ?_
    cases r with
    | cG l w =>
     dsimp only at he
     simp only [Option.some.injEq, Prod.mk.injEq] at he
     obtain ⟨BS, uf⟩ := he
     obtain ⟨wg, hw⟩ := yS hex
     refine ⟨uI l, DA l wg, ?_⟩
     intro M h
     subst uf
     refine k M ?_
     rw [← BS]
     rw [← JM] at h
     have h9 : Hp R (fI (c9 b wb db a { x with w := w, d := d' }) x.gl :: ax (bx pa p) wb w :: ax (cn .nilFunc) db d' :: bR a.ap a.cp (bF a.lb x.ps) :: aR bA a.lb (x.ps.map cV.q) :: bV a.am a.cm x.ms :: L') M := by
      rw [show bV a.am a.cm x.ms = bV (some ⟨q2, 0, none⟩) a.cm x.ms from by rw [oB], show c9 b wb db a { x with w := w, d := d' } = c9 b wb db a x from rfl]
      exact h.sub bQ
     exact g9 (a := a) (x := { x with w := w, d := d' }) hl h9
    | on w =>
     intro R' A c M hle uh h
     rw [← JM] at h
     have h2 : Hp R' (fI (c9 b wb db a x) x.gl :: ax (bx pa p) wb w :: ax (cn .nilFunc) db d' :: bR a.ap a.cp (bF a.lb x.ps) :: aR bA a.lb (x.ps.map cV.q) :: bV (some ⟨q2, 0, none⟩) a.cm x.ms :: pt k1 [.int .i64 0, .int .i64 0, .int .i64 0, .slice none 0 0] 47 :: L') M := h.sub bQ
     refine BR (K := K) (Kp := Kp) (w := w) (g := (av x m).g) (kp := dg w (av x m).g rest) (rest := rest) h2 uh oB hl hpre rfl rfl he ?_
     cases o with
     | ev e => exact fun R2 A2 c2 M2 BU => k R2 A2 c2 M2 (Mem.le_trans hle BU)
     | cG l =>
      dsimp only at he
      unfold gL at he
      split at he
      ·simp only [Option.some.injEq, Prod.mk.injEq] at he; cases he.2
      ·cases he
    | dy n w =>
     intro R' A c M hle uh h
     rw [← JM] at h
     have h2 : Hp R' (fI (c9 b wb db a x) x.gl :: ax (bx pa p) wb { w with end_ := 2, code := n } :: ax (cn .nilFunc) db d' :: bR a.ap a.cp (bF a.lb x.ps) :: aR bA a.lb (x.ps.map cV.q) :: bV (some ⟨q2, 0, none⟩) a.cm x.ms :: pt k1 [.int .i64 0, .int .i64 0, .int .i64 0, .slice none 0 0] 47 :: L') M := h.sub bQ
     refine BR (K := K) (Kp := Kp) (w := { w with end_ := 2, code := n }) (g := (av x m).g) (kp := dg { w with end_ := 2, code := n } (av x m).g rest) (rest := rest) h2 uh oB hl hpre rfl rfl he ?_
     cases o with
     | ev e => exact fun R2 A2 c2 M2 BU => k R2 A2 c2 M2 (Mem.le_trans hle BU)
     | cG l =>
      dsimp only at he
      unfold gL at he
      split at he
      ·simp only [Option.some.injEq, Prod.mk.injEq] at he; cases he.2
      ·cases he
  ·cases he
 ·cases he
theorem JN {e : Ev} {o : kK} {y z : Sc} (h : xL (z, .ev e) = (y, o)) : o = .ev e ∧ y = { z with steps := z.steps + 1 } := by
 unfold xL at h; cases h; exact ⟨rfl, rfl⟩
theorem wJ {y : Sc} {o : kK} (h : Hp R L M) [q : nR b L pa p wb db x L'] (hp : mH R pa p) (hd : x.d.k.Ok) (he : x.step p = some (y, o)) (k : JK R pa p b wb db L' K Kp y o) :
  aa Tryz.prog 50 #[.pointer (some ⟨b, 0, none⟩)] M K Kp := by
 unfold Sc.step at he
 split at he
 ·rename_i hpre
  obtain ⟨Ko, hcM, hps, hms, P5, hst0, hst1⟩ := hpre
  refine pC ?_
  refine aj h ?_
  clear h
  intro k1 M h
  refine lS h Ko ?_
  refine cF ?_
  split at he
  ·rename_i hst
   simp only [Option.some.injEq, Prod.mk.injEq] at he
   obtain ⟨BS, uf⟩ := he
   subst BS; subst uf
   refine eo.2 ⟨fun _ => ?_, fun hn => absurd hn hst⟩
   refine jm h ?_
   clear h; intro M h
   refine nS h ?_
   exact k R none 0 M (Mem.le_refl _) (RS.nil _ _) (h.drop.pick q.pick)
  ·rename_i hst
   refine eo.2 ⟨fun hn => absurd hn hst, fun _ => ?_⟩
   have h' := fB h (b := b)
   clear h
   obtain ⟨a, hl, h⟩ := h'
   rw [P4 h]
   refine fR ?_
   rw [SY h]
   refine cF ?_
   have wH : x.d.Ok := ⟨hd, by omega⟩
   have hnw : IntKind.wrap .i64 (x.c.M + 1) = x.c.M + 1 := cD (by omega) (by omega)
   rw [hnw]
   replace h : Hp R (ax (cn .nilFunc) db x.d :: fI (c9 b wb db a x) x.gl :: ax (bx pa p) wb x.w :: bR a.ap a.cp (bF a.lb x.ps) :: aR bA a.lb (x.ps.map cV.q) :: bV a.am a.cm x.ms :: pt k1 [.int .i64 0, .int .i64 0, .int .i64 0, .slice none 0 0] 47 :: L') M := h.sub bQ
   refine nO h wH (by omega) (by omega) ?_
   clear h
   have Tb := lT (kind := 1) (n := x.c.M + 1) hd
   have DK : ∀ x' v, x.d.draw 1 (x.c.M + 1) = (x', .num v) → 0 ≤ v ∧ v < x.c.M + 1 ∧ x'.taken = x.d.taken ++ [(1, v)] := by
    intro x' v hv
    have := nX hd hv
    rw [show j3 (x.c.M + 1) = x.c.M + 1 from by unfold j3; rw [if_neg (by omega)]] at this
    exact this
   generalize uk : x.d.draw 1 (x.c.M + 1) = dd at he Tb DK
   obtain ⟨d', dr⟩ := dd
   have mk : ∀ {M : Mem}, Hp R (ax (cn .nilFunc) db d' :: fI (c9 b wb db a x) x.gl :: ax (bx pa p) wb x.w :: bR a.ap a.cp (bF a.lb x.ps) :: aR bA a.lb (x.ps.map cV.q) :: bV a.am a.cm x.ms :: pt k1 [.int .i64 0, .int .i64 0, .int .i64 0, .slice none 0 0] 47 :: L') M → Hp R (ax (fA pa p wb db) b { x with d := d' } :: pt k1 [.int .i64 0, .int .i64 0, .int .i64 0, .slice none 0 0] 47 :: L') M :=
    fun h => g9 (a := a) (x := { x with d := d' }) hl (h.sub bQ)
   cases dr with
   | cG l =>
    dsimp only at he ⊢
    simp only [Option.some.injEq, Prod.mk.injEq] at he
    obtain ⟨BS, uf⟩ := he
    intro M h
    subst uf
    refine k M ?_
    rw [← BS]
    exact (mk h).bM
   | num mm =>
    dsimp only at he ⊢
    obtain ⟨v0, v1, htk2⟩ := DK d' mm rfl
    intro M h
    replace h := mk h
    clear mk
    refine cF ?_
    generalize zO : ({ x with d := d' } : Sc) = x1 at h he
    have e1 : x1.c = x.c := by rw [← zO]
    have e2 : x1.ms = x.ms := by rw [← zO]
    have e3 : x1.ps = x.ps := by rw [← zO]
    have e4 : x1.d.k.Ok := by rw [← zO]; exact Tb
    have e5 : x1.steps = x.steps := by rw [← zO]
    clear zO
    refine aj h ?_
    clear h; intro eY M h
    replace h : Hp R (ax (fA pa p wb db) b x1 :: pt k1 [.int .i64 0, .int .i64 0, .int .i64 0, .slice none 0 0] 47 :: pt eY [.int .i64 0, .int .i64 0, .int .i64 0, .slice none 0 0] 47 :: L') M := h.sub bQ
    have fin : ∀ (R' : Mem) (A : Option Addr) (c : Nat) (M : Mem) (z : Sc) (e : Ev), R.le R' → RS bN R' A c e.ready → z.steps = x.steps → xL (z, .ev e) = (y, o) → Hp R' (ax (fA pa p wb db) b z :: pt k1 [.int .i64 0, .int .i64 0, .int .i64 0, .slice none 0 0] 47 :: pt eY [.int .i64 0, .int .i64 0, .int .i64 0, .slice none 0 0] 47 :: L') M →
      aF M ⟨eY, 0, none⟩ (.int .i64 e.kind) fun pK => aF pK ⟨eY, (0 + 1), none⟩ (.int .i64 e.m) fun Cd => aF Cd ⟨eY, (0 + 2), none⟩ (.int .i64 e.g) fun sB => aF sB ⟨eY, (0 + 3), none⟩ (.slice A e.ready.length c) fun xH =>
      aG (Mem.ld xH ⟨b, (0 + 9), none⟩) .i64 fun xF => aF xH ⟨b, (0 + 9), none⟩ (.int .i64 (IntKind.wrap .i64 (xF + 1))) fun FM =>
      aG (Mem.ld FM ⟨eY, 0, none⟩) .i64 fun FC => aG (Mem.ld FM ⟨eY, (0 + 1), none⟩) .i64 fun GM => aG (Mem.ld FM ⟨eY, (0 + 2), none⟩) .i64 fun MY => aC (Mem.ld FM ⟨eY, (0 + 3), none⟩) fun RV Og w7 =>
      aF FM ⟨k1, 0, none⟩ (.int .i64 FC) fun xG => aF xG ⟨k1, (0 + 1), none⟩ (.int .i64 GM) fun ua => aF ua ⟨k1, (0 + 2), none⟩ (.int .i64 MY) fun IF => aF IF ⟨k1, (0 + 3), none⟩ (.slice RV Og w7) fun vH =>
      aG (Mem.ld vH ⟨k1, 0, none⟩) .i64 fun GU => aG (Mem.ld vH ⟨k1, (0 + 1), none⟩) .i64 fun QJ => aG (Mem.ld vH ⟨k1, (0 + 2), none⟩) .i64 fun Oz => aC (Mem.ld vH ⟨k1, (0 + 3), none⟩) fun Oh sA rj =>
      K (.agg #[(.int .i64 GU), (.int .i64 QJ), (.int .i64 Oz), (.slice Oh sA rj)]) vH := by
     intro R' A c M z e hle uh hzs Yz h
     obtain ⟨ho, hy⟩ := JN Yz
     subst ho; subst hy
     refine jm h ?_
     clear h; intro M h
     have h' := fB h (b := b)
     clear h
     obtain ⟨a3, PY, h⟩ := h'
     have h' := lR h
     clear h
     obtain ⟨A4, c4, h⟩ := h'
     refine aH h ?_
     rw [cD (by omega) (by omega)]
     refine aq h ?_
     clear h; intro M h
     refine nS h ?_
     refine jm h ?_
     clear h; intro M h
     refine nS h ?_
     refine k R' A c M hle uh (g9 (a := a3) (x := { z with steps := z.steps + 1 }) PY ?_)
     exact uW (x := { z with steps := z.steps + 1 }) (h.sub bQ)
    have h' := fB h (b := b)
    clear h
    obtain ⟨a5, hl5, h⟩ := h'
    rw [SY h]
    refine cF ?_
    have yP : ∀ {M : Mem}, Hp R (fI (c9 b wb db a5 x1) x1.gl :: ax (bx pa p) wb x1.w :: ax (cn .nilFunc) db x1.d :: gK a5 x1 (pt k1 [.int .i64 0, .int .i64 0, .int .i64 0, .slice none 0 0] 47 :: pt eY [.int .i64 0, .int .i64 0, .int .i64 0, .slice none 0 0] 47 :: L')) M → Hp R (ax (fA pa p wb db) b x1 :: pt k1 [.int .i64 0, .int .i64 0, .int .i64 0, .slice none 0 0] 47 :: pt eY [.int .i64 0, .int .i64 0, .int .i64 0, .slice none 0 0] 47 :: L') M := fun h => g9 (a := a5) hl5 h
    unfold Sc.act at he
    refine bP.2 ⟨fun em => ?_, fun em => ?_⟩
    ·rw [if_pos em] at he
     split at he
     ·rename_i Tc
      simp only [Option.map_some, Option.some.injEq] at he
      refine DM (yP h) Tc ?_
      clear h; intro R' A c M hle uh h
      refine ⟨_, _, _, _, _, _, rfl, ?_⟩
      exact fin R' A c M _ _ hle uh (by rw [← e5]; rfl) he h
     ·cases he
    rw [if_neg em] at he
    have T8 : mm < x1.ms.length := by
     have a1 : x1.c.M = x.c.M := by rw [e1]
     have a2 : x1.ms.length = x.ms.length := by rw [e2]
     omega
    have kL := nV v0 T8
    obtain ⟨q2, oB⟩ := h.bt (A := a5.am) (l := x1.ms) (by omega) (by decide)
    have hs0 := (h.src (A := a5.am)) M h
    rw [oB] at hs0
    rw [wF h]
    refine aW ⟨v0, T8, ?_⟩
    refine JL oB ?_
    refine br (Sl.at hs0 (i := mm.toNat * 3 + 0) (by simp) (jv.qW (E := jP) kL rfl)) ?_
    refine bP.2 ⟨fun ep => ?_, fun ep => ?_⟩
    ·rw [if_pos ep] at he
     simp only [Option.map_some, Option.some.injEq] at he
     refine DN (yP h) v0 T8 (by rw [e3]; omega) ?_
     clear h hs0; intro M h
     have CF : (x1.hold mm).2.ready = [] := by unfold Sc.hold; split <;> rfl
     have qB : (x1.hold mm).1.steps = x.steps := by rw [← e5]; unfold Sc.hold; split <;> rfl
     refine ⟨_, _, _, _, _, _, rfl, ?_⟩
     exact fin R none 0 M _ _ (Mem.le_refl _) (by rw [CF]; exact RS.nil _ _) qB he h
    rw [if_neg ep] at he
    refine aW ⟨v0, T8, ?_⟩
    refine JL oB ?_
    refine br (Sl.at hs0 (i := mm.toNat * 3 + 1) (by simp) (jv.qW (E := jP) kL rfl)) ?_
    clear hs0
    refine bP.2 ⟨fun eg => ?_, fun eg => ?_⟩
    ·rw [if_pos eg] at he
     split at he
     ·rename_i hfo
      simp only [Option.map_some, Option.some.injEq] at he
      have qB : (x1.find mm).1.steps = x.steps := by
       rw [← e5]
       have yN : ∀ (z : Sc) a b c d e, (z.bJ a b c d e).1.steps = z.steps := by intro z a b c d e; unfold Sc.bJ; split <;> rfl
       unfold Sc.find
       dsimp only
       split
       ·rfl
       ·split
        ·split
         ·rfl
         ·split <;> exact yN ..
        ·exact yN ..
      have hrd : ∀ e, (x1.find mm).2 = .ev e → e.ready = [] := by
       have yN : ∀ (z : Sc) a b c d e, (z.bJ a b c d e).2.ready = [] := by intro z a b c d e; unfold Sc.bJ; split <;> rfl
       intro e CF
       unfold Sc.find at CF
       dsimp only at CF
       split at CF
       ·cases CF; rfl
       ·split at CF
        ·split at CF
         ·cases CF
         ·split at CF <;> · cases CF; exact yN ..
        ·cases CF; exact yN ..
      refine DO (yP h) hfo e4 ?_
      clear h
      generalize TE : x1.find mm = ff at he qB hrd ⊢
      obtain ⟨z, oo⟩ := ff
      cases oo with
      | ev e =>
       dsimp only at qB hrd ⊢
       intro M h
       refine ⟨_, _, _, _, _, _, rfl, ?_⟩
       have Yt : e.ready = [] := hrd e rfl
       exact fin R none 0 M _ e (Mem.le_refl _) (by rw [Yt]; exact RS.nil _ _) qB he h
      | cG l =>
       dsimp only
       intro M h
       unfold xL at he
       cases he
       exact k M h.bM
     ·cases he
    rw [if_neg eg] at he
    cases hrun : x1.run p mm with
    | none => rw [hrun] at he; cases he
    | some rr =>
     obtain ⟨z, oo⟩ := rr
     rw [hrun] at he
     simp only [Option.map_some, Option.some.injEq] at he
     refine Gz (yP h) hp e4 hrun ?_
     clear h
     have qB : z.steps = x.steps := by
      rw [← e5]
      unfold Sc.run at hrun
      split at hrun
      ·rename_i Td
       obtain ⟨_, _, i0, i1, _⟩ := Td
       have Hq : ∀ d w rest, gL x1 mm (av x1 mm).g d w rest = some (z, oo) → z.steps = x1.steps := by
        intro d w rest Hq
        unfold gL at Hq
        split at Hq
        ·simp only [Option.some.injEq, Prod.mk.injEq] at Hq
         rw [← Hq.1]
         have := gd (m := mm) w.ready { x1 with w := w, d := d } i0 i1
         unfold Sc.nY
         split <;> exact this.2.2.2.2.2.1
        ·cases Hq
       split at hrun
       ·split at hrun
        ·cases hrun
        ·simp only [Option.some.injEq, Prod.mk.injEq] at hrun; rw [← hrun.1]
        ·exact Hq _ _ _ hrun
        ·exact Hq _ _ _ hrun
       ·cases hrun
      ·cases hrun
     cases oo with
     | ev e =>
      intro R' A c M hle uh h
      refine ⟨_, _, _, _, _, _, rfl, ?_⟩
      exact fin R' A c M _ e hle uh qB he h
     | cG l =>
      intro M h
      unfold xL at he
      cases he
      exact k M h.bM
 ·cases he
end
def Sc.new (p : cf) (c : Nv) (d : kI) : Sc := ⟨Wd.new p, c, List.replicate c.P.toNat ⟨⟨-1, fx c.R, []⟩, 0, -1⟩, List.replicate c.M.toNat ⟨-1, -1, 0⟩, [0], d, 0⟩
theorem EI : bu Tryz.prog 132 141 3 24 [.pointer none, .int .i64 0, .int .i64 0] := bu.mk' (zv := .agg #[.pointer none, .int .i64 0, .int .i64 0]) (by kernel_rfl) (by kernel_rfl) rfl (by omega)
theorem LU : bu Tryz.prog 133 143 3 24 [.int .i64 0, .int .i64 0, .int .i64 0] := bu.mk' (zv := .agg #[.int .i64 0, .int .i64 0, .int .i64 0]) (by kernel_rfl) (by kernel_rfl) rfl (by omega)
theorem yT {bs : List Nat} {ps : List cV} {b : Nat} {y : cV} (h : bs.length = ps.length) : bF (bs ++ [b]) (ps ++ [y]) = bF bs ps ++ [(b, y.turns, y.fS)] := by
 unfold bF; rw [List.zipWith_append h]; rfl
section
variable {R : Mem} {L L' L2 : List HP} {M : Mem} {K : Value → Mem → Prop} {Kp : List PanicEntry → Mem → Prop} {pa : PA} {p : cf} {b wb db : Nat} {x : Sc} {m i : Int}
theorem oH {c : Nv} {d : kI} (h : Hp R L M) [o : bW (cn .nilFunc) db L d L'] (xk : RS bN R pa.c pa.cc p.oA) (hc : p.oA.length ≤ 1000000) (hk : 0 ≤ p.aP ∧ p.aP ≤ 1000000) (hP : 0 ≤ c.P ∧ c.P ≤ 1000000) (hM : 0 ≤ c.M ∧ c.M ≤ 1000000)
  (k : ∀ b wb M', Hp R (ax (fA pa p wb db) b (Sc.new p c d) :: L') M' → K (.pointer (some ⟨b, 0, none⟩)) M') :
  aa Tryz.prog 16 #[.agg #[.slice pa.f p.funcs.length pa.fc, .slice pa.c p.oA.length pa.cc, .int .i64 p.aP, .slice pa.k p.cases.length pa.kc], .agg #[.int .i64 c.P, .int .i64 c.M, .int .i64 c.R, .int .i64 c.S], .pointer (some ⟨db, 0, none⟩)] M K Kp := by
 refine zz ?_
 replace h := h.front (cn .nilFunc) db
 refine aj h ?_
 clear h; intro k1 M h
 refine aj h ?_
 clear h; intro k3 M h
 refine bl h (bl h (aH h (bl h ?_)))
 refine aH h (aH h (aH h (aH h ?_)))
 refine Ge (p := p) (pa := pa) h xk hc hk ?_
 clear h; intro wb M h
 refine fR ⟨bI (bz h) (bI (bz h) (bI (bz h) (bI (bz h) eA))), ?_⟩
 refine aj h ?_
 clear h; intro b M h
 refine aH h ?_
 replace h := ((((h.cw nQ 141).rA bA).cw jP 143).cw bN 3)
 obtain ⟨nP, hnP⟩ := Int.eq_ofNat_of_zero_le hP.1
 obtain ⟨nM, hnM⟩ := Int.eq_ofNat_of_zero_le hM.1
 refine ⟨fun dd vs M => ∃ (j : Nat) (A : Option Addr) (ca : Nat) (sD : List Nat), vs = [.int .i64 (j : Int)] ∧ dd = nP - j ∧ j ≤ nP ∧ sD.length = j ∧
   Hp R (pt b [.pointer (some ⟨wb, 0, none⟩), .int .i64 c.P, .int .i64 c.M, .int .i64 c.R, .int .i64 c.S, .slice A j ca, .slice none 0 0, .slice none 0 0, .pointer (some ⟨db, 0, none⟩), .int .i64 0] 137 ::
    bR A ca (bF sD (List.replicate j ⟨⟨-1, fx c.R, []⟩, 0, -1⟩)) :: aR bA sD (List.replicate j ⟨-1, fx c.R, []⟩) :: bV none 0 [] :: jA none 0 [] :: ax (bx pa p) wb (Wd.new p) :: ax (cn .nilFunc) db d :: pt k3 [.int .i64 c.P, .int .i64 c.M, .int .i64 c.R, .int .i64 c.S] 26 :: L') M,
  ⟨_, 0, none, 0, [], rfl, rfl, by omega, rfl, h.sub bQ⟩, ?_⟩
 clear h
 rintro dd _ nn M ⟨j, A, ca, sD, he, hd, hj, hlb, h⟩
 simp only [List.cons.injEq, Value.int.injEq, and_true, true_and] at he
 subst he
 refine aL.2 ⟨fun hlt => ?_, fun hge => ?_⟩
 ·have je : (List.replicate j (⟨⟨-1, fx c.R, []⟩, 0, -1⟩ : cV)).length = j := List.length_replicate
  refine ⟨fun vs M => ∃ (A : Option Addr) (ca : Nat) (lb : Nat),
   Hp R (pt b [.pointer (some ⟨wb, 0, none⟩), .int .i64 c.P, .int .i64 c.M, .int .i64 c.R, .int .i64 c.S, .slice A (j + 1) ca, .slice none 0 0, .slice none 0 0, .pointer (some ⟨db, 0, none⟩), .int .i64 0] 137 ::
    bR A ca (bF (sD ++ [lb]) (List.replicate (j + 1) ⟨⟨-1, fx c.R, []⟩, 0, -1⟩)) :: aR bA (sD ++ [lb]) (List.replicate (j + 1) ⟨-1, fx c.R, []⟩) :: bV none 0 [] :: jA none 0 [] :: ax (bx pa p) wb (Wd.new p) :: ax (cn .nilFunc) db d :: pt k3 [.int .i64 c.P, .int .i64 c.M, .int .i64 c.R, .int .i64 c.S] 26 :: L') M, aH h ⟨?_, ?_, trivial⟩, ?_⟩
  ·refine bl h ?_
   refine yH h ?_
   clear h; intro lb M h
   refine fR ?_
   refine aj h ?_
   clear h; intro vK M h
   refine h.jk (A := A) EI [(lb, 0, -1)] rfl (by rw [jl (by rw [hlb, je]), je]) rfl (by rw [jl (by rw [hlb, je]), je]; simp only [List.length_singleton]; omega) ?_
   clear h; intro A' c' M h
   refine aW ?_
   refine aq h ?_
   clear h; intro M h
   replace h := h.iT bA lb (by rw [hlb, List.length_replicate])
   refine ⟨A', c', lb, ?_⟩
   have e1 : bF (sD ++ [lb]) (List.replicate (j + 1) (⟨⟨-1, fx c.R, []⟩, 0, -1⟩ : cV)) = bF sD (List.replicate j ⟨⟨-1, fx c.R, []⟩, 0, -1⟩) ++ [(lb, 0, -1)] := by
    rw [List.replicate_succ', yT (by rw [hlb, je])]
   have e2 : List.replicate (j + 1) (⟨-1, fx c.R, []⟩ : Loc) = List.replicate j ⟨-1, fx c.R, []⟩ ++ [⟨-1, fx c.R, []⟩] := List.replicate_succ'
   rw [e1, e2]
   exact h.sub bQ
  ·refine yH h ?_
   clear h; intro lb M h
   refine fR ?_
   refine bl h ?_
   refine aj h ?_
   clear h; intro vK M h
   refine h.jk (A := A) EI [(lb, 0, -1)] rfl (by rw [jl (by rw [hlb, je]), je]) rfl (by rw [jl (by rw [hlb, je]), je]; simp only [List.length_singleton]; omega) ?_
   clear h; intro A' c' M h
   refine aW ?_
   refine aq h ?_
   clear h; intro M h
   replace h := h.iT bA lb (by rw [hlb, List.length_replicate])
   refine ⟨A', c', lb, ?_⟩
   have e1 : bF (sD ++ [lb]) (List.replicate (j + 1) (⟨⟨-1, fx c.R, []⟩, 0, -1⟩ : cV)) = bF sD (List.replicate j ⟨⟨-1, fx c.R, []⟩, 0, -1⟩) ++ [(lb, 0, -1)] := by
    rw [List.replicate_succ', yT (by rw [hlb, je])]
   have e2 : List.replicate (j + 1) (⟨-1, fx c.R, []⟩ : Loc) = List.replicate j ⟨-1, fx c.R, []⟩ ++ [⟨-1, fx c.R, []⟩] := List.replicate_succ'
   rw [e1, e2]
   exact h.sub bQ
  ·clear h
   rintro _ M ⟨A', c', lb, h⟩
   rw [bk (by omega)]
   exact ⟨nP - (j + 1), by omega, j + 1, A', c', sD ++ [lb], rfl, rfl, by omega, by simp [hlb], h⟩
 have hjn : j = nP := by omega
 subst hjn
 refine aH h ?_
 refine ⟨fun dd vs M => ∃ (q : Nat) (B : Option Addr) (cb : Nat), vs = [.int .i64 (q : Int)] ∧ dd = nM - q ∧ q ≤ nM ∧
   Hp R (pt b [.pointer (some ⟨wb, 0, none⟩), .int .i64 c.P, .int .i64 c.M, .int .i64 c.R, .int .i64 c.S, .slice A j ca, .slice B q cb, .slice none 0 0, .pointer (some ⟨db, 0, none⟩), .int .i64 0] 137 ::
    bR A ca (bF sD (List.replicate j ⟨⟨-1, fx c.R, []⟩, 0, -1⟩)) :: aR bA sD (List.replicate j ⟨-1, fx c.R, []⟩) :: bV B cb (List.replicate q ⟨-1, -1, 0⟩) :: jA none 0 [] :: ax (bx pa p) wb (Wd.new p) :: ax (cn .nilFunc) db d :: pt k3 [.int .i64 c.P, .int .i64 c.M, .int .i64 c.R, .int .i64 c.S] 26 :: L') M,
  ⟨_, 0, none, 0, rfl, rfl, by omega, h.sub bQ⟩, ?_⟩
 clear h
 rintro dd _ nn M ⟨q, B, cb, he, QY, hq, h⟩
 simp only [List.cons.injEq, Value.int.injEq, and_true, true_and] at he
 subst he
 refine aL.2 ⟨fun hlt => ?_, fun hge2 => ?_⟩
 ·refine bl h ?_
  refine aj h ?_
  clear h; intro xg M h
  refine h.jk (A := B) LU [(⟨-1, -1, 0⟩ : xl)] rfl (by simp) rfl (by simp; omega) ?_
  clear h; intro B' Yh M h
  refine aW ?_
  refine aq h ?_
  clear h; intro M h
  rw [bk (by omega)]
  have e : List.replicate q (⟨-1, -1, 0⟩ : xl) ++ [⟨-1, -1, 0⟩] = List.replicate (q + 1) ⟨-1, -1, 0⟩ := List.replicate_succ'.symm
  rw [e] at h
  exact ⟨nM - (q + 1), by omega, q + 1, B', Yh, rfl, rfl, by omega, h.sub bQ⟩
 have hqn : q = nM := by omega
 subst hqn
 refine aj h ?_
 clear h; intro II M h
 have e0 : Sc.new p c d = ⟨Wd.new p, c, List.replicate j ⟨⟨-1, fx c.R, []⟩, 0, -1⟩, List.replicate q ⟨-1, -1, 0⟩, [0], d, 0⟩ := by
  unfold Sc.new; rw [hnP, hnM]; rfl
 have e3 : (List.replicate j (⟨⟨-1, fx c.R, []⟩, 0, -1⟩ : cV)).map cV.q = List.replicate j ⟨-1, fx c.R, []⟩ := by simp
 replace h := (h.pt II).gZ (E := bN) (l := [0]) rfl
 generalize hz : (⟨Wd.new p, c, List.replicate j ⟨⟨-1, fx c.R, []⟩, 0, -1⟩, List.replicate q ⟨-1, -1, 0⟩, [0], d, 0⟩ : Sc) = z at e0
 have z1 : dm wb db ⟨A, ca, sD, B, cb⟩ z none 0 0 = [.pointer (some ⟨wb, 0, none⟩), .int .i64 c.P, .int .i64 c.M, .int .i64 c.R, .int .i64 c.S, .slice A j ca, .slice B q cb, .slice none 0 0, .pointer (some ⟨db, 0, none⟩), .int .i64 0] := by
  rw [← hz]; simp [dm]
 rw [← z1] at h
 have h2 : Hp R (pt b (dm wb db ⟨A, ca, sD, B, cb⟩ z none 0 0) 137 :: jA none 0 [] :: jA (some ⟨II, 0, none⟩) 1 [0] :: ax (bx pa p) wb (Wd.new p) :: ax (cn .nilFunc) db d :: bR A ca (bF sD (List.replicate j ⟨⟨-1, fx c.R, []⟩, 0, -1⟩)) :: aR bA sD (List.replicate j ⟨-1, fx c.R, []⟩) :: bV B cb (List.replicate q ⟨-1, -1, 0⟩) :: L') M := h.sub bQ
 have h3 : Hp R (fI (c9 b wb db ⟨A, ca, sD, B, cb⟩ z) [] :: jA (some ⟨II, 0, none⟩) 1 [0] :: ax (bx pa p) wb (Wd.new p) :: ax (cn .nilFunc) db d :: bR A ca (bF sD (List.replicate j ⟨⟨-1, fx c.R, []⟩, 0, -1⟩)) :: aR bA sD (List.replicate j ⟨-1, fx c.R, []⟩) :: bV B cb (List.replicate q ⟨-1, -1, 0⟩) :: L') M := Ey (P := c9 b wb db ⟨A, ca, sD, B, cb⟩ z) h2 rfl
 clear h h2
 refine lP (P := c9 b wb db ⟨A, ca, sD, B, cb⟩ z) wz h3 (Src.row (A := some ⟨II, 0, none⟩)) rfl (by simp) ?_
 clear h3; intro M h
 refine ⟨rfl, ?_⟩
 refine k b wb M ?_
 rw [e0]
 refine g9 (a := ⟨A, ca, sD, B, cb⟩) (x := z) (by rw [← hz]; simp [hlb]) ?_
 rw [← hz] at h ⊢
 unfold gK
 dsimp only at h ⊢
 rw [e3]
 exact h.sub bQ
end
section
variable {p : cf} {x y : Sc} {o : kK} {m : Int}
theorem yU {i k g : Int} {t : Bool} : (x.bJ m i k g t).1.d = x.d := by unfold Sc.bJ; split <;> rfl
theorem JO (h : x.d.k.Ok) : (x.find m).1.d.k.Ok := by
 unfold Sc.find
 dsimp only
 split
 ·exact h
 ·split
  ·have hd : (x.own (av x m).p).1.d = x.d := rfl
   have := lT (kind := 2) (n := x.c.P) h
   rw [hd]
   split
   ·rename_i uk; rw [uk] at this; exact this
   ·rename_i uk
    rw [uk] at this
    split <;> · rw [yU]; exact this
  ·rw [yU]; exact h
theorem EJ {g : Int} {d : kI} {w : Wd} {rest : Bool} (h : gL x m g d w rest = some (y, o)) (i0 : 0 ≤ (av x m).p) (i1 : (av x m).p < x.ps.length) : y.d = d := by
 unfold gL at h
 split at h
 ·simp only [Option.some.injEq, Prod.mk.injEq] at h
  rw [← h.1]
  have := gd (m := m) w.ready { x with w := w, d := d } i0 i1
  unfold Sc.nY
  split <;> exact this.2.2.2.1
 ·cases h
theorem qC {a : Option (Int × Int)} {d : kI} (h : d.k.Ok) : (dU d a).1.k.Ok := by
 cases a with
 | none => exact h
 | some q => exact lT h
theorem LV (h : x.d.k.Ok) (he : x.run p m = some (y, o)) : y.d.k.Ok := by
 unfold Sc.run at he
 split at he
 ·rename_i hpre
  obtain ⟨m0, m1, i0, i1, _⟩ := hpre
  split at he
  ·split at he
   ·cases he
   ·simp only [Option.some.injEq, Prod.mk.injEq] at he
    rw [← he.1]
    exact qC h
   ·rw [EJ he i0 i1]; exact qC h
   ·rw [EJ he i0 i1]; exact qC h
  ·cases he
 ·cases he
theorem DQ {z : Sc × kK} : (xL z).1.d = z.1.d := by
 obtain ⟨z, o⟩ := z
 cases o <;> rfl
theorem BV (h : x.d.k.Ok) (he : x.step p = some (y, o)) : y.d.k.Ok := by
 unfold Sc.step at he
 split at he
 ·split at he
  ·cases he; exact h
  ·have hk := lT (kind := 1) (n := x.c.M + 1) h
   split at he
   ·rename_i hd; rw [hd] at hk; cases he; exact hk
   ·rename_i d' mm hd
    rw [hd] at hk
    dsimp only at hk
    unfold Sc.act at he
    split at he
    ·split at he
     ·simp only [Option.map_some, Option.some.injEq] at he
      cases he; exact hk
     ·cases he
    ·split at he
     ·simp only [Option.map_some, Option.some.injEq] at he
      have e : y.d = (Sc.hold { x with d := d' } mm).1.d := by rw [← (DQ (z := ((Sc.hold { x with d := d' } mm).1, .ev (Sc.hold { x with d := d' } mm).2))), he]
      rw [e]
      unfold Sc.hold
      split <;> exact hk
     ·split at he
      ·split at he
       ·simp only [Option.map_some, Option.some.injEq] at he
        have e : y.d = (Sc.find { x with d := d' } mm).1.d := by rw [← (DQ (z := Sc.find { x with d := d' } mm)), he]
        rw [e]
        exact JO hk
       ·cases he
      ·cases hr : Sc.run p { x with d := d' } mm with
       | none => rw [hr] at he; cases he
       | some z =>
        rw [hr] at he
        simp only [Option.map_some, Option.some.injEq] at he
        have e : y.d = z.1.d := by rw [← (DQ (z := z)), he]
        rw [e]
        exact LV (y := z.1) (o := z.2) hk hr
 ·cases he
end
def Nz : cf := ⟨[[⟨20, 0, 0, 0⟩, ⟨10, 0, 0, 0⟩]], [], 0, []⟩
def YA : Option (Sc × kK) → Option (Sc × Ev)
 | some (x, .ev e) => some (x, e)
 | _ => none
def YB : Sc := Sc.new Nz ⟨1, 1, 2, 9⟩ ⟨.qz [0, 0, 0, 0] 0, []⟩
def LW (x : Sc) : Sc × Ev := (YA (x.step Nz)).getD (x, ⟨0, 0, 0, []⟩)
def KR : Sc × Ev := LW YB
def QZ : Sc × Ev := LW KR.1
def Te : Sc × Ev := LW QZ.1
def d18 : Sc × Ev := LW Te.1
theorem P8 : YB.step Nz = some (KR.1, .ev KR.2) := by kernel_rfl
theorem P9 : KR.1.step Nz = some (QZ.1, .ev QZ.2) := by kernel_rfl
theorem Qa : QZ.1.step Nz = some (Te.1, .ev Te.2) := by kernel_rfl
theorem Qb : Te.1.step Nz = some (d18.1, .ev d18.2) := by kernel_rfl
theorem fV : YB.d.k.Ok := ⟨by decide, by decide, fun v hv => by simp at hv; subst hv; decide⟩
def cy (c : Nv) : Nv :=
 let q := fun (x m : Int) => Int.tmod (IntKind.wrap .i64 (((Nat.bitwise and (BitVec.ofInt IntKind.i64.bits x).toNat (BitVec.ofInt IntKind.i64.bits 255).toNat) : Nat) : Int)) m
 ⟨1 + q c.P 5, 1 + q c.M 5, 2 + q c.R 5, 1 + q c.S 12⟩
theorem sj (x : Int) {m : Int} {n : Nat} (e : m = (n : Int)) (hm : 0 < n) : 0 ≤ Int.tmod (IntKind.wrap .i64 (((Nat.bitwise and (BitVec.ofInt IntKind.i64.bits x).toNat (BitVec.ofInt IntKind.i64.bits 255).toNat) : Nat) : Int)) m ∧ Int.tmod (IntKind.wrap .i64 (((Nat.bitwise and (BitVec.ofInt IntKind.i64.bits x).toNat (BitVec.ofInt IntKind.i64.bits 255).toNat) : Nat) : Int)) m < m := by
 obtain ⟨q, hq, _⟩ := mask (x := x) (y := 255) (m := 255) rfl (by omega)
 rw [hq, e, Go.AF.qU]
 have := Nat.mod_lt q hm
 omega
theorem wK (c : Nv) : 1 ≤ (cy c).P ∧ (cy c).P ≤ 5 ∧ 1 ≤ (cy c).M ∧ (cy c).M ≤ 5 ∧ 2 ≤ (cy c).R ∧ (cy c).R ≤ 6 ∧ 1 ≤ (cy c).S ∧ (cy c).S ≤ 12 := by
 have a := sj c.P (m := 5) (n := 5) rfl (by omega)
 have b := sj c.M (m := 5) (n := 5) rfl (by omega)
 have d := sj c.R (m := 5) (n := 5) rfl (by omega)
 have e := sj c.S (m := 12) (n := 12) rfl (by omega)
 unfold cy
 dsimp only
 refine ⟨by omega, ?_, by omega, ?_, by omega, ?_, by omega, ?_⟩ <;> omega
section
variable {R : Mem} {L L' : List HP} {M : Mem} {K : Value → Mem → Prop} {Kp : List PanicEntry → Mem → Prop}
theorem jQ {x m : Int} {n : Nat} (hm : m = (n : Int)) (hn : 0 < n) (k : K (.int .i64 (Int.tmod (IntKind.wrap .i64 (((Nat.bitwise and (BitVec.ofInt IntKind.i64.bits x).toNat (BitVec.ofInt IntKind.i64.bits 255).toNat) : Nat) : Int)) m)) M) : aa Tryz.prog 51 #[.int .i64 x, .int .i64 m] M K Kp := by
 refine lM ⟨by omega, k⟩
theorem DR {c : Nv} (h : Hp R L M) (k : ∀ M', Hp R L M' → K (.agg #[.int .i64 (cy c).P, .int .i64 (cy c).M, .int .i64 (cy c).R, .int .i64 (cy c).S]) M') : aa Tryz.prog 15 #[.agg #[.int .i64 c.P, .int .i64 c.M, .int .i64 c.R, .int .i64 c.S]] M K Kp := by
 refine nD ?_
 refine aj h ?_
 clear h; intro k1 M h
 refine aj h ?_
 clear h; intro k3 M h
 refine aH h (aH h (aH h (aH h ?_)))
 refine jQ (n := 5) rfl (by omega) (cF ⟨bz h, bz h, bz h, ?_⟩)
 refine jQ (n := 5) rfl (by omega) (cF ⟨bz h, bz h, bz h, ?_⟩)
 refine jQ (n := 5) rfl (by omega) (cF ⟨bz h, bz h, bz h, ?_⟩)
 refine jQ (n := 12) rfl (by omega) (cF ⟨bz h, bz h, bz h, ?_⟩)
 have ok := wK c
 have e1 : IntKind.wrap .i64 (1 + Int.tmod (IntKind.wrap .i64 (((Nat.bitwise and (BitVec.ofInt IntKind.i64.bits c.P).toNat (BitVec.ofInt IntKind.i64.bits 255).toNat) : Nat) : Int)) 5) = (cy c).P := cD (z := (cy c).P) (by omega) (by omega)
 have e2 : IntKind.wrap .i64 (1 + Int.tmod (IntKind.wrap .i64 (((Nat.bitwise and (BitVec.ofInt IntKind.i64.bits c.M).toNat (BitVec.ofInt IntKind.i64.bits 255).toNat) : Nat) : Int)) 5) = (cy c).M := cD (z := (cy c).M) (by omega) (by omega)
 have e3 : IntKind.wrap .i64 (2 + Int.tmod (IntKind.wrap .i64 (((Nat.bitwise and (BitVec.ofInt IntKind.i64.bits c.R).toNat (BitVec.ofInt IntKind.i64.bits 255).toNat) : Nat) : Int)) 5) = (cy c).R := cD (z := (cy c).R) (by omega) (by omega)
 have e4 : IntKind.wrap .i64 (1 + Int.tmod (IntKind.wrap .i64 (((Nat.bitwise and (BitVec.ofInt IntKind.i64.bits c.S).toNat (BitVec.ofInt IntKind.i64.bits 255).toNat) : Nat) : Int)) 12) = (cy c).S := cD (z := (cy c).S) (by omega) (by omega)
 rw [e1, e2, e3, e4]
 refine aq h ?_
 clear h; intro M h
 refine aq h ?_
 clear h; intro M h
 refine aq h ?_
 clear h; intro M h
 refine aq h ?_
 clear h; intro M h
 refine ⟨bz h, bz h, bz h, aH h (aH h (aH h (aH h ?_)))⟩
 exact k _ (h.sub bQ)
theorem sk {pa : PA} {p : cf} {b wb db : Nat} {x y : Sc} {e : Ev} (h : Hp R L M) [q : nR b L pa p wb db x L'] (hp : mH R pa p) (hd : x.d.k.Ok) (he : x.step p = some (y, .ev e))
  (k : ∀ R' A c M', R.le R' → RS bN R' A c e.ready → y.d.k.Ok → Hp R' (ax (fA pa p wb db) b y :: L') M' → K (DL e A c) M') : aa Tryz.prog 50 #[.pointer (some ⟨b, 0, none⟩)] M K Kp :=
 wJ h hp hd he (fun R' A c M' h1 h2 h3 => k R' A c M' h1 h2 (BV hd he) h3)
theorem BW (h : Hp R L M) (k : ∀ R' M', R.le R' → Hp R' L M' → K (.bool true) M') : aa Tryz.prog 12 #[] M K Kp := by
 refine mG ?_
 refine aj h ?_
 clear h; intro k1 M h
 refine aj h ?_
 clear h; intro k3 M h
 have h1 := (h.pt k1).gZ (E := xD) (l := [⟨20, 0, 0, 0⟩, ⟨10, 0, 0, 0⟩]) rfl
 obtain ⟨R1, YC, we, h2⟩ := h1.iK (some ⟨k1, 0, none⟩)
 have h3 := h2.gZ (E := PR) (l := [(some ⟨k1, 0, none⟩, 2, 2)]) rfl
 obtain ⟨R2, BU, No, h4⟩ := h3.iK (some ⟨k3, 0, none⟩)
 clear h h1 h2 h3
 have hp : mH R2 ⟨some ⟨k3, 0, none⟩, 1, none, 0, none, 0⟩ Nz := ⟨⟨_, No, rfl, fun i t f a b => by
  match i, a, b with
  | 0, a, b => simp at a; cases b; subst a; exact ⟨we.le BU, rfl⟩
  | i + 1, a, b => simp at a⟩, RS.nil _ _⟩
 have hle : R.le R2 := Mem.le_trans YC BU
 refine aj h4 ?_
 clear h4; intro k5 M h
 refine aq h ?_
 clear h; intro M h
 refine aq h ?_
 clear h; intro M h
 refine aq h ?_
 clear h; intro M h
 refine aq h ?_
 clear h; intro M h
 refine bl h (bl h (aH h (bl h ?_)))
 refine aj h ?_
 clear h; intro eY M h
 replace h := (h.pt eY).gZ (E := CK) (l := [0, 0, 0, 0]) rfl
 refine hO (l := [0, 0, 0, 0]) h (Src.row (A := some ⟨eY, 0, none⟩)) rfl (by decide) ?_
 clear h; intro db M h
 refine fR ⟨bI (bz h) (bI (bz h) (bI (bz h) (bI (bz h) eA))), ?_⟩
 refine oH (p := Nz) (pa := ⟨some ⟨k3, 0, none⟩, 1, none, 0, none, 0⟩) (c := ⟨1, 1, 2, 9⟩) h (RS.nil _ _) (by decide) (by decide) (by decide) (by decide) ?_
 clear h; intro b wb M h
 refine fR ⟨bI (bz h) (bI (bz h) (bI (bz h) (bI (bz h) eA))), ai ?_⟩
 refine sk h hp fV P8 ?_
 clear h; intro R3 A1 c1 M l3 r1 LX h
 refine ⟨_, _, _, _, _, _, rfl, ?_⟩
 refine sk h (hp.le l3) LX P9 ?_
 clear h LX; intro R4 A2 c2 M l4 r2 LX h
 refine ⟨_, _, _, _, _, _, rfl, ?_⟩
 refine sk h (hp.le (Mem.le_trans l3 l4)) LX Qa ?_
 clear h LX; intro R5 A3 c3 M l5 r3 LX h
 refine ⟨_, _, _, _, _, _, rfl, ?_⟩
 refine aj h ?_
 clear h; intro rj M h
 refine aj h ?_
 clear h; intro Nb M h
 refine aj h ?_
 clear h; intro xg M h
 refine jm h ?_
 clear h; intro M h
 refine jm h ?_
 clear h; intro M h
 refine jm h ?_
 clear h; intro M h
 refine sk h (hp.le (Mem.le_trans l3 (Mem.le_trans l4 l5))) LX Qb ?_
 clear h LX; intro R6 A4 c4 M l6 r4 LX h
 refine ⟨_, _, _, _, _, _, rfl, ?_⟩
 refine aH h ?_
 rw [show KR.2.kind = 2 from by kernel_rfl]
 refine af (aH h ?_)
 rw [show QZ.2.kind = 4 from by kernel_rfl]
 refine af (aH h ?_)
 rw [show QZ.2.g = 0 from by kernel_rfl]
 refine af (aH h ?_)
 rw [show Te.2.kind = 7 from by kernel_rfl]
 refine af ?_
 refine lS h (by rw [show d18.1.w.gs.length = 1 from by kernel_rfl]; decide) ?_
 rw [show d18.1.status = 1 from by kernel_rfl]
 refine cF (af ?_)
 refine BM h ?_
 rw [show d18.1.steps = 4 from by kernel_rfl]
 exact cF (k R6 _ (Mem.le_trans hle (Mem.le_trans l3 (Mem.le_trans l4 (Mem.le_trans l5 l6)))) (h.sub bQ))
end
def GX : List Value := [.int .i64 0, .int .i64 0, .int .i64 0, .int .i64 0, .int .u64 0]
inductive mJ : List PanicEntry → Int → List Value → Prop
 | d1 : mJ Gs 1 GX
 | d2 : mJ (uI Gs) 1 GX
 | u1 (a q n k x : Int) : mJ (QV a q n k x) 2 [.int .i64 a, .int .i64 q, .int .i64 n, .int .i64 k, .int .u64 x]
 | u2 (a q n k x : Int) : mJ (uI (QV a q n k x)) 2 [.int .i64 a, .int .i64 q, .int .i64 n, .int .i64 k, .int .u64 x]
section
variable {R : Mem} {L L' L2 : List HP} {M : Mem} {K : Value → Mem → Prop} {Kp : List PanicEntry → Mem → Prop} {u0 : Value} {S : Mem → List HP → Prop} {D : Mem → List PanicEntry → List HP → Prop}
def EK (R : Mem) (L : List HP) (u0 : Value) (S : Mem → List HP → Prop) (D : Mem → List PanicEntry → List HP → Prop) : Prop := ∀ (Q : HP) (M : Mem) (K : Value → Mem → Prop) (Kp : List PanicEntry → Mem → Prop), Hp R (Q :: L) M →
 (∀ R' L' M', S R' L' → Hp R' (Q :: L') M' → K (.tuple #[]) M') → (∀ R' l L' M', D R' l L' → Hp R' (Q :: L') M' → Kp l M') → gy Cx u0 [] M K Kp
theorem xM {b1 b2 : Nat} (h : Hp R (pt b1 [.int .i64 0] 3 :: pt b2 GX 155 :: L) M) (hc : EK R L u0 S D) (hd : ∀ R' l L', D R' l L' → ∃ e vs, mJ l e vs)
  (k : ∀ R' L' M', S R' L' → Hp R' (pt b1 [.int .i64 0] 3 :: pt b2 GX 155 :: L') M' → K (.tuple #[]) M')
  (kd : ∀ R' l L' M' e vs, D R' l L' → mJ l e vs → Hp R' (pt b1 [.int .i64 e] 3 :: pt b2 vs 155 :: L') M' → K (.tuple #[]) M') :
  aa Tryz.prog 104 #[u0, .pointer (some ⟨b1, 0, none⟩), .pointer (some ⟨b2, 0, none⟩)] M K Kp := by
 refine tg ?_
 refine aj h ?_
 clear h
 intro k1 M h
 refine aj h ?_
 clear h
 intro k3 M h
 refine hc (sep [pt k3 [.pointer (some ⟨b2, 0, none⟩)] _, pt k1 [.pointer (some ⟨b1, 0, none⟩)] _, pt b1 [.int .i64 0] 3, pt b2 GX 155]) M _ _ (Hp.aO.2 h) ?_ ?_
 ·clear h
  intro R' L' M' hs h
  have h := Hp.aO.1 h
  exact ⟨rfl, F4 (k R' L' M' hs h.drop.drop)⟩
 ·clear h
  intro R' l L' M hs h
  replace h := Hp.aO.1 h
  obtain ⟨e, vs, hg⟩ := hd _ _ _ hs
  have Tf := kd R' l L'
  simp only [List.cons_append, List.nil_append, GX] at h Tf
  clear kd k hc hd
  cases hg with
  | d1 =>
   refine Dd ?_
   repeat (first|(refine aj h ?_;clear h;intro kb M h)|(refine aq h ?_;clear h;intro M h)|refine St.to h ?_|(apply Exists.intro;(repeat apply Exists.intro);refine And.intro rfl ?_)|refine au ?_|refine af ?_|refine ai ?_)
   exact Tf _ _ _ hs .d1 (h.sub bQ)
  | d2 =>
   refine Bk ?_
   repeat (first|(refine aj h ?_;clear h;intro kb M h)|(refine aq h ?_;clear h;intro M h)|refine St.to h ?_|(apply Exists.intro;(repeat apply Exists.intro);refine And.intro rfl ?_)|refine au ?_|refine af ?_|refine ai ?_)
   exact Tf _ _ _ hs .d2 (h.sub bQ)
  | u1 a q n k x =>
   refine xJ ?_
   repeat (first|(refine aj h ?_;clear h;intro kb M h)|(refine aq h ?_;clear h;intro M h)|refine St.to h ?_|(apply Exists.intro;(repeat apply Exists.intro);refine And.intro rfl ?_)|refine au ?_|refine af ?_|refine ai ?_)
   exact Tf _ _ _ hs (.u1 a q n k x) (h.sub bQ)
  | u2 a q n k x =>
   refine vQ ?_
   repeat (first|(refine aj h ?_;clear h;intro kb M h)|(refine aq h ?_;clear h;intro M h)|refine St.to h ?_|(apply Exists.intro;(repeat apply Exists.intro);refine And.intro rfl ?_)|refine au ?_|refine af ?_|refine ai ?_)
   exact Tf _ _ _ hs (.u2 a q n k x) (h.sub bQ)
theorem mJ.shape {l : List PanicEntry} {e : Int} {vs : List Value} (h : mJ l e vs) : (e = 1 ∨ e = 2) ∧ ∃ a q n k x : Int, vs = [.int .i64 a, .int .i64 q, .int .i64 n, .int .i64 k, .int .u64 x] := by
 cases h with
 | d1 => exact ⟨.inl rfl, 0, 0, 0, 0, 0, rfl⟩
 | d2 => exact ⟨.inl rfl, 0, 0, 0, 0, 0, rfl⟩
 | u1 a q n k x => exact ⟨.inr rfl, a, q, n, k, x, rfl⟩
 | u2 a q n k x => exact ⟨.inr rfl, a, q, n, k, x, rfl⟩
theorem so (h : Hp R L M) (hc : EK R L u0 S D) (hd : ∀ R' l L', D R' l L' → ∃ e vs, mJ l e vs)
  (k : ∀ R' L' M', S R' L' → Hp R' L' M' → K (.tuple #[.int .i64 0, .agg #[.int .i64 0, .int .i64 0, .int .i64 0, .int .i64 0, .int .u64 0]]) M')
  (kd : ∀ R' l L' M' e a q n k x, D R' l L' → mJ l e [.int .i64 a, .int .i64 q, .int .i64 n, .int .i64 k, .int .u64 x] → Hp R' L' M' → K (.tuple #[.int .i64 e, .agg #[.int .i64 a, .int .i64 q, .int .i64 n, .int .i64 k, .int .u64 x]]) M') :
  aa Tryz.prog 56 #[u0] M K Kp := by
 refine uC ?_
 refine aj h ?_
 clear h
 intro k1 M h
 refine aj h ?_
 clear h
 intro k3 M h
 refine aj h ?_
 clear h
 intro k5 M h
 repeat (refine aq h ?_; clear h; intro M h)
 refine xM (S := fun R' L2 => ∃ L', S R' L' ∧ L2 = pt k1 GX 155 :: L') (D := fun R' l L2 => ∃ L', D R' l L' ∧ L2 = pt k1 GX 155 :: L') (L := pt k1 GX 155 :: L) (h.sub bQ) ?_ ?_ ?_ ?_
 ·intro Q M K Kp h TY k2
  refine hc (sep [Q, pt k1 GX 155]) M K Kp (Hp.aO.2 h) ?_ ?_
  ·intro R' L' M' hs h
   exact TY R' _ M' ⟨L', hs, rfl⟩ (Hp.aO.1 h)
  ·intro R' l L' M' hs h
   exact k2 R' l _ M' ⟨L', hs, rfl⟩ (Hp.aO.1 h)
 ·rintro R' l _ ⟨L', hs, _⟩
  exact hd _ _ _ hs
 ·rintro R' _ M ⟨L', hs, rfl⟩ h
  clear hc hd kd
  simp only [GX] at h
  refine ⟨rfl, ?_⟩
  repeat (first|(refine aj h ?_;clear h;intro kb M h)|(refine aq h ?_;clear h;intro M h)|refine St.to h ?_|(apply Exists.intro;(repeat apply Exists.intro);refine And.intro rfl ?_)|refine au ?_|refine af ?_|refine ai ?_)
  exact k _ _ _ hs (h.sub bQ)
 ·rintro R' l _ M e vs ⟨L', hs, rfl⟩ hg h
  obtain ⟨_, a, q, n, kk, x, rfl⟩ := hg.shape
  clear hc hd k
  simp only [GX] at h
  refine ⟨rfl, ?_⟩
  repeat (first|(refine aj h ?_;clear h;intro kb M h)|(refine aq h ?_;clear h;intro M h)|refine St.to h ?_|(apply Exists.intro;(repeat apply Exists.intro);refine And.intro rfl ?_)|refine au ?_|refine af ?_|refine ai ?_)
  exact kd _ _ _ _ _ _ _ _ _ _ hs hg (h.sub bQ)
theorem GB {k k' : gv} {kind m : Int} {l : List PanicEntry} (h : k.next kind m = (k', .cG l)) : ∃ e vs, mJ l e vs ∧ mJ (uI l) e vs := by
 cases k with
 | qz t i =>
  unfold gv.next at h
  dsimp only at h
  split at h
  ·cases h; exact ⟨_, _, .d1, .d2⟩
  ·cases h
 | tape t i =>
  unfold gv.next at h
  dsimp only at h
  split at h
  ·cases h; exact ⟨_, _, .d1, .d2⟩
  ·split at h
   ·cases h; exact ⟨_, _, .u1 _ _ _ _ _, .u2 _ _ _ _ _⟩
   ·split at h
    ·cases h; exact ⟨_, _, .u1 _ _ _ _ _, .u2 _ _ _ _ _⟩
    ·cases h
theorem tE {x x' : kI} {kind n : Int} {l : List PanicEntry} (h : x.draw kind n = (x', .cG l)) : ∃ e vs, mJ l e vs ∧ mJ (uI l) e vs := by
 unfold kI.draw at h
 split at h
 ·cases h
 ·rename_i k' l' hn
  cases h
  exact GB hn
theorem JP {d d' : kI} {a : Option (Int × Int)} {l : List PanicEntry} (h : dU d a = (d', .cG l)) : ∃ e vs, mJ l e vs ∧ mJ (uI l) e vs := by
 cases a with
 | none => cases h
 | some q => exact tE h
theorem LY {z y : Sc} {o : kK} {l : List PanicEntry} (h : xL (z, o) = (y, .cG l)) : o = .cG l := by
 cases o with
 | ev e => cases h
 | cG l' => cases h; rfl
theorem JQ {p : cf} {x y : Sc} {l : List PanicEntry} (he : x.step p = some (y, .cG l)) : ∃ e vs, mJ l e vs := by
 unfold Sc.step at he
 split at he
 ·split at he
  ·cases he
  ·split at he
   ·rename_i hd
    cases he
    obtain ⟨e, vs, h, _⟩ := tE hd
    exact ⟨e, vs, h⟩
   ·rename_i d' m hd
    simp only [Option.map_eq_some_iff] at he
    obtain ⟨⟨z, o⟩, ha, hi⟩ := he
    have ho := LY hi
    subst ho
    clear hi hd
    unfold Sc.act at ha
    split at ha
    ·split at ha
     ·cases ha
     ·cases ha
    ·split at ha
     ·cases ha
     ·split at ha
      ·split at ha
       ·simp only [Option.some.injEq] at ha
        unfold Sc.find at ha
        dsimp only at ha
        split at ha
        ·cases ha
        ·split at ha
         ·split at ha
          ·rename_i hd
           cases ha
           obtain ⟨e, vs, h, _⟩ := tE hd
           exact ⟨e, vs, h⟩
          ·split at ha <;> cases ha
         ·cases ha
       ·cases ha
      ·unfold Sc.run at ha
       split at ha
       ·split at ha
        ·split at ha
         ·cases ha
         ·rename_i l' w rest hex
          cases ha
          obtain ⟨wg, _⟩ := yS hex
          obtain ⟨e, vs, _, h⟩ := JP (d' := _) (by rw [← wg])
          exact ⟨e, vs, h⟩
         ·unfold gL at ha
          split at ha <;> cases ha
         ·unfold gL at ha
          split at ha <;> cases ha
        ·cases ha
       ·cases ha
 ·cases he
def Tg (R : Mem) (pa : PA) (p : cf) (b wb db : Nat) (L' : List HP) (K : Value → Mem → Prop) (y : Sc) : kK → Prop
 | .ev e => ∀ R' A c M', R.le R' → RS bN R' A c e.ready → y.d.k.Ok → Hp R' (ax (fA pa p wb db) b y :: L') M' → K (.tuple #[DL e A c, .int .i64 0]) M'
 | .cG l => ∀ e vs M', mJ l e vs → y.d.k.Ok → Hp R (ax (fA pa p wb db) b y :: L') M' → K (.tuple #[DL ⟨0, 0, 0, []⟩ none 0, .int .i64 e]) M'
theorem DS {pa : PA} {p : cf} {b wb db : Nat} {x y : Sc} {o : kK} (h : Hp R L M) [q : nR b L pa p wb db x L'] (hp : mH R pa p) (hd : x.d.k.Ok) (he : x.step p = some (y, o)) (k : Tg R pa p b wb db L' K y o) :
  aa Tryz.prog 18 #[.pointer (some ⟨b, 0, none⟩)] M K Kp := by
 refine nE ?_
 replace h := h.pick q.pick
 refine aj h ?_
 clear h
 intro k1 M h
 refine aj h ?_
 clear h
 intro k3 M h
 refine aj h ?_
 clear h
 intro k5 M h
 have TB := BV hd he
 cases o with
 | ev e =>
  refine so (D := fun _ _ _ => False) (S := fun R' L2 => R.le R' ∧ ∃ A c, RS bN R' A c e.ready ∧ L2 = ax (fA pa p wb db) b y :: pt k5 [.int .i64 e.kind, .int .i64 e.m, .int .i64 e.g, .slice A e.ready.length c] 47 :: pt k3 [.int .i64 0, .int .i64 0, .int .i64 0, .slice none 0 0] 47 :: L') h ?_ ?_ ?_ ?_
  ·intro Q M K Kp h kk _
   refine yz (args := []) ⟨by decide, by show _ < 228; decide⟩ ?_
   refine gD ?_
   refine vv h ?_
   refine sk h hp hd he ?_
   clear h; intro R' A c M hle uh hk h
   refine ⟨_, _, _, _, _, _, rfl, ?_⟩
   repeat (refine aq h ?_; clear h; intro M h)
   exact kk R' _ M ⟨hle, A, c, uh, rfl⟩ (h.sub bQ)
  ·exact fun _ _ _ hs => hs.elim
  ·rintro R' _ M ⟨hle, A, c, uh, rfl⟩ h
   refine ⟨_, _, _, _, _, _, rfl, ?_⟩
   refine aj h ?_
   clear h
   intro gn M h
   repeat (first|(refine aj h ?_;clear h;intro kb M h)|(refine aq h ?_;clear h;intro M h)|refine St.to h ?_|(apply Exists.intro;(repeat apply Exists.intro);refine And.intro rfl ?_)|refine au ?_|refine af ?_|refine ai ?_)
   exact k R' A c _ hle uh TB (h.sub bQ)
  ·exact fun _ _ _ _ _ _ _ _ _ _ hs => hs.elim
 | cG l =>
  obtain ⟨e, vs, hg⟩ := JQ he
  refine so (S := fun _ _ => False) (D := fun R' l' L2 => R' = R ∧ l' = l ∧ L2 = ax (fA pa p wb db) b y :: pt k5 [.int .i64 0, .int .i64 0, .int .i64 0, .slice none 0 0] 47 :: pt k3 [.int .i64 0, .int .i64 0, .int .i64 0, .slice none 0 0] 47 :: L') h ?_ ?_ ?_ ?_
  ·intro Q M K Kp h _ kk
   refine yz (args := []) ⟨by decide, by show _ < 228; decide⟩ ?_
   refine gD ?_
   refine vv h ?_
   refine wJ h hp hd he ?_
   intro M h
   exact kk R _ _ M ⟨rfl, rfl, rfl⟩ (h.sub bQ)
  ·rintro R' l' L2 ⟨_, rfl, _⟩
   exact ⟨e, vs, hg⟩
  ·exact fun _ _ _ hs => hs.elim
  ·rintro R' l' _ M e a q n kx xx ⟨rfl, rfl, rfl⟩ hg h
   refine ⟨_, _, _, _, _, _, rfl, ?_⟩
   refine aj h ?_
   clear h
   intro gn M h
   repeat (first|(refine aj h ?_;clear h;intro kb M h)|(refine aq h ?_;clear h;intro M h)|refine St.to h ?_|(apply Exists.intro;(repeat apply Exists.intro);refine And.intro rfl ?_)|refine au ?_|refine af ?_|refine ai ?_)
   exact k _ _ _ hg TB (h.sub bQ)
end
def YD : Option (Sc × kK) → Option Sc
 | some (y, .ev _) => some y
 | _ => none
def kM (p : cf) : Nat → Sc → Option Sc
 | 0, x => some x
 | j + 1, x => (kM p j x).bind fun y => YD (y.step p)
theorem wL {p : cf} {j : Nat} {x z : Sc} (h : kM p (j + 1) x = some z) : ∃ y e, kM p j x = some y ∧ y.step p = some (z, .ev e) := by
 simp only [kM, Option.bind_eq_some_iff] at h
 obtain ⟨y, hy, h⟩ := h
 refine ⟨y, ?_⟩
 unfold YD at h
 split at h
 ·rename_i y' e he
  cases h
  exact ⟨e, hy, he⟩
 ·cases h
theorem BX {p : cf} {x z : Sc} : ∀ (k j : Nat), j ≤ k → ∀ {z : Sc}, kM p k x = some z → ∃ y, kM p j x = some y
 | 0, j, h, z, hz => ⟨z, by rw [show j = 0 from by omega]; exact hz⟩
 | k + 1, j, h, z, hz => by
  by_cases hj : j = k + 1
  ·exact ⟨z, by rw [hj]; exact hz⟩
  ·obtain ⟨y, _, hy, _⟩ := wL hz
   exact BX (x := x) (z := z) k j (by omega) hy
theorem DT {p : cf} {x z : Sc} {k j : Nat} {y : Sc} (h : kM p k x = some z) (hj : j < k) (hy : kM p j x = some y) : ∃ y' e, y.step p = some (y', .ev e) ∧ kM p (j + 1) x = some y' := by
 obtain ⟨y', h'⟩ := BX (x := x) (z := z) k (j + 1) (by omega) h
 obtain ⟨y2, e, h1, h2⟩ := wL h'
 rw [hy] at h1
 cases h1
 exact ⟨y', e, h2, h'⟩
theorem uY : bu Tryz.prog 31 34 4 32 [.int .i64 0, .int .i64 0, .int .i64 0, .int .i64 0] := bu.mk' (zv := .agg #[.int .i64 0, .int .i64 0, .int .i64 0, .int .i64 0]) (by kernel_rfl) (by kernel_rfl) rfl (by omega)
section
variable {R : Mem} {L L' : List HP} {M : Mem} {K : Value → Mem → Prop} {Kp : List PanicEntry → Mem → Prop} {pa : PA} {p : cf}
theorem DU {b wb db : Nat} {x : Sc} (h : Hp R L M) [q : nR b L pa p wb db x L'] (ho : x.w.out.length ≤ 1000000) (k : ∀ A c M', Hp R (ry A c x.w.out :: ax (fA pa p wb db) b x :: L') M' → K (.slice A x.w.out.length c) M') :
  aa Tryz.prog 22 #[.pointer (some ⟨wb, 0, none⟩)] M K Kp := by
 have h' := fB h (b := b)
 clear h
 obtain ⟨a, hla, h⟩ := h'
 refine Gd (b := wb) h (by omega) ?_
 clear h; intro A c M h
 have h2 : Hp R (fI (c9 b wb db a x) x.gl :: ax (bx pa p) wb x.w :: ax (cn .nilFunc) db x.d :: gK a x (ry A c x.w.out :: L')) M := h.sub bQ
 exact k A c M ((g9 hla h2).sub bQ)
theorem Th (x : Int) {b m : Int} {q : Nat} (e : m = (q : Int)) (hm : 0 < q) (hb : 0 ≤ b) (Ti : b + m < 1000000) : ∃ n : Nat, b + Int.tmod (IntKind.wrap .i64 (((Nat.bitwise and (BitVec.ofInt IntKind.i64.bits x).toNat (BitVec.ofInt IntKind.i64.bits 255).toNat) : Nat) : Int)) m = (n : Int) ∧ b ≤ n ∧ (n : Int) < b + m := by
 obtain ⟨h0, h1⟩ := sj x e hm
 obtain ⟨n, hn⟩ := Int.eq_ofNat_of_zero_le (show 0 ≤ b + Int.tmod (IntKind.wrap .i64 (((Nat.bitwise and (BitVec.ofInt IntKind.i64.bits x).toNat (BitVec.ofInt IntKind.i64.bits 255).toNat) : Nat) : Int)) m by omega)
 exact ⟨n, hn, by omega, by omega⟩
theorem LZ (x : Int) {b m : Int} {q : Nat} (e : m = (q : Int)) (hm : 0 < q) (hb : 0 ≤ b) (Ti : b + m < 1000000) : ∃ n : Nat, IntKind.wrap .i64 (b + Int.tmod (IntKind.wrap .i64 (((Nat.bitwise and (BitVec.ofInt IntKind.i64.bits x).toNat (BitVec.ofInt IntKind.i64.bits 255).toNat) : Nat) : Int)) m) = (n : Int) ∧ b ≤ n ∧ (n : Int) < b + m := by
 obtain ⟨n, hn, h1, h2⟩ := Th x e hm hb Ti
 refine ⟨n, ?_, h1, h2⟩
 rw [cD (by omega) (by omega)]
 exact hn
end
theorem oI {b : Nat} : ∀ (n : Nat) (l : List Int), (∀ g ∈ l, 0 ≤ g ∧ g < (n : Int)) → (∀ g, l.count g ≤ b) → l.length ≤ b * n
 | 0, l, h, _ => by
  cases l with
  | nil => simp
  | cons a l => have := h a (by simp); omega
 | n + 1, l, h, hc => by
  have h1 : (l.filter (fun g => g != (n : Int))).length ≤ b * n := by
   refine oI n _ (fun g hg => ?_) (fun g => ?_)
   ·obtain ⟨hm, hne⟩ := List.mem_filter.1 hg
    have := h g hm
    simp at hne
    omega
   ·exact Nat.le_trans (List.Sublist.count_le _ List.filter_sublist) (hc g)
  have h2 : l.length = l.count (n : Int) + (l.filter (fun g => g != (n : Int))).length := by
   have := List.length_eq_countP_add_countP (l := l) (fun g => g == (n : Int))
   rw [this, List.count, List.countP_eq_length_filter (p := fun a => decide ¬(a == (n : Int)) = true)]
   congr 2
   apply List.filter_congr
   intro a _
   cases h : (a == (n : Int)) <;> simp_all
  have := hc (n : Int)
  rw [h2, Nat.mul_succ]; omega
theorem jR {α : Type} (f : α → Nat) : ∀ (l : List α) (k : Nat) (c d : α), l[k]? = some d → ((l.set k c).map f).sum + f d = (l.map f).sum + f c
 | [], k, c, d, h => by simp at h
 | a :: l, 0, c, d, h => by simp at h; subst h; simp; omega
 | a :: l, k + 1, c, d, h => by
  have := jR f l k c d (by simpa using h)
  simp only [List.set_cons_succ, List.map_cons, List.sum_cons]; omega
theorem wM {α : Type} (f : α → Nat) : ∀ (l : List α), (l.map f).sum = 0 → ∀ a ∈ l, f a = 0
 | [], _, a, h => by cases h
 | b :: l, hs, a, h => by
  simp only [List.map_cons, List.sum_cons] at hs
  rcases List.mem_cons.1 h with rfl | h
  ·omega
  ·exact wM f l (by omega) a h
theorem wN {α : Type} (f : α → Nat) : ∀ (l : List α) (a : α), a ∈ l → f a ≤ (l.map f).sum
 | b :: l, a, h => by
  simp only [List.map_cons, List.sum_cons]
  rcases List.mem_cons.1 h with rfl | h
  ·omega
  ·have := wN f l a h; omega
theorem nZ {α : Type} (f : α → Nat) : ∀ (l : List α), (∀ a ∈ l, f a = 0) → (l.map f).sum = 0
 | [], _ => rfl
 | b :: l, h => by
  simp only [List.map_cons, List.sum_cons]
  rw [h b (by simp), nZ f l fun a ha => h a (by simp [ha])]
def cq (c : aK) : List Int := c.snd.map Wt.g ++ c.dI.map Wt.g
def bO (cs : List aK) (g : Int) : Nat := (cs.map fun c => (cq c).count g).sum
def fJ (ls : List Lk) (g : Int) : Nat := (ls.map fun l => l.waits.count g).sum
def zS (hl : List bh) (g : Int) : Nat := (hl.map bh.id).count g
def kN (x : Wd) (g : Int) : Prop := (∀ c ∈ x.az, g ∉ cq c) ∧ (∀ l ∈ x.aP, g ∉ l.waits) ∧ ∀ y ∈ x.hl, y.id ≠ g
theorem sq {cs : List aK} {g : Int} : bO cs g = 0 ↔ ∀ c ∈ cs, g ∉ cq c := by
 constructor
 ·intro h c hc
  exact List.count_eq_zero.1 (wM _ cs h c hc)
 ·intro h
  exact nZ _ cs fun c hc => List.count_eq_zero.2 (h c hc)
theorem uZ {ls : List Lk} {g : Int} : fJ ls g = 0 ↔ ∀ l ∈ ls, g ∉ l.waits := by
 constructor
 ·intro h c hc
  exact List.count_eq_zero.1 (wM _ ls h c hc)
 ·intro h
  exact nZ _ ls fun c hc => List.count_eq_zero.2 (h c hc)
def At (x : Wd) (g s : Int) : Prop := 0 ≤ g ∧ g < x.gs.length ∧ (ae x g).st = s
def iG (p : cf) (f : List cQ) (i : cQ) : Prop := 0 ≤ i.op ∧ i.op < 23 ∧ i.jZ ∧ (i.op = 7 → 0 ≤ i.a ∧ i.a < f.length) ∧ (i.op = 8 → 0 ≤ i.b ∧ i.b < f.length) ∧
 (i.op = 9 ∨ i.op = 11 → 0 ≤ i.a ∧ i.a < p.funcs.length ∧ bn i.b ∧ bn i.c) ∧ (i.op = 10 ∨ i.op = 17 ∨ i.op = 20 ∨ i.op = 21 → bn i.a) ∧
 (i.op = 13 ∨ i.op = 14 ∨ i.op = 15 → 0 ≤ i.a ∧ i.a < p.oA.length) ∧ (i.op = 13 ∨ i.op = 14 → bn i.b) ∧ (i.op = 14 ∨ i.op = 16 → bn i.c) ∧
 (i.op = 16 → 0 ≤ i.a ∧ 1 ≤ i.b ∧ i.a + i.b ≤ p.cases.length) ∧ (i.op = 18 ∨ i.op = 19 → 0 ≤ i.a ∧ i.a < p.aP) ∧ (i.op = 21 → 1 ≤ i.b ∧ i.b < 1099511627776)
structure eV (p : cf) : Prop where
 f1 : 0 < p.funcs.length
 ch : p.oA.length ≤ 8
 lk : 0 ≤ p.aP ∧ p.aP ≤ 8
 cs : p.cases.length ≤ 32
 YE : ∀ c ∈ p.cases, c.Ok p.oA.length ∧ bn c.bL
 code : ∀ f ∈ p.funcs, 0 < f.length ∧ f.length ≤ 64 ∧ ∀ i ∈ f, iG p f i
def BY (p : cf) (f : e7) : Prop := 0 ≤ f.fn ∧ f.fn < p.funcs.length ∧ 0 ≤ f.pc ∧ f.pc ≤ 64 ∧ bn f.eE
structure mK (p : cf) (y : dD) : Prop where
 l1 : 0 < y.fs.length
 l2 : y.fs.length ≤ 16
 fr : ∀ f ∈ y.fs, BY p f
 wt : y.st = 2 → ∃ f ∈ p.funcs, iG p f y.wt
 st : 1 ≤ y.st ∧ y.st ≤ 4
structure WV (p : cf) (x : Wd) : Prop where
 n1 : 0 < x.gs.length
 n2 : x.gs.length ≤ 100
 BZ : ∀ y ∈ x.gs, mK p y
 ch : x.az.length = p.oA.length
 lk : (x.aP.length : Int) = p.aP
 buf : ∀ c ∈ x.az, c.buf.length ≤ c.room ∧ c.room ≤ 16
 dI : ∀ c ∈ x.az, ∀ v ∈ c.dI, At x v.g 2 ∧ ((ae x v.g).wt.op = 14 ∨ (ae x v.g).wt.op = 16 ∧ 0 ≤ v.cs ∧ v.cs < (ae x v.g).wt.b)
 snd : ∀ c ∈ x.az, ∀ v ∈ c.snd, At x v.g 2 ∧ ((ae x v.g).wt.op = 13 ∨ (ae x v.g).wt.op = 16 ∧ 0 ≤ v.cs ∧ v.cs < (ae x v.g).wt.b)
 lw : ∀ l ∈ x.aP, ∀ g ∈ l.waits, At x g 2 ∧ (ae x g).wt.op = 18
 hl : ∀ y ∈ x.hl, At x y.id 3
 one : ∀ g, 0 ≤ g → (ae x g).wt.op ≠ 16 → bO x.az g + fJ x.aP g ≤ 1
 zK : ∀ g, bO x.az g ≤ 32
 h1 : ∀ g, zS x.hl g ≤ 1
 out : x.out.length ≤ 1000
section
variable {p : cf} {x : Wd} {g : Int}
theorem WV.Ma (h : WV p x) {c : aK} (hc : c ∈ x.az) {q : Int} (hq : q ∈ cq c) : At x q 2 ∧ ((ae x q).wt.op = 13 ∨ (ae x q).wt.op = 14 ∨ (ae x q).wt.op = 16) := by
 unfold cq at hq
 rcases List.mem_append.1 hq with hq | hq
 ·obtain ⟨v, hv, rfl⟩ := List.mem_map.1 hq
  obtain ⟨a, b⟩ := h.snd c hc v hv
  exact ⟨a, by rcases b with b | b; exact .inl b; exact .inr (.inr b.1)⟩
 ·obtain ⟨v, hv, rfl⟩ := List.mem_map.1 hq
  obtain ⟨a, b⟩ := h.dI c hc v hv
  exact ⟨a, by rcases b with b | b; exact .inr (.inl b); exact .inr (.inr b.1)⟩
theorem WV.free (h : WV p x) (h2 : (ae x g).st ≠ 2) (h3 : (ae x g).st ≠ 3) : kN x g :=
 ⟨fun c hc hg => h2 (h.Ma hc hg).1.2.2, fun l hl hg => h2 (h.lw l hl g hg).1.2.2, fun y hy e => h3 (by have := (h.hl y hy).2.2; rwa [e] at this)⟩
theorem WV.EL (h : WV p x) {c : aK} (hc : c ∈ x.az) : (cq c).length ≤ 3200 := by
 have h1 := oI (b := 32) x.gs.length (cq c) (fun q hq => ⟨(h.Ma hc hq).1.1, (h.Ma hc hq).1.2.1⟩) (fun q => Nat.le_trans (wN (fun c => (cq c).count q) x.az c hc) (h.zK q))
 have := h.n2
 omega
theorem WV.Qc (h : WV p x) {l : Lk} (hl : l ∈ x.aP) : l.waits.length ≤ 100 := by
 have h1 := oI (b := 1) x.gs.length l.waits (fun q hq => ⟨(h.lw l hl q hq).1.1, (h.lw l hl q hq).1.2.1⟩) (fun q => by
  by_cases hq : q ∈ l.waits
  ·have := h.one q (h.lw l hl q hq).1.1 (by rw [(h.lw l hl q hq).2]; decide)
   have := wN (fun l : Lk => l.waits.count q) x.aP l hl
   unfold fJ at *
   omega
  ·rw [List.count_eq_zero.2 hq]; omega)
 have := h.n2
 omega
theorem WV.EM (h : WV p x) : x.hl.length ≤ 100 := by
 have h1 := oI (b := 1) x.gs.length (x.hl.map bh.id) (fun q hq => by
  obtain ⟨y, hy, rfl⟩ := List.mem_map.1 hq
  exact ⟨(h.hl y hy).1, (h.hl y hy).2.1⟩) h.h1
 rw [List.length_map] at h1
 have := h.n2
 omega
theorem WV.sm (h : WV p x) (hp : eV p) (hr : x.ready.length ≤ 1000000) : x.Sm := by
 refine ⟨fun c hc => ?_, by have := h.ch; have := hp.ch; omega, by have := h.n2; omega, hr, by have := h.out; omega, fun l hl => by have := h.Qc hl; omega, by have := h.lk; have := hp.lk; omega, by have := h.EM; omega⟩
 have h1 := h.EL hc
 unfold cq at h1
 rw [List.length_append, List.length_map, List.length_map] at h1
 have := h.buf c hc
 exact ⟨by omega, by omega, by omega⟩
end
section
variable {p : cf} {x y : Wd} {g q k v : Int} {f : List cQ} {i : cQ}
theorem gf {z : dD} (hg : g < x.gs.length) (h0 : 0 ≤ g) : ae (x.aY g z) q = if q.toNat = g.toNat then z else ae x q := by
 unfold ae Wd.aY
 dsimp only
 by_cases e : q.toNat = g.toNat
 ·rw [if_pos e, e]
  simp [List.getD_eq_getElem?_getD, List.getElem?_set_self (show g.toNat < x.gs.length by omega)]
 ·rw [if_neg e, List.getD_eq_getElem?_getD, List.getD_eq_getElem?_getD, List.getElem?_set_ne (Ne.symm e)]
theorem tF (h0 : 0 ≤ g) (hg : g < x.gs.length) : ae x g ∈ x.gs := by
 unfold ae
 rw [List.getD_eq_getElem?_getD, List.getElem?_eq_getElem (by omega), Option.getD_some]
 exact List.getElem_mem _
theorem WV.congr (h : WV p x) (hl : y.gs.length = x.gs.length) (hst : ∀ q, (ae y q).st = (ae x q).st ∧ (ae y q).wt = (ae x q).wt) (hg : ∀ z ∈ y.gs, mK p z) (e1 : y.az = x.az) (e2 : y.aP = x.aP) (e3 : y.hl = x.hl) (e4 : y.out.length ≤ 1000) : WV p y := by
 have at_ : ∀ q s, At x q s → At y q s := fun q s ha => ⟨ha.1, by rw [hl]; exact ha.2.1, by rw [(hst q).1]; exact ha.2.2⟩
 refine ⟨by rw [hl]; exact h.n1, by rw [hl]; exact h.n2, hg, by rw [e1]; exact h.ch, by rw [e2]; exact h.lk, by rw [e1]; exact h.buf, ?_, ?_, ?_, ?_, ?_, by rw [e1]; exact h.zK, by rw [e3]; exact h.h1, e4⟩
 ·intro c hc v hv
  rw [e1] at hc
  rw [(hst v.g).2]
  exact ⟨at_ _ _ (h.dI c hc v hv).1, (h.dI c hc v hv).2⟩
 ·intro c hc v hv
  rw [e1] at hc
  rw [(hst v.g).2]
  exact ⟨at_ _ _ (h.snd c hc v hv).1, (h.snd c hc v hv).2⟩
 ·intro l hl q hq
  rw [e2] at hl
  rw [(hst q).2]
  exact ⟨at_ _ _ (h.lw l hl q hq).1, (h.lw l hl q hq).2⟩
 ·intro z hz
  rw [e3] at hz
  exact at_ _ _ (h.hl z hz)
 ·intro q h0 hq
  rw [(hst q).2] at hq
  rw [e1, e2]
  exact h.one q h0 hq
theorem wO {l : List dD} {n : Nat} {z w : dD} (h : w ∈ l.set n z) : w ∈ l ∨ w = z := List.mem_or_eq_of_mem_set h
theorem WV.aY (h : WV p x) (h0 : 0 ≤ g) (hg : g < x.gs.length) {z : dD} (hz : mK p z) (e1 : z.st = (ae x g).st) (e2 : z.wt = (ae x g).wt) : WV p (x.aY g z) := by
 refine h.congr (by simp [Wd.aY]) (fun q => ?_) (fun w hw => ?_) rfl rfl rfl h.out
 ·rw [gf hg h0]
  split
  ·rename_i e
   have : ae x q = ae x g := by unfold ae; rw [e]
   rw [this]; exact ⟨e1, e2⟩
  ·exact ⟨rfl, rfl⟩
 ·rcases wO hw with hw | rfl
  ·exact h.BZ w hw
  ·exact hz
theorem WV.ready (h : WV p x) {r : List Int} : WV p { x with ready := r } := h.congr rfl (fun _ => ⟨rfl, rfl⟩) h.BZ rfl rfl rfl h.out
theorem WV.fin (h : WV p x) {e c : Int} : WV p { x with end_ := e, code := c } := h.congr rfl (fun _ => ⟨rfl, rfl⟩) h.BZ rfl rfl rfl h.out
theorem WV.EN (h : WV p x) (h0 : 0 ≤ g) (hg : g < x.gs.length) (hf : kN x g) {z : dD} (hz : mK p z) : WV p (x.aY g z) := by
 have ne : ∀ q, 0 ≤ q → q ≠ g → ae (x.aY g z) q = ae x q := fun q q0 hq => by rw [gf hg h0, if_neg (by omega)]
 have at_ : ∀ q s, q ≠ g → At x q s → At (x.aY g z) q s := fun q s hq ha => ⟨ha.1, by simpa [Wd.aY] using ha.2.1, by rw [ne q ha.1 hq]; exact ha.2.2⟩
 refine ⟨by simpa [Wd.aY] using h.n1, by simpa [Wd.aY] using h.n2, fun w hw => ?_, h.ch, h.lk, h.buf, ?_, ?_, ?_, ?_, ?_, h.zK, h.h1, h.out⟩
 ·rcases wO hw with hw | rfl
  ·exact h.BZ w hw
  ·exact hz
 ·intro c hc v hv
  have hne : v.g ≠ g := fun e => hf.1 c hc (by rw [← e]; exact List.mem_append_right _ (List.mem_map.2 ⟨v, hv, rfl⟩))
  obtain ⟨a, b⟩ := h.dI c hc v hv
  rw [ne _ a.1 hne]
  exact ⟨at_ _ _ hne a, b⟩
 ·intro c hc v hv
  have hne : v.g ≠ g := fun e => hf.1 c hc (by rw [← e]; exact List.mem_append_left _ (List.mem_map.2 ⟨v, hv, rfl⟩))
  obtain ⟨a, b⟩ := h.snd c hc v hv
  rw [ne _ a.1 hne]
  exact ⟨at_ _ _ hne a, b⟩
 ·intro l hl q hq
  have hne : q ≠ g := fun e => hf.2.1 l hl (by rw [← e]; exact hq)
  obtain ⟨a, b⟩ := h.lw l hl q hq
  rw [ne _ a.1 hne]
  exact ⟨at_ _ _ hne a, b⟩
 ·intro w hw
  have hne : w.id ≠ g := hf.2.2 w hw
  exact at_ _ _ hne (h.hl w hw)
 ·intro q q0 hq
  by_cases e : q = g
  ·subst e
   have a := sq.2 hf.1
   have b := uZ.2 hf.2.1
   show bO x.az q + fJ x.aP q ≤ 1
   omega
  ·rw [ne q q0 e] at hq
   exact h.one q q0 hq
theorem mK.JR {z : dD} (h : mK p z) {s : Int} (h1 : s ≠ 2) (h2 : 1 ≤ s ∧ s ≤ 4) : mK p { z with st := s } := ⟨h.l1, h.l2, h.fr, fun e => absurd e h1, h2⟩
theorem WV.dN (h : WV p x) (h0 : 0 ≤ g) (hg : g < x.gs.length) (hf : kN x g) : WV p (x.dN g) :=
 WV.ready (h.EN h0 hg hf ((h.BZ _ (tF h0 hg)).JR (by decide) (by decide)))
theorem WV.block (h : WV p x) (ha : At x g 1) (hf : f ∈ p.funcs) (hi : iG p f i) : WV p (x.block g i) := by
 have hz := h.BZ _ (tF ha.1 ha.2.1)
 exact h.EN ha.1 ha.2.1 (h.free (by rw [ha.2.2]; decide) (by rw [ha.2.2]; decide)) ⟨hz.l1, hz.l2, hz.fr, fun _ => ⟨f, hf, hi⟩, by show (1 : Int) ≤ 2 ∧ (2 : Int) ≤ 4; decide⟩
theorem hU {α : Type} {l : List α} {n : Nat} {a b : α} (h : b ∈ l.set n a) : b ∈ l ∨ b = a := List.mem_or_eq_of_mem_set h
theorem WV.less (h : WV p x) {c c' : aK} (hc : x.az[k.toNat]? = some c) (hb : c'.buf.length ≤ c'.room ∧ c'.room ≤ 16) (hr : ∀ v ∈ c'.dI, v ∈ c.dI) (hs : ∀ v ∈ c'.snd, v ∈ c.snd) (hn : ∀ q, (cq c').count q ≤ (cq c).count q) : WV p (x.bT k c') := by
 have hm : c ∈ x.az := List.mem_of_getElem? hc
 have JS : ∀ q, bO (x.az.set k.toNat c') q ≤ bO x.az q := by
  intro q
  have := jR (fun c : aK => (cq c).count q) x.az k.toNat c' c hc
  have := hn q
  unfold bO
  omega
 refine ⟨h.n1, h.n2, h.BZ, by simpa [Wd.bT] using h.ch, h.lk, ?_, ?_, ?_, h.lw, h.hl, ?_, ?_, h.h1, h.out⟩
 ·intro d hd
  rcases hU hd with hd | rfl
  ·exact h.buf d hd
  ·exact hb
 ·intro d hd v hv
  rcases hU hd with hd | rfl
  ·exact h.dI d hd v hv
  ·exact h.dI c hm v (hr v hv)
 ·intro d hd v hv
  rcases hU hd with hd | rfl
  ·exact h.snd d hd v hv
  ·exact h.snd c hm v (hs v hv)
 ·intro q q0 hq
  have := h.one q q0 hq
  have := JS q
  show bO (x.az.set k.toNat c') q + fJ x.aP q ≤ 1
  omega
 ·intro q
  exact Nat.le_trans (JS q) (h.zK q)
theorem WV.more (h : WV p x) {c c' : aK} {w : Wt} (hc : x.az[k.toNat]? = some c) (hb : c'.buf.length ≤ c'.room ∧ c'.room ≤ 16)
  (hr : ∀ v ∈ c'.dI, v ∈ c.dI ∨ v = w ∧ At x w.g 2 ∧ ((ae x w.g).wt.op = 14 ∨ (ae x w.g).wt.op = 16 ∧ 0 ≤ w.cs ∧ w.cs < (ae x w.g).wt.b))
  (hs : ∀ v ∈ c'.snd, v ∈ c.snd ∨ v = w ∧ At x w.g 2 ∧ ((ae x w.g).wt.op = 13 ∨ (ae x w.g).wt.op = 16 ∧ 0 ≤ w.cs ∧ w.cs < (ae x w.g).wt.b))
  (hn : ∀ q, (cq c').count q ≤ (cq c).count q + (if q = w.g then 1 else 0)) (hz : (ae x w.g).wt.op ≠ 16 → bO x.az w.g + fJ x.aP w.g = 0) (ZF : bO x.az w.g < 32) : WV p (x.bT k c') := by
 have hm : c ∈ x.az := List.mem_of_getElem? hc
 have JS : ∀ q, bO (x.az.set k.toNat c') q ≤ bO x.az q + (if q = w.g then 1 else 0) := by
  intro q
  have := jR (fun c : aK => (cq c).count q) x.az k.toNat c' c hc
  have := hn q
  unfold bO
  omega
 refine ⟨h.n1, h.n2, h.BZ, by simpa [Wd.bT] using h.ch, h.lk, ?_, ?_, ?_, h.lw, h.hl, ?_, ?_, h.h1, h.out⟩
 ·intro d hd
  rcases hU hd with hd | rfl
  ·exact h.buf d hd
  ·exact hb
 ·intro d hd v hv
  rcases hU hd with hd | rfl
  ·exact h.dI d hd v hv
  ·rcases hr v hv with hv | ⟨rfl, hv⟩
   ·exact h.dI c hm v hv
   ·exact hv
 ·intro d hd v hv
  rcases hU hd with hd | rfl
  ·exact h.snd d hd v hv
  ·rcases hs v hv with hv | ⟨rfl, hv⟩
   ·exact h.snd c hm v hv
   ·exact hv
 ·intro q q0 hq
  have a := JS q
  show bO (x.az.set k.toNat c') q + fJ x.aP q ≤ 1
  by_cases e : q = w.g
  ·subst e
   have := hz hq
   rw [if_pos rfl] at a
   omega
  ·have := h.one q q0 hq
   rw [if_neg e] at a
   omega
 ·intro q
  have a := JS q
  show bO (x.az.set k.toNat c') q ≤ 32
  by_cases e : q = w.g
  ·subst e
   rw [if_pos rfl] at a
   omega
  ·have := h.zK q
   rw [if_neg e] at a
   omega
end
section
variable {p : cf} {x y : Wd} {g q k n : Int} {f : List cQ} {i : cQ} {v : Wt}
theorem JT {α : Type} (f g : α → Nat) : ∀ (l : List α), (∀ a ∈ l, f a ≤ g a) → (l.map f).sum ≤ (l.map g).sum
 | [], _ => Nat.le_refl _
 | b :: l, h => by
  simp only [List.map_cons, List.sum_cons]
  have := h b (by simp)
  have := JT f g l fun a ha => h a (by simp [ha])
  omega
theorem wP (c : aK) : cq (c.drop g) = (cq c).filter (fun q => q != g) := by
 unfold cq aK.drop wo
 simp only [List.filter_append, List.filter_map]
 rfl
theorem B4 (cs : List aK) (q : Int) : bO (cs.map fun c => c.drop g) q ≤ bO cs q := by
 unfold bO
 rw [List.map_map]
 refine JT _ _ cs fun c _ => ?_
 show (cq (c.drop g)).count q ≤ _
 rw [wP]
 exact List.Sublist.count_le _ List.filter_sublist
theorem WV.leave (h : WV p x) : WV p (x.leave g) := by
 refine ⟨h.n1, h.n2, h.BZ, by simpa [Wd.leave] using h.ch, h.lk, ?_, ?_, ?_, h.lw, h.hl, ?_, ?_, h.h1, h.out⟩
 ·intro d hd
  obtain ⟨c, hc, rfl⟩ := List.mem_map.1 hd
  exact h.buf c hc
 ·intro d hd v hv
  obtain ⟨c, hc, rfl⟩ := List.mem_map.1 hd
  exact h.dI c hc v (List.mem_filter.1 hv).1
 ·intro d hd v hv
  obtain ⟨c, hc, rfl⟩ := List.mem_map.1 hd
  exact h.snd c hc v (List.mem_filter.1 hv).1
 ·intro q q0 hq
  have := B4 (g := g) x.az q
  have := h.one q q0 hq
  show bO (x.az.map fun c => c.drop g) q + fJ x.aP q ≤ 1
  omega
 ·intro q
  exact Nat.le_trans (B4 x.az q) (h.zK q)
theorem DV (h : WV p x) (h3 : (ae x g).wt.op ≠ 18) (h2 : (ae x g).st = 2) : kN (x.leave g) g := by
 refine ⟨fun d hd hg => ?_, fun l hl hg => h3 (h.lw l hl g hg).2, fun w hw e => ?_⟩
 ·obtain ⟨c, hc, rfl⟩ := List.mem_map.1 hd
  rw [wP] at hg
  have := (List.mem_filter.1 hg).2
  simp at this
 ·have := (h.hl w hw).2.2
  rw [e, h2] at this
  cases this
theorem BY.set {r : e7} (h : BY p r) (q v : Int) : BY p (r.set q v) := h
theorem mK.bS {z : dD} (h : mK p z) {r : e7} (hr : BY p r) : mK p (z.bS r) :=
 ⟨by simpa [dD.bS] using h.l1, by simpa [dD.bS] using h.l2, fun f hf => by
  rcases List.mem_or_eq_of_mem_set hf with hf | rfl
  ·exact h.fr f hf
  ·exact hr, h.wt, h.st⟩
theorem mK.top {z : dD} (h : mK p z) : BY p z.top := by
 unfold dD.top
 have := h.l1
 rw [List.getD_eq_getElem?_getD, List.getElem?_eq_getElem (by omega), Option.getD_some]
 exact h.fr _ (List.getElem_mem _)
theorem WV.iC (h : WV p x) (h0 : 0 ≤ g) (hg : g < x.gs.length) : mK p (ae x g) := h.BZ _ (tF h0 hg)
theorem WV.aX (h : WV p x) (h0 : 0 ≤ g) (hg : g < x.gs.length) : WV p (x.aX g q n) :=
 h.aY h0 hg ((h.iC h0 hg).bS ((h.iC h0 hg).top.set q n)) rfl rfl
theorem yV (h0 : 0 ≤ g) (hg : g < x.gs.length) {m : Int} : (ae (x.aX g q n) m).st = (ae x m).st ∧ (ae (x.aX g q n) m).wt = (ae x m).wt ∧ (ae (x.aX g q n) m).fs.length = (ae x m).fs.length := by
 unfold Wd.aX
 rw [gf hg h0]
 split
 ·rename_i e
  have : ae x m = ae x g := by unfold ae; rw [e]
  rw [this]
  exact ⟨rfl, rfl, by simp [dD.bS]⟩
 ·exact ⟨rfl, rfl, rfl⟩
theorem kO (h0 : 0 ≤ g) (hg : g < x.gs.length) {m : Int} (h1 : 0 ≤ m) (hne : m ≠ g) : ae (x.aX g q n) m = ae x m := by
 unfold Wd.aX
 rw [gf hg h0, if_neg (by omega)]
theorem WV.aS (h : WV p x) (h0 : 0 ≤ g) (hg : g < x.gs.length) : aS x g := ⟨h0, hg, (h.iC h0 hg).l1, by have := (h.iC h0 hg).l2; omega⟩
theorem GC (hp : eV p) {a : Int} (h0 : 0 ≤ a) (h1 : a < p.cases.length) : ni p a ∈ p.cases := by
 unfold ni
 rw [List.getD_eq_getElem?_getD, List.getElem?_eq_getElem (by omega), Option.getD_some]
 exact List.getElem_mem _
theorem WV.nj (h : WV p x) (hp : eV p) (ha : At x v.g 2) (hw : (ae x v.g).wt.op = 14 ∨ (ae x v.g).wt.op = 16 ∧ 0 ≤ v.cs ∧ v.cs < (ae x v.g).wt.b) : nj p x v := by
 refine ⟨h.aS ha.1 ha.2.1, ?_⟩
 obtain ⟨f, hf, hi⟩ := (h.iC ha.1 ha.2.1).wt ha.2.2
 obtain ⟨_, _, _, _, _, _, _, _, i13, i14, i16, _⟩ := hi
 split
 ·rename_i e
  rcases hw with hw | ⟨_, c0, c1⟩
  ·rw [e] at hw; cases hw
  ·obtain ⟨a0, a1, a2⟩ := i16 e
   refine ⟨by omega, by omega, by have := hp.cs; omega, (hp.YE _ (GC hp (by omega) (by omega))).2, i14 (.inr e)⟩
 ·rename_i e
  rcases hw with hw | ⟨hw, _⟩
  ·exact ⟨i13 (.inr hw), i14 (.inl hw)⟩
  ·exact absurd hw e
theorem WV.tY (h : WV p x) (ha : At x v.g 2) : tY x v := by
 refine ⟨h.aS ha.1 ha.2.1, fun e => ?_⟩
 obtain ⟨f, hf, hi⟩ := (h.iC ha.1 ha.2.1).wt ha.2.2
 obtain ⟨_, _, _, _, _, _, _, _, _, i14, _⟩ := hi
 exact i14 (.inr e)
theorem kN.bL (h : kN x g) : kN (x.aX q k n) g := h
theorem bG {m : Int} : (x.aX g q m).gs.length = x.gs.length := by simp [Wd.aX, Wd.aY]
theorem kP : (x.dN g).gs.length = x.gs.length := by simp [Wd.dN, Wd.aY]
theorem oJ (h0 : 0 ≤ g) (hg : g < x.gs.length) {m : Int} (h1 : 0 ≤ m) (hne : m ≠ g) : ae (x.dN g) m = ae x m := by
 show ae (x.aY g _) m = _
 rw [gf hg h0, if_neg (by omega)]
theorem sr (h0 : 0 ≤ g) (hg : g < x.gs.length) : (ae (x.dN g) g).st = 1 := by
 show (ae (x.aY g _) g).st = _
 rw [gf hg h0, if_pos rfl]
theorem WV.fq (h : WV p x) (ha : At x g 2) (NA : (ae x g).wt.op ≠ 18) : WV p (x.fq g k) ∧ kN (x.fq g k) g := by
 obtain ⟨h0, hg, h2⟩ := ha
 unfold Wd.fq
 have r2 := h.aX (q := (ae x g).wt.c) (n := k) h0 hg
 have e2 := yV (x := x) (q := (ae x g).wt.c) (n := k) h0 hg (m := g)
 exact ⟨r2.leave, DV r2 (by rw [e2.2.1]; exact NA) (by rw [e2.1]; exact h2)⟩
theorem fC : (x.fq g k).gs.length = x.gs.length := by simp [Wd.fq, Wd.leave, bG]
theorem yW (h0 : 0 ≤ g) (hg : g < x.gs.length) {m : Int} (h1 : 0 ≤ m) (hne : m ≠ g) : ae (x.fq g k) m = ae x m := by
 show ae (x.aX g _ _) m = _
 exact kO h0 hg h1 hne
theorem WV.received (h : WV p x) (ha : At x v.g 2) (NA : (ae x v.g).wt.op ≠ 18) (hf : (ae x v.g).wt.op ≠ 16 → kN x v.g) {s : Int} : WV p (x.received p v s) := by
 have YF := ha
 obtain ⟨h0, hg, h2⟩ := YF
 unfold Wd.received
 dsimp only
 split
 ·have r1 := h.aX (q := (ni p ((ae x v.g).wt.a + v.cs)).bL) (n := v.v) h0 hg
  have e1 := yV (x := x) (q := (ni p ((ae x v.g).wt.a + v.cs)).bL) (n := v.v) h0 hg (m := v.g)
  have l1 := bG (x := x) (g := v.g) (q := (ni p ((ae x v.g).wt.a + v.cs)).bL) (m := v.v)
  obtain ⟨r2, f2⟩ := r1.fq (k := v.cs) ⟨h0, by rw [l1]; exact hg, by rw [e1.1]; exact h2⟩ (by rw [e1.2.1]; exact NA)
  exact r2.dN h0 (by rw [fC, l1]; exact hg) f2
 ·rename_i e
  have r1 := h.aX (q := (ae x v.g).wt.b) (n := v.v) h0 hg
  have r2 := r1.aX (g := v.g) (q := (ae x v.g).wt.c) (n := s) h0 (by rw [bG]; exact hg)
  exact r2.dN h0 (by rw [bG, bG]; exact hg) (hf e)
theorem su {s : Int} : (x.received p v s).gs.length = x.gs.length := by
 unfold Wd.received
 dsimp only
 split
 ·rw [kP, fC, bG]
 ·rw [kP, bG, bG]
theorem uo (h0 : 0 ≤ v.g) (hg : v.g < x.gs.length) {s m : Int} (h1 : 0 ≤ m) (hne : m ≠ v.g) : ae (x.received p v s) m = ae x m := by
 unfold Wd.received
 dsimp only
 split
 ·rw [oJ h0 (by rw [fC, bG]; exact hg) h1 hne, yW h0 (by rw [bG]; exact hg) h1 hne, kO h0 hg h1 hne]
 ·rw [oJ h0 (by rw [bG, bG]; exact hg) h1 hne, kO h0 (by rw [bG]; exact hg) h1 hne, kO h0 hg h1 hne]
theorem jS (h0 : 0 ≤ v.g) (hg : v.g < x.gs.length) {s : Int} : (ae (x.received p v s) v.g).st = 1 ∧ (x.received p v s).ready = x.ready ++ [v.g] := by
 unfold Wd.received
 dsimp only
 split
 ·exact ⟨sr h0 (by rw [fC, bG]; exact hg), rfl⟩
 ·exact ⟨sr h0 (by rw [bG, bG]; exact hg), rfl⟩
theorem WV.sent (h : WV p x) (ha : At x v.g 2) (NA : (ae x v.g).wt.op ≠ 18) (hf : (ae x v.g).wt.op ≠ 16 → kN x v.g) : WV p (x.sent v) := by
 have YF := ha
 obtain ⟨h0, hg, h2⟩ := YF
 unfold Wd.sent
 split
 ·obtain ⟨r2, f2⟩ := h.fq (k := v.cs) ha NA
  exact r2.dN h0 (by rw [fC]; exact hg) f2
 ·rename_i e
  exact h.dN h0 hg (hf e)
theorem JU : (x.sent v).gs.length = x.gs.length := by
 unfold Wd.sent
 split
 ·rw [kP, fC]
 ·rw [kP]
theorem Mb (h0 : 0 ≤ v.g) (hg : v.g < x.gs.length) {m : Int} (h1 : 0 ≤ m) (hne : m ≠ v.g) : ae (x.sent v) m = ae x m := by
 unfold Wd.sent
 split
 ·rw [oJ h0 (by rw [fC]; exact hg) h1 hne, yW h0 hg h1 hne]
 ·rw [oJ h0 hg h1 hne]
theorem EO (h0 : 0 ≤ v.g) (hg : v.g < x.gs.length) : (ae (x.sent v) v.g).st = 1 ∧ (x.sent v).ready = x.ready ++ [v.g] := by
 unfold Wd.sent
 split
 ·exact ⟨sr h0 (by rw [fC]; exact hg), rfl⟩
 ·exact ⟨sr h0 hg, rfl⟩
theorem B5 (hk : r5 x k) : ∃ c, x.az[k.toNat]? = some c ∧ cO x.az k = c := by
 obtain ⟨k0, k1⟩ := hk
 obtain ⟨c, hc⟩ := aN (l := x.az) (i := k.toNat) (by omega)
 exact ⟨c, hc, by simp [cO, hc]⟩
theorem zT (h : WV p x) {c c' : aK} (hc : x.az[k.toNat]? = some c) (h0 : 0 ≤ g) (h2 : (ae x g).st = 2) (qv : (ae x g).wt.op ≠ 16) (hn : (cq c').count g + 1 ≤ (cq c).count g) : kN (x.bT k c') g := by
 have a := h.one g h0 qv
 have b := jR (fun c : aK => (cq c).count g) x.az k.toNat c' c hc
 have e1 : bO (x.az.set k.toNat c') g = 0 := by unfold bO at *; omega
 have e2 : fJ x.aP g = 0 := by
  have := wN (fun c : aK => (cq c).count g) x.az c (List.mem_of_getElem? hc)
  unfold bO at a
  omega
 refine ⟨sq.1 e1, uZ.1 e2, fun w hw e => ?_⟩
 have := (h.hl w hw).2.2
 rw [e, h2] at this
 cases this
end
def Wk (x y : Wd) : Prop := y.gs.length = x.gs.length ∧ ∃ l : List Int, y.ready = x.ready ++ l ∧ l.Nodup ∧ (∀ q ∈ l, 0 ≤ q ∧ q < x.gs.length ∧ (ae x q).st ≠ 1 ∧ (ae y q).st = 1) ∧ ∀ q, 0 ≤ q → q ∉ l → ae y q = ae x q
section
variable {p : cf} {x y z : Wd} {g q k n : Int} {f : List cQ} {i : cQ} {v : Wt}
theorem Wk.refl (x : Wd) : Wk x x := ⟨rfl, [], by simp, List.nodup_nil, (fun q h => by cases h), fun q _ _ => rfl⟩
theorem Wk.same (h1 : y.gs = x.gs) (h2 : y.ready = x.ready) : Wk x y := ⟨by rw [h1], [], by simp [h2], List.nodup_nil, fun q h => by (cases h), fun q _ _ => by unfold ae; rw [h1]⟩
theorem Wk.trans (h : Wk x y) (h' : Wk y z) : Wk x z := by
 obtain ⟨a1, l, a2, a3, a4, a5⟩ := h
 obtain ⟨b1, m, b2, b3, b4, b5⟩ := h'
 refine ⟨by rw [b1, a1], l ++ m, by rw [b2, a2, List.append_assoc], ?_, ?_, ?_⟩
 ·refine List.nodup_append.2 ⟨a3, b3, fun q hq r hr e => ?_⟩
  subst e
  exact (b4 q hr).2.2.1 (a4 q hq).2.2.2
 ·intro q hq
  rcases List.mem_append.1 hq with hq | hq
  ·obtain ⟨c1, c2, c3, c4⟩ := a4 q hq
   refine ⟨c1, c2, c3, ?_⟩
   by_cases hm : q ∈ m
   ·exact (b4 q hm).2.2.2
   ·rw [b5 q c1 hm]; exact c4
  ·obtain ⟨c1, c2, c3, c4⟩ := b4 q hq
   by_cases hl : q ∈ l
   ·exact absurd (a4 q hl).2.2.2 c3
   ·exact ⟨c1, by rw [← a1]; exact c2, by rw [← a5 q c1 hl]; exact c3, c4⟩
 ·intro q q0 hq
  rw [List.mem_append] at hq
  rw [b5 q q0 (fun h => hq (.inr h)), a5 q q0 (fun h => hq (.inl h))]
theorem Wk.keep (h : Wk x y) (h0 : 0 ≤ q) (h1 : (ae x q).st = 1) : ae y q = ae x q := by
 obtain ⟨_, l, _, _, a4, a5⟩ := h
 exact a5 q h0 fun hq => (a4 q hq).2.2.1 h1
theorem Wk.received (h0 : 0 ≤ v.g) (hg : v.g < x.gs.length) (h1 : (ae x v.g).st ≠ 1) {s : Int} : Wk x (x.received p v s) :=
 ⟨su, [v.g], (jS h0 hg).2, by simp, fun q hq => by
  simp only [List.mem_singleton] at hq; subst hq
  exact ⟨h0, hg, h1, (jS h0 hg).1⟩, fun q q0 hq => uo h0 hg q0 (by simpa using hq)⟩
theorem Wk.sent (h0 : 0 ≤ v.g) (hg : v.g < x.gs.length) (h1 : (ae x v.g).st ≠ 1) : Wk x (x.sent v) :=
 ⟨JU, [v.g], (EO h0 hg).2, by simp, fun q hq => by
  simp only [List.mem_singleton] at hq; subst hq
  exact ⟨h0, hg, h1, (EO h0 hg).1⟩, fun q q0 hq => Mb h0 hg q0 (by simpa using hq)⟩
theorem Wk.dN (h0 : 0 ≤ g) (hg : g < x.gs.length) (h1 : (ae x g).st ≠ 1) : Wk x (x.dN g) :=
 ⟨kP, [g], rfl, by simp, fun q hq => by
  simp only [List.mem_singleton] at hq; subst hq
  exact ⟨h0, hg, h1, sr h0 hg⟩, fun q q0 hq => oJ h0 hg q0 (by simpa using hq)⟩
theorem Wk.bT {c : aK} : Wk x (x.bT k c) := Wk.same rfl rfl
theorem oa (h : WV p x) {c : aK} (hc : c ∈ x.az) : c.buf.length ≤ 16 ∧ c.snd.length ≤ 3200 ∧ c.dI.length ≤ 3200 := by
 have h1 := h.EL hc
 unfold cq at h1
 rw [List.length_append, List.length_map, List.length_map] at h1
 have := h.buf c hc
 omega
def Qd (p : cf) (x : Wd) : Out (Wd × Bool) → Prop
 | .dy _ y => WV p y ∧ y.gs = x.gs ∧ y.ready = x.ready
 | .on (y, true) => WV p y ∧ Wk x y
 | .on (y, false) => y = x
 | .cG _ _ => False
theorem dW {α : Type} : ∀ (l : List α) (n : Nat) (a : α), l[n]? = some a → l.set n a = l
 | [], _, _, _ => rfl
 | b :: l, 0, a, h => by simp at h; subst h; rfl
 | b :: l, n + 1, a, h => by rw [List.set_cons_succ, dW l n a (by simpa using h)]
theorem lU {c : aK} (hc : x.az[k.toNat]? = some c) : x.bT k c = x := by
 unfold Wd.bT
 rw [dW _ _ _ hc]
theorem WV.put (h : WV p x) (hp : eV p) (hk : r5 x k) : l9 p x k n ∧ Qd p x (x.put p k n) := by
 obtain ⟨c, hc, e⟩ := B5 hk
 have hm := List.mem_of_getElem? hc
 obtain ⟨s1, s2, s3⟩ := oa h hm
 have hb := h.buf c hm
 have hr := h.dI c hm
 unfold l9 Wd.put
 rw [e]
 refine ⟨⟨hk, ?_, ?_⟩, ?_⟩
 ·unfold aK.send
  split
  ·intro h; cases h
  ·split
   ·rename_i w r hw
    intro _
    obtain ⟨a, b⟩ := hr w (by rw [hw]; simp)
    exact h.nj (v := ⟨w.g, w.cs, n⟩) hp a b
   ·split <;> (intro h; cases h)
 ·have : c.Small 3200 := ⟨by omega, s2, s3⟩
  exact (this.send n).mono (by omega)
 ·unfold aK.send
  split
  ·dsimp only
   rw [if_pos rfl, lU hc]
   exact ⟨h, rfl, rfl⟩
  ·split
   ·rename_i w r hw
    dsimp only
    obtain ⟨a, b⟩ := hr w (by rw [hw]; simp)
    have hl : WV p (x.bT k { c with dI := r }) := h.less hc hb (fun v hv => by rw [hw]; exact List.mem_cons_of_mem _ hv) (fun v hv => hv) (fun q => by
     unfold cq; rw [hw]; simp only [List.map_cons, List.count_append, List.count_cons]; omega)
    have hne : (ae x w.g).wt.op ≠ 18 := by rcases b with b | b; rw [b]; decide; rw [b.1]; decide
    rw [if_neg (by decide), if_pos rfl]
    refine ⟨hl.received (v := ⟨w.g, w.cs, n⟩) a hne (fun qv => ?_), Wk.bT.trans (Wk.received (x := x.bT k { c with dI := r }) (v := ⟨w.g, w.cs, n⟩) a.1 a.2.1 (by show (ae x w.g).st ≠ 1; rw [a.2.2]; decide))⟩
    exact zT h hc a.1 a.2.2 qv (by unfold cq; rw [hw]; simp only [List.map_cons, List.count_append, List.count_cons, beq_self_eq_true, if_true]; omega)
   ·rename_i hw
    split
    ·dsimp only
     rw [if_neg (by decide), if_neg (by decide)]
     exact ⟨h.less hc ⟨by simp; omega, hb.2⟩ (fun v hv => hv) (fun v hv => hv) (fun q => Nat.le_refl _), Wk.bT⟩
    ·dsimp only
     rw [if_neg (by decide), if_neg (by decide), lU hc]
     exact rfl
theorem WV.get (h : WV p x) (hp : eV p) (hk : r5 x k) : r6 x k ∧ WV p (x.get k).1 ∧ Wk x (x.get k).1 ∧ ((x.get k).2.2.2 = false → (x.get k).1 = x) := by
 obtain ⟨c, hc, e⟩ := B5 hk
 have hm := List.mem_of_getElem? hc
 obtain ⟨s1, s2, s3⟩ := oa h hm
 have hb := h.buf c hm
 have hs := h.snd c hm
 unfold r6 Wd.get
 rw [e]
 obtain ⟨room, buf, snd, dI, closed⟩ := c
 cases snd with
 | cons w r =>
  obtain ⟨a, b⟩ := hs w (by simp)
  obtain ⟨v, l, hv⟩ : ∃ v l, buf ++ [w.v] = v :: l := by
   cases buf with
   | nil => exact ⟨_, _, rfl⟩
   | cons q t => exact ⟨q, t ++ [w.v], rfl⟩
  have hlen : l.length = buf.length := by
   have := congrArg List.length hv
   simp at this; omega
  have er : aK.recv ⟨room, buf, w :: r, dI, closed⟩ = (⟨room, l, r, dI, closed⟩, v, true, w, true, 0) := by
   unfold aK.recv aK.all
   dsimp only
   rw [hv]
   rfl
  rw [er]
  dsimp only
  have hl : WV p (x.bT k ⟨room, l, r, dI, closed⟩) := h.less hc (by rw [hlen]; exact hb) (fun v hv => hv) (fun v hv => List.mem_cons_of_mem _ hv) (fun q => by
   unfold cq; simp only [List.map_cons, List.cons_append, List.count_cons]; omega)
  have hne : (ae x w.g).wt.op ≠ 18 := by rcases b with b | b; rw [b]; decide; rw [b.1]; decide
  rw [if_pos rfl, if_pos rfl]
  refine ⟨⟨hk, fun _ => h.tY a, ⟨by dsimp only at *; omega, by simp only [List.length_cons] at s2; dsimp only; omega, by dsimp only at *; omega⟩⟩, hl.sent a hne (fun qv => ?_), Wk.bT.trans (Wk.sent (x := x.bT k ⟨room, l, r, dI, closed⟩) a.1 a.2.1 (by show (ae x w.g).st ≠ 1; rw [a.2.2]; decide)), (fun h => by cases h)⟩
  exact zT h hc a.1 a.2.2 qv (by unfold cq; simp only [List.map_cons, List.cons_append, List.count_cons, beq_self_eq_true, if_true]; omega)
 | nil =>
  cases buf with
  | cons q t =>
   have er : aK.recv ⟨room, q :: t, [], dI, closed⟩ = (⟨room, t, [], dI, closed⟩, q, true, .zero, false, 0) := rfl
   rw [er]
   dsimp only
   simp only [Bool.false_eq_true, if_false, if_true]
   simp only [List.length_cons] at s1 hb
   exact ⟨⟨hk, (fun h => by cases h), ⟨by dsimp only; omega, by dsimp only at *; omega, by dsimp only at *; omega⟩⟩, h.less hc ⟨by dsimp only; omega, hb.2⟩ (fun v hv => hv) (fun v hv => hv) (fun q => Nat.le_refl _), Wk.bT, (fun h => by cases h)⟩
  | nil =>
   have er : aK.recv ⟨room, [], [], dI, closed⟩ = (⟨room, [], [], dI, closed⟩, 0, false, .zero, false, if closed then 0 else 5) := rfl
   rw [er]
   dsimp only
   simp only [Bool.false_eq_true, if_false, lU hc]
   exact ⟨⟨hk, (fun h => by cases h), ⟨by dsimp only at *; omega, by dsimp only at *; omega, by dsimp only at *; omega⟩⟩, h, Wk.refl _, fun _ => trivial⟩
end
section
variable {p : cf} {x y z : Wd} {g q k n : Int} {f : List cQ} {i : cQ} {v : Wt}
def Qe (x : Wd) (v : Wt) : Prop := 0 ≤ v.g ∧ v.g < x.gs.length ∧ ((ae x v.g).st = 2 → (ae x v.g).wt.op = 14 ∧ kN x v.g ∨ (ae x v.g).wt.op = 16 ∧ 0 ≤ v.cs ∧ v.cs < (ae x v.g).wt.b)
def wQ (x y : Wd) : Prop := (∀ d ∈ y.az, ∃ c ∈ x.az, ∀ q ∈ cq d, q ∈ cq c) ∧ y.aP = x.aP ∧ y.hl = x.hl
theorem wQ.refl (x : Wd) : wQ x x := ⟨fun d hd => ⟨d, hd, fun _ h => h⟩, rfl, rfl⟩
theorem wQ.free (h : wQ x y) (hf : kN x g) : kN y g := by
 obtain ⟨a, b, c⟩ := h
 refine ⟨fun d hd hg => ?_, by rw [b]; exact hf.2.1, by rw [c]; exact hf.2.2⟩
 obtain ⟨e, he, hs⟩ := a d hd
 exact hf.1 e he (hs g hg)
theorem wQ.leave : wQ x (x.leave g) := ⟨fun d hd => by
 obtain ⟨c, hc, rfl⟩ := List.mem_map.1 hd
 exact ⟨c, hc, fun q hq => by rw [wP] at hq; exact (List.mem_filter.1 hq).1⟩, rfl, rfl⟩
theorem wQ.received {s : Int} : wQ x (x.received p v s) := by
 unfold Wd.received
 dsimp only
 split
 ·exact wQ.leave (x := (x.aX v.g (ni p ((ae x v.g).wt.a + v.cs)).bL v.v).aX v.g _ _)
 ·exact wQ.refl x
theorem tG (hp : eV p) : ∀ (l : List Wt) (x : Wd), WV p x → x.ready.length + l.length ≤ 1000000 → (∀ v ∈ l, Qe x v) → tp p x l ∧ WV p (l.foldl (cR p) x) ∧ Wk x (l.foldl (cR p) x)
 | [], x, h, _, _ => ⟨trivial, h, Wk.refl x⟩
 | v :: l, x, h, hr, ha => by
  obtain ⟨h0, hg, h2⟩ := ha v (by simp)
  have je : x.ready.length ≤ 1000000 := by simp only [List.length_cons] at hr; omega
  by_cases e : (ae x v.g).st = 2
  ·have JV : At x v.g 2 := ⟨h0, hg, e⟩
   have hne : (ae x v.g).wt.op ≠ 18 := by rcases h2 e with b | b; rw [b.1]; decide; rw [b.1]; decide
   have hw := h.received (v := { v with v := 0 }) JV hne (fun qv => by
    rcases h2 e with b | b
    ·exact b.2
    ·exact absurd b.1 qv) (s := 0)
   have hk : Wk x (x.received p { v with v := 0 } 0) := Wk.received (v := { v with v := 0 }) h0 hg (by rw [e]; decide)
   have es : cR p x v = x.received p { v with v := 0 } 0 := by unfold cR; rw [if_pos e]
   have hrd : (x.received p { v with v := 0 } 0).ready = x.ready ++ [v.g] := (jS (v := { v with v := 0 }) h0 hg).2
   obtain ⟨r1, r2, r3⟩ := tG hp l (x.received p { v with v := 0 } 0) hw (by rw [hrd]; simp only [List.length_append, List.length_cons, List.length_nil] at *; omega) (fun w Q6 => by
    obtain ⟨b0, b1, b2⟩ := ha w (List.mem_cons_of_mem _ Q6)
    refine ⟨b0, by rw [su]; exact b1, fun Q1 => ?_⟩
    by_cases ew : w.g = v.g
    ·rw [ew, (jS (v := { v with v := 0 }) h0 hg).1] at Q1; cases Q1
    ·rw [uo (v := { v with v := 0 }) h0 hg b0 ew] at Q1 ⊢
     rcases b2 Q1 with c | c
     ·exact .inl ⟨c.1, wQ.received.free c.2⟩
     ·exact .inr c)
   refine ⟨⟨h.sm hp je, h0, hg, fun _ => h.nj (v := { v with v := 0 }) hp JV ?_, by rw [es]; exact r1⟩, by rw [List.foldl_cons, es]; exact r2, by rw [List.foldl_cons, es]; exact hk.trans r3⟩
   rcases h2 e with b | b
   ·exact .inl b.1
   ·exact .inr b
  ·have es : cR p x v = x := by unfold cR; rw [if_neg e]
   obtain ⟨r1, r2, r3⟩ := tG hp l x h (by simp only [List.length_cons] at hr; omega) (fun w Q6 => ha w (List.mem_cons_of_mem _ Q6))
   exact ⟨⟨h.sm hp je, h0, hg, fun Q1 => absurd Q1 e, by rw [es]; exact r1⟩, by rw [List.foldl_cons, es]; exact r2, by rw [List.foldl_cons, es]; exact r3⟩
end
theorem EP {l : List bh} {i : Nat} (h : i < l.length) : lQ l i = l[i] := by
 unfold lQ; rw [List.getD_eq_getElem?_getD, List.getElem?_eq_getElem h]; rfl
theorem qD {l : List bh} {i j : Nat} (hi : i < l.length) (hj : j < l.length) : (dK l i j).Perm l := by
 unfold dK
 rw [EP hi, EP hj]
 exact List.set_set_perm hi hj
theorem wR : ∀ (f i : Nat) (l : List bh), i < l.length → (Gi f i l).Perm l
 | 0, _, l, _ => List.Perm.refl l
 | f + 1, i, l, h => by
  unfold Gi
  split
  ·exact (wR f _ _ (by rw [ef]; omega)).trans (qD h (by omega))
  ·exact List.Perm.refl l
theorem wS : ∀ (f i : Nat) (l : List bh), i < l.length → (mb f i l).Perm l
 | 0, _, l, _ => List.Perm.refl l
 | f + 1, i, l, h => by
  unfold mb
  split
  ·exact List.Perm.refl l
  ·have := (yM h).1
   exact (wS f _ _ (by rw [ef]; exact this)).trans (qD h this)
theorem wT {l : List bh} {x : bh} : (pN l x).Perm (l ++ [x]) := wR _ _ _ (by simp)
theorem zU {l : List bh} {i : Nat} (h : i < l.length) : l.Perm (lQ l i :: dk l i) := by
 have hn : l.length - 1 < l.length := by omega
 have h1 : (dK l i (l.length - 1)).Perm l := qD h hn
 have Jj : (dK l i (l.length - 1))[l.length - 1]? = some (lQ l i) := by
  unfold dK
  rw [List.getElem?_set_self (by rw [List.length_set]; exact hn)]
 have h2 : dK l i (l.length - 1) = (dK l i (l.length - 1)).take (l.length - 1) ++ [lQ l i] := by
  have e : dK l i (l.length - 1) = (dK l i (l.length - 1)).take (l.length - 1 + 1) := by
   rw [List.take_of_length_le (by rw [ef]; omega)]
  conv => lhs; rw [e]
  rw [List.take_add_one, Jj]
  rfl
 have h3 : l.Perm (lQ l i :: (dK l i (l.length - 1)).take (l.length - 1)) := by
  refine h1.symm.trans ?_
  rw [h2]
  have : (List.take (l.length - 1) (dK l i (l.length - 1)) ++ [lQ l i]).take (l.length - 1) = (dK l i (l.length - 1)).take (l.length - 1) := by rw [← h2]
  rw [this]
  exact List.perm_append_comm
 unfold dk
 split
 ·rename_i hlt
  have hlen : ((dK l i (l.length - 1)).take (l.length - 1)).length = l.length - 1 := by rw [List.length_take, ef]; omega
  refine h3.trans (List.Perm.cons _ ?_)
  exact ((wR _ _ _ (by rw [g8, hlen]; exact hlt)).trans (wS _ _ _ (by rw [hlen]; exact hlt))).symm
 ·exact h3
theorem wU : ∀ (f : Nat) (l : List bh) (now : Int), l.Perm ((cU f l now).2 ++ (cU f l now).1)
 | 0, l, _ => by simp [cU]
 | f + 1, l, now => by
  unfold cU
  split
  ·rename_i h
   refine (zU h.1).trans ?_
   dsimp only
   exact List.Perm.cons _ (wU f _ now)
  ·simp
def gr (g : Int) (x y : Wd) : Prop := y.ready.Nodup ∧ g ∉ y.ready ∧ (∀ q ∈ y.ready, 0 ≤ q ∧ q < y.gs.length ∧ ¬ At x q 1 ∧ (ae y q).st = 1) ∧
 (∀ q, 0 ≤ q → q ≠ g → q ∉ y.ready → ae y q = ae x q) ∧ x.gs.length ≤ y.gs.length ∧ ∀ q : Int, x.gs.length ≤ q → q < y.gs.length → q ∈ y.ready
section
variable {p : cf} {x y z : Wd} {g q k n : Int} {f : List cQ} {i : cQ} {v : Wt}
theorem gr.refl (hr : x.ready = []) : gr g x x := by
 refine ⟨by rw [hr]; exact List.nodup_nil, by rw [hr]; simp, fun q hq => ?_, fun _ _ _ _ => rfl, Nat.le_refl _, fun q a b => by omega⟩
 rw [hr] at hq; cases hq
theorem gr.of (h : Wk x y) (hr : x.ready = []) (hg : At x g 1) : gr g x y := by
 obtain ⟨a1, l, a2, a3, a4, a5⟩ := h
 rw [hr, List.nil_append] at a2
 rw [gr, a2]
 refine ⟨a3, fun hm => (a4 g hm).2.2.1 hg.2.2, fun q hq => ?_, fun q q0 _ hn => a5 q q0 hn, by omega, fun q b c => by omega⟩
 obtain ⟨b1, b2, b3, b4⟩ := a4 q hq
 exact ⟨b1, by omega, fun ha => b3 ha.2.2, b4⟩
theorem gr.GD (h : gr g x y) (h1 : z.ready = y.ready) (h2 : z.gs.length = y.gs.length) (h3 : ∀ q, 0 ≤ q → q ≠ g → ae z q = ae y q) : gr g x z := by
 obtain ⟨a1, a2, a3, a4, a5, a6⟩ := h
 rw [gr, h1, h2]
 refine ⟨a1, a2, fun q hq => ?_, fun q q0 hne hn => by rw [h3 q q0 hne]; exact a4 q q0 hne hn, a5, a6⟩
 have hne : q ≠ g := fun e => a2 (e ▸ hq)
 obtain ⟨b1, b2, b3, b4⟩ := a3 q hq
 exact ⟨b1, b2, b3, by rw [h3 q b1 hne]; exact b4⟩
theorem gr.pre (h : gr g y z) (h2 : y.gs.length = x.gs.length) (h3 : ∀ q, 0 ≤ q → q ≠ g → ae y q = ae x q) : gr g x z := by
 obtain ⟨a1, a2, a3, a4, a5, a6⟩ := h
 refine ⟨a1, a2, fun q hq => ?_, fun q q0 hne hn => by rw [a4 q q0 hne hn, h3 q q0 hne], by omega, fun q a b => a6 q (by omega) b⟩
 have hne : q ≠ g := fun e => a2 (e ▸ hq)
 obtain ⟨b1, b2, b3, b4⟩ := a3 q hq
 exact ⟨b1, b2, fun ha => b3 ⟨ha.1, by rw [h2]; exact ha.2.1, by rw [h3 q b1 hne]; exact ha.2.2⟩, b4⟩
theorem gr.bL (h : gr g x y) (h0 : 0 ≤ g) (hg : g < y.gs.length) : gr g x (y.aX g q n) := h.GD rfl bG fun m m0 hne => kO h0 hg m0 hne
theorem oK {w : dD} (h0 : 0 ≤ g) (hg : g < x.gs.length) {m : Int} (m0 : 0 ≤ m) (hne : m ≠ g) : ae (x.aY g w) m = ae x m := by
 rw [gf hg h0, if_neg (by omega)]
theorem gr.aY {w : dD} (h : gr g x y) (h0 : 0 ≤ g) (hg : g < y.gs.length) : gr g x (y.aY g w) := h.GD rfl (by simp [Wd.aY]) fun m m0 hne => oK h0 hg m0 hne
def fT (p : cf) (g : Int) (x : Wd) : Out Wd → Prop
 | .dy _ y => WV p y ∧ gr g x y
 | .on y => WV p y ∧ gr g x y
 | .cG _ _ => False
theorem fT.lt {r : Out Wd} (h : fT p g x r) (hg : At x g 1) : g < r.fin.gs.length := by
 cases r with
 | on y => have := h.2.2.2.2.2.1; have := hg.2.1; show g < y.gs.length; omega
 | dy n y => have := h.2.2.2.2.2.1; have := hg.2.1; show g < y.gs.length; omega
 | cG l y => exact h.elim
theorem kN.uL (h : kN x g) : bO x.az g = 0 ∧ fJ x.aP g = 0 ∧ zS x.hl g = 0 :=
 ⟨sq.2 h.1, uZ.2 h.2.1, List.count_eq_zero.2 fun hm => by
  obtain ⟨y, hy, e⟩ := List.mem_map.1 hm
  exact h.2.2 y hy e⟩
theorem At.free (hg : At x g 1) (h : WV p x) : kN x g := h.free (by rw [hg.2.2]; decide) (by rw [hg.2.2]; decide)
theorem Mc (h : WV p x) (hg : At x g 1) (hi : iG p f i) (h9 : i.op = 9) (hr : x.ready = []) : (aS x g ∧ bn i.b) ∧ fT p g x (x.call g i) := by
 obtain ⟨_, _, _, _, _, i9, _⟩ := hi
 obtain ⟨a0, a1, b1, c1⟩ := i9 (.inl h9)
 have hz := h.iC hg.1 hg.2.1
 refine ⟨⟨h.aS hg.1 hg.2.1, b1⟩, ?_⟩
 unfold Wd.call
 split
 ·exact ⟨h, gr.refl hr⟩
 ·rename_i hn
  refine ⟨h.aY hg.1 hg.2.1 ⟨by simp, by simp; omega, fun r hr => ?_, hz.wt, hz.st⟩ rfl rfl, (gr.refl hr).aY hg.1 hg.2.1⟩
  rcases List.mem_append.1 hr with hr | hr
  ·exact hz.fr r hr
  ·simp only [List.mem_singleton] at hr; subst hr
   exact ⟨a0, a1, Int.le_refl 0, (by show (0 : Int) ≤ 64; decide), c1⟩
theorem Md (h : WV p x) (hp : eV p) (hg : At x g 1) (hi : iG p f i) (h20 : i.op = 20) (hr : x.ready = []) : (aS x g ∧ bn i.a ∧ x.Sm) ∧ fT p g x (x.emit g i) := by
 obtain ⟨_, _, _, _, _, _, i10, _⟩ := hi
 refine ⟨⟨h.aS hg.1 hg.2.1, i10 (.inr (.inr (.inl h20))), h.sm hp (by rw [hr]; decide)⟩, ?_⟩
 unfold Wd.emit
 split
 ·exact ⟨h, gr.refl hr⟩
 ·rename_i hn
  exact ⟨h.congr rfl (fun _ => ⟨rfl, rfl⟩) h.BZ rfl rfl rfl (by simp; omega), (gr.refl hr).GD rfl rfl fun _ _ _ => rfl⟩
theorem Me (h : WV p x) (hg : At x g 1) (hi : iG p f i) (TZ : i.op = 10) (hr : x.ready = []) : (aS x g ∧ bn i.a ∧ bn (ae x g).top.eE) ∧ fT p g x (.on (x.back g i)) := by
 obtain ⟨_, _, _, _, _, _, i10, _⟩ := hi
 have hz := h.iC hg.1 hg.2.1
 refine ⟨⟨h.aS hg.1 hg.2.1, i10 (.inl TZ), hz.top.2.2.2.2⟩, ?_⟩
 have hf := hg.free h
 unfold Wd.back
 split
 ·rename_i h2
  refine ⟨h.aY hg.1 hg.2.1 ⟨by simp [dD.back]; omega, by have := hz.l2; simp [dD.back]; omega, fun r hr => ?_, hz.wt, hz.st⟩ rfl rfl, (gr.refl hr).aY hg.1 hg.2.1⟩
  rcases List.mem_or_eq_of_mem_set hr with hr | rfl
  ·exact hz.fr r (List.mem_of_mem_take hr)
  ·refine BY.set ?_ _ _
   rw [List.getD_eq_getElem?_getD, List.getElem?_eq_getElem (by omega), Option.getD_some]
   exact hz.fr _ (List.getElem_mem _)
 ·have hd : WV p (x.aY g { ae x g with st := 4 }) := h.EN hg.1 hg.2.1 hf (hz.JR (by decide) (by decide))
  have NB : gr g x (x.aY g { ae x g with st := 4 }) := (gr.refl hr).aY hg.1 hg.2.1
  split
  ·exact ⟨hd.congr rfl (fun _ => ⟨rfl, rfl⟩) hd.BZ rfl rfl rfl hd.out, NB.GD rfl rfl fun _ _ _ => rfl⟩
  ·exact ⟨hd, NB⟩
theorem Mf (h : WV p x) (hp : eV p) (hg : At x g 1) (hf : f ∈ p.funcs) (hi : iG p f i) (Tj : i.op = 13) (hr : x.ready = []) :
  ((aS x g ∧ bn i.b ∧ l9 p x i.a (aV x g i.b) ∧ si x g i (x.put p i.a (aV x g i.b))) ∧ x.Sm) ∧ fT p g x (x.send p g i) := by
 have hi' := hi
 obtain ⟨_, _, _, _, _, _, _, i13, JW, _⟩ := hi'
 obtain ⟨a0, a1⟩ := i13 (.inl Tj)
 have hk : r5 x i.a := ⟨a0, by rw [h.ch]; exact a1⟩
 obtain ⟨p1, p2⟩ := h.put (n := aV x g i.b) hp hk
 have JD := h.aS hg.1 hg.2.1
 have hs := h.sm hp (by rw [hr]; decide)
 have hfr := hg.free h
 obtain ⟨c, hc, ec⟩ := B5 hk
 have hm := List.mem_of_getElem? hc
 obtain ⟨s1, s2, s3⟩ := oa h hm
 unfold Wd.send
 generalize kJ : x.put p i.a (aV x g i.b) = r at p2
 match r, p2 with
 | .dy n y, p2 =>
  exact ⟨⟨⟨JD, JW (.inl Tj), p1, trivial⟩, hs⟩, p2.1, gr.of (Wk.same p2.2.1 p2.2.2) hr hg⟩
 | .on (y, true), p2 =>
  exact ⟨⟨⟨JD, JW (.inl Tj), p1, trivial⟩, hs⟩, p2.1, gr.of p2.2 hr hg⟩
 | .on (y, false), p2 =>
  have p3 : y = x := p2
  subst p3
  refine ⟨⟨⟨JD, JW (.inl Tj), p1, JD, rfl, hk, by rw [ec]; exact ⟨by omega, by omega, by omega⟩⟩, hs⟩, ?_, ?_⟩
  ·have hb := h.block hg hf hi
   have eg : ae (y.block g i) g = { ae y g with st := 2, wt := i } := fG hg.1 hg.2.1
   show WV p ((y.block g i).bT i.a { cO y.az i.a with snd := (cO y.az i.a).snd ++ [⟨g, 0, aV y g i.b⟩] })
   rw [ec]
   refine hb.more (c := c) (w := ⟨g, 0, aV y g i.b⟩) hc (h.buf c hm) (fun v hv => .inl hv) (fun v hv => ?_) (fun q => ?_) (fun _ => ?_) ?_
   ·rcases List.mem_append.1 hv with hv | hv
    ·exact .inl hv
    ·refine .inr ⟨by simpa using hv, ⟨hg.1, by simpa [Wd.block, Wd.aY] using hg.2.1, by rw [eg]⟩, .inl (by rw [eg]; exact Tj)⟩
   ·unfold cq
    simp only [List.map_append, List.map_cons, List.map_nil, List.count_append, List.count_cons, List.count_nil]
    by_cases e : q = g
    ·subst e; simp; omega
    ·rw [if_neg e]
     have : (g == q) = false := by simp; exact fun h => e h.symm
     simp [this]
   ·have := hfr.uL
    show bO y.az g + fJ y.aP g = 0
    omega
   ·have := hfr.uL
    show bO y.az g < 32
    omega
  ·exact (gr.refl hr).GD rfl (by simp [Wd.block, Wd.Et, Wd.aY, Wd.bT]) fun m m0 hne => by
    show ae (y.aY g _) m = _
    exact oK hg.1 hg.2.1 m0 hne
 | .cG l y, p2 => exact p2.elim
end
section
variable {p : cf} {x y z : Wd} {g q k n : Int} {f : List cQ} {i : cQ} {v : Wt}
theorem jn (l : List Int) (q g : Int) : (l ++ [g]).count q ≤ l.count q + (if q = g then 1 else 0) := by
 rw [List.count_append, List.count_cons, List.count_nil]
 by_cases e : q = g
 ·subst e; simp
 ·rw [if_neg e]
  have : (g == q) = false := by simp; exact fun h => e h.symm
  simp [this]
theorem Mg (h : WV p x) (hp : eV p) (hg : At x g 1) (hf : f ∈ p.funcs) (hi : iG p f i) (T9 : i.op = 14) (hr : x.ready = []) :
  (tq x g i ∧ x.Sm) ∧ fT p g x (.on (x.recv g i)) := by
 have hi' := hi
 obtain ⟨_, _, _, _, _, _, _, i13, JW, i14, _⟩ := hi'
 obtain ⟨a0, a1⟩ := i13 (.inr (.inl T9))
 have hk : r5 x i.a := ⟨a0, by rw [h.ch]; exact a1⟩
 obtain ⟨p1, p2, p3, p4⟩ := h.get hp hk
 have JD := h.aS hg.1 hg.2.1
 have hs := h.sm hp (by rw [hr]; decide)
 have hfr := hg.free h
 obtain ⟨c, hc, ec⟩ := B5 hk
 have hm := List.mem_of_getElem? hc
 obtain ⟨s1, s2, s3⟩ := oa h hm
 have ek := p3.keep hg.1 hg.2.2
 have el := p3.1
 refine ⟨⟨⟨JD, JW (.inr T9), i14 (.inl T9), p1, p2.aS hg.1 (by rw [el]; exact hg.2.1), by rw [ek], fun e => ?_⟩, hs⟩, ?_⟩
 ·rw [p4 e]
  exact ⟨hk, by rw [ec]; exact ⟨by omega, by omega, by omega⟩⟩
 ·unfold Wd.recv
  have NB : gr g x (x.get i.a).1 := gr.of p3 hr hg
  split
  ·have r1 := p2.aX (g := g) (q := i.b) (n := (x.get i.a).2.1) hg.1 (by rw [el]; exact hg.2.1)
   refine ⟨r1.aX hg.1 (by rw [bG, el]; exact hg.2.1), (NB.bL hg.1 (by rw [el]; exact hg.2.1)).bL hg.1 (by rw [bG, el]; exact hg.2.1)⟩
  ·rename_i e
   rw [p4 (by simpa using e)]
   have hb := h.block hg hf hi
   have eg : ae (x.block g i) g = { ae x g with st := 2, wt := i } := fG hg.1 hg.2.1
   refine ⟨?_, ?_⟩
   ·show WV p ((x.block g i).bT i.a { cO x.az i.a with dI := (cO x.az i.a).dI ++ [⟨g, 0, 0⟩] })
    rw [ec]
    refine hb.more (c := c) (w := ⟨g, 0, 0⟩) hc (h.buf c hm) (fun v hv => ?_) (fun v hv => .inl hv) (fun q => ?_) (fun _ => ?_) ?_
    ·rcases List.mem_append.1 hv with hv | hv
     ·exact .inl hv
     ·exact .inr ⟨by simpa using hv, ⟨hg.1, by simpa [Wd.block, Wd.aY] using hg.2.1, by rw [eg]⟩, .inl (by rw [eg]; exact T9)⟩
    ·unfold cq
     rw [List.map_append, ← List.append_assoc]
     exact jn _ _ _
    ·have := hfr.uL
     show bO x.az g + fJ x.aP g = 0
     omega
    ·have := hfr.uL
     show bO x.az g < 32
     omega
   ·exact (gr.refl hr).GD rfl (by simp [Wd.block, Wd.Eu, Wd.aY, Wd.bT]) fun m m0 hne => by
     show ae (x.aY g _) m = _
     exact oK hg.1 hg.2.1 m0 hne
theorem Mh (h : WV p x) (hp : eV p) (hg : At x g 1) (hi : iG p f i) (h15 : i.op = 15) (hr : x.ready = []) :
  (lO p x i ∧ x.Sm) ∧ fT p g x (x.shut p i) := by
 have hi' := hi
 obtain ⟨_, _, _, _, _, _, _, i13, _⟩ := hi'
 obtain ⟨a0, a1⟩ := i13 (.inr (.inr h15))
 have hk : r5 x i.a := ⟨a0, by rw [h.ch]; exact a1⟩
 have hs := h.sm hp (by rw [hr]; decide)
 obtain ⟨c, hc, ec⟩ := B5 hk
 have hm := List.mem_of_getElem? hc
 obtain ⟨s1, s2, s3⟩ := oa h hm
 have hb := h.buf c hm
 have hrc := h.dI c hm
 unfold lO Wd.shut
 rw [ec]
 obtain ⟨room, buf, snd, dI, closed⟩ := c
 cases closed with
 | true =>
  refine ⟨⟨⟨hk, by dsimp only at *; omega, fun e => by simp [aK.close] at e⟩, hs⟩, ?_⟩
  simp only [aK.close, if_true]
  rw [lU hc]
  exact ⟨h, gr.refl hr⟩
 | false =>
  have PW : WV p (x.bT i.a ⟨room, buf, [], [], true⟩) := h.less hc hb (fun v hv => by cases hv) (fun v hv => by cases hv) (fun q => by simp [cq])
  have JX := tG hp dI (x.bT i.a ⟨room, buf, [], [], true⟩) PW (by show x.ready.length + dI.length ≤ 1000000; rw [hr]; dsimp only [List.length_nil] at *; omega) (fun v hv => by
   obtain ⟨a, b⟩ := hrc v hv
   refine ⟨a.1, a.2.1, fun _ => ?_⟩
   rcases b with b | b
   ·refine .inl ⟨b, zT h hc a.1 a.2.2 (by rw [b]; decide) ?_⟩
    have : 0 < List.count v.g (cq ⟨room, buf, snd, dI, false⟩) := List.count_pos_iff.2 (List.mem_append_right _ (List.mem_map.2 ⟨v, hv, rfl⟩))
    show List.count v.g (cq ⟨room, buf, [], [], true⟩) + 1 ≤ _
    simp only [cq, List.map_nil, List.append_nil, List.count_nil] at *
    omega
   ·exact .inr b)
  refine ⟨⟨⟨hk, by dsimp only at *; omega, fun _ _ => ?_⟩, hs⟩, ?_⟩
  ·simp only [aK.close, Bool.false_eq_true, if_false]
   exact JX.1
  ·simp only [aK.close, Bool.false_eq_true, if_false]
   rw [if_neg (by decide)]
   split
   ·exact ⟨PW, (gr.refl hr).GD rfl rfl fun _ _ _ => rfl⟩
   ·exact ⟨JX.2.1, gr.of (Wk.bT.trans JX.2.2) hr hg⟩
theorem JY (h : WV p x) (hp : eV p) (hg : At x g 1) (hi : iG p f i) (h17 : i.op = 17) (hr : x.ready = []) :
  (aS x g ∧ bn i.a ∧ x.hl.length < 1000000) ∧ fT p g x (.on (x.sleep g i)) := by
 obtain ⟨_, _, _, _, _, _, i10, _⟩ := hi
 refine ⟨⟨h.aS hg.1 hg.2.1, i10 (.inr (.inl h17)), by have := h.EM; omega⟩, ?_⟩
 unfold Wd.sleep
 split
 ·have hf := hg.free h
  have hz := h.iC hg.1 hg.2.1
  have h1 := h.EN hg.1 hg.2.1 hf (hz.JR (s := 3) (by decide) (by decide))
  have NB : gr g x (x.aY g { ae x g with st := 3 }) := (gr.refl hr).aY hg.1 hg.2.1
  refine ⟨⟨h1.n1, h1.n2, h1.BZ, h1.ch, h1.lk, h1.buf, h1.dI, h1.snd, h1.lw, fun w hw => ?_, h1.one, h1.zK, fun q => ?_, h1.out⟩, NB.GD rfl rfl fun _ _ _ => rfl⟩
  ·have CX := wT.mem_iff.1 hw
   rcases List.mem_append.1 CX with CX | CX
   ·exact h1.hl w CX
   ·simp only [List.mem_singleton] at CX; subst CX
    refine ⟨hg.1, by simpa [Wd.aY] using hg.2.1, ?_⟩
    show (ae (x.aY g { ae x g with st := 3 }) g).st = 3
    rw [fG hg.1 hg.2.1]
  ·show zS (pN x.hl _) q ≤ 1
   unfold zS
   rw [(wT.map bh.id).count_eq, List.map_append, List.map_cons, List.map_nil]
   have a := jn (x.hl.map bh.id) q g
   have b := h.h1 q
   unfold zS at b
   by_cases e : q = g
   ·subst e
    have := hf.uL.2.2
    unfold zS at this
    rw [if_pos rfl] at a
    dsimp only at *
    omega
   ·rw [if_neg e] at a
    dsimp only at *
    omega
 ·exact ⟨h, gr.refl hr⟩
theorem NC (hk : zQ x k) : ∃ c, x.aP[k.toNat]? = some c ∧ mI x k = c := by
 obtain ⟨k0, k1⟩ := hk
 obtain ⟨c, hc⟩ := aN (l := x.aP) (i := k.toNat) (by omega)
 exact ⟨c, hc, by simp [mI, hc]⟩
theorem WV.DW (h : WV p x) {c c' : Lk} (hc : x.aP[k.toNat]? = some c) (hr : ∀ v ∈ c'.waits, v ∈ c.waits) (hn : ∀ q, c'.waits.count q ≤ c.waits.count q) : WV p (x.fz k c') := by
 have hm : c ∈ x.aP := List.mem_of_getElem? hc
 refine ⟨h.n1, h.n2, h.BZ, h.ch, by simpa [Wd.fz] using h.lk, h.buf, h.dI, h.snd, fun d hd v hv => ?_, h.hl, fun q q0 hq => ?_, h.zK, h.h1, h.out⟩
 ·rcases hU hd with hd | rfl
  ·exact h.lw d hd v hv
  ·exact h.lw c hm v (hr v hv)
 ·have a := h.one q q0 hq
  have b := jR (fun l : Lk => l.waits.count q) x.aP k.toNat c' c hc
  have := hn q
  show bO x.az q + fJ (x.aP.set k.toNat c') q ≤ 1
  unfold fJ at *
  omega
theorem Mi (h : WV p x) (hp : eV p) (hg : At x g 1) (hf : f ∈ p.funcs) (hi : iG p f i) (NA : i.op = 18) (hr : x.ready = []) :
  (aS x g ∧ zQ x i.a ∧ x.Sm) ∧ fT p g x (.on (x.lock g i)) := by
 have hi' := hi
 obtain ⟨_, _, _, _, _, _, _, _, _, _, _, i18, _⟩ := hi'
 obtain ⟨a0, a1⟩ := i18 (.inl NA)
 have hk : zQ x i.a := ⟨a0, by rw [h.lk]; exact a1⟩
 refine ⟨⟨h.aS hg.1 hg.2.1, hk, h.sm hp (by rw [hr]; decide)⟩, ?_⟩
 obtain ⟨c, hc, ec⟩ := NC hk
 have hm := List.mem_of_getElem? hc
 have hfr := hg.free h
 unfold Wd.lock
 rw [ec]
 unfold Lk.take
 split
 ·dsimp only
  rw [if_pos rfl]
  exact ⟨h.DW hc (fun v hv => hv) (fun q => Nat.le_refl _), (gr.refl hr).GD rfl rfl fun _ _ _ => rfl⟩
 ·dsimp only
  rw [if_neg (by decide)]
  have hb := h.block hg hf hi
  have eg : ae (x.block g i) g = { ae x g with st := 2, wt := i } := fG hg.1 hg.2.1
  refine ⟨?_, ?_⟩
  ·show WV p ((x.block g i).fz i.a ⟨c.owner, c.waits ++ [g]⟩)
   refine ⟨hb.n1, hb.n2, hb.BZ, hb.ch, by simpa [Wd.fz] using hb.lk, hb.buf, hb.dI, hb.snd, fun d hd v hv => ?_, hb.hl, fun q q0 hq => ?_, hb.zK, hb.h1, hb.out⟩
   ·rcases hU hd with hd | rfl
    ·exact hb.lw d hd v hv
    ·rcases List.mem_append.1 hv with hv | hv
     ·exact hb.lw c hm v hv
     ·simp only [List.mem_singleton] at hv; subst hv
      exact ⟨⟨hg.1, by simpa [Wd.fz, Wd.block, Wd.aY] using hg.2.1, by show (ae (x.block v i) v).st = 2; rw [eg]⟩, by show (ae (x.block v i) v).wt.op = 18; rw [eg]; exact NA⟩
   ·have a := hb.one q q0 hq
    have b := jR (fun l : Lk => l.waits.count q) x.aP i.a.toNat ⟨c.owner, c.waits ++ [g]⟩ c hc
    have d := jn c.waits q g
    show bO x.az q + fJ (x.aP.set i.a.toNat _) q ≤ 1
    have a' : bO x.az q + fJ x.aP q ≤ 1 := a
    by_cases e : q = g
    ·subst e
     have := hfr.uL
     rw [if_pos rfl] at d
     unfold fJ at *
     dsimp only at *
     omega
    ·rw [if_neg e] at d
     unfold fJ at *
     dsimp only at *
     omega
  ·exact (gr.refl hr).GD rfl (by simp [Wd.block, Wd.fz, Wd.aY]) fun m m0 hne => by
    show ae (x.aY g _) m = _
    exact oK hg.1 hg.2.1 m0 hne
theorem GF (h : WV p x) (hp : eV p) (hg : At x g 1) (hi : iG p f i) (h19 : i.op = 19) (hr : x.ready = []) :
  (kG x g i ∧ x.Sm) ∧ fT p g x (x.unlock g i) := by
 have hi' := hi
 obtain ⟨_, _, _, _, _, _, _, _, _, _, _, i18, _⟩ := hi'
 obtain ⟨a0, a1⟩ := i18 (.inr h19)
 have hk : zQ x i.a := ⟨a0, by rw [h.lk]; exact a1⟩
 have hs := h.sm hp (by rw [hr]; decide)
 obtain ⟨c, hc, ec⟩ := NC hk
 have hm := List.mem_of_getElem? hc
 have hw := h.lw c hm
 unfold kG Wd.unlock
 rw [ec]
 unfold Lk.pH
 split
 ·refine ⟨⟨⟨hk, fun e => absurd rfl e⟩, hs⟩, ?_⟩
  dsimp only
  rw [if_pos (by decide)]
  have e : x.fz i.a c = x := by unfold Wd.fz; rw [dW _ _ _ hc]
  rw [e]
  exact ⟨h, gr.refl hr⟩
 ·obtain ⟨o, ws⟩ := c
  cases ws with
  | nil =>
   refine ⟨⟨⟨hk, fun e => absurd rfl e⟩, hs⟩, ?_⟩
   split
   ·rename_i e; exact absurd rfl e
   ·split
    ·rename_i e; exact absurd rfl e
    ·exact ⟨h.DW (c' := ⟨-1, []⟩) hc (fun v hv => by cases hv) (fun q => by simp), (gr.refl hr).GD rfl rfl fun _ _ _ => rfl⟩
  | cons w ws =>
   obtain ⟨a, b⟩ := hw w (by simp)
   refine ⟨⟨⟨hk, fun _ => ⟨a.1, a.2.1⟩⟩, hs⟩, ?_⟩
   have hne : w ≠ -1 := by have := a.1; omega
   have hl : WV p (x.fz i.a ⟨w, ws⟩) := h.DW hc (fun v hv => List.mem_cons_of_mem _ hv) (fun q => by simp only [List.count_cons]; omega)
   have hfr : kN (x.fz i.a ⟨w, ws⟩) w := by
    have o1 := h.one w a.1 (by rw [b]; decide)
    have s := jR (fun l : Lk => l.waits.count w) x.aP i.a.toNat ⟨w, ws⟩ ⟨o, w :: ws⟩ hc
    simp only [List.count_cons, beq_self_eq_true, if_true] at s
    have e1 : fJ (x.aP.set i.a.toNat ⟨w, ws⟩) w = 0 := by unfold fJ at *; omega
    have e2 : bO x.az w = 0 := by
     have := wN (fun l : Lk => l.waits.count w) x.aP ⟨o, w :: ws⟩ hm
     simp only [List.count_cons, beq_self_eq_true, if_true] at this
     unfold fJ at *; omega
    refine ⟨sq.1 e2, uZ.1 e1, fun y hy e => ?_⟩
    have := (h.hl y hy).2.2
    rw [e, a.2.2] at this
    cases this
   have hres : fT p g x (.on ((x.fz i.a ⟨w, ws⟩).dN w)) := ⟨hl.dN a.1 a.2.1 hfr, gr.of (Wk.trans (Wk.same rfl rfl) (Wk.dN (x := x.fz i.a ⟨w, ws⟩) a.1 a.2.1 (by show (ae x w).st ≠ 1; rw [a.2.2]; decide))) hr hg⟩
   split
   ·rename_i e; exact absurd rfl e
   ·split
    ·exact hres
    ·rename_i e; exact absurd hne e
end
section
variable {p : cf} {x y z : Wd} {g q k n : Int} {f : List cQ} {i : cQ} {v : Wt}
theorem iW {w : dD} (h0 : 0 ≤ q) (hq : q < x.gs.length) : ae { x with gs := x.gs ++ [w] } q = ae x q := by
 unfold ae
 dsimp only
 rw [List.getD_eq_getElem?_getD, List.getD_eq_getElem?_getD, List.getElem?_append_left (by omega)]
theorem yX {w : dD} : ae { x with gs := x.gs ++ [w] } (x.gs.length : Int) = w := by
 unfold ae
 dsimp only
 rw [Int.toNat_natCast, List.getD_eq_getElem?_getD, List.getElem?_append_right (Nat.le_refl _)]
 simp
theorem WV.spawn (h : WV p x) (hn : x.gs.length < 100) {w : dD} (hw : mK p w) : WV p { x with gs := x.gs ++ [w] } := by
 have at_ : ∀ q s, At x q s → At { x with gs := x.gs ++ [w] } q s := fun q s ha => ⟨ha.1, by have := ha.2.1; simp; omega, by rw [iW ha.1 ha.2.1]; exact ha.2.2⟩
 refine ⟨by simp, by simp; omega, fun z hz => ?_, h.ch, h.lk, h.buf, fun c hc v hv => ?_, fun c hc v hv => ?_, fun l hl q hq => ?_, fun z hz => at_ _ _ (h.hl z hz), fun q q0 hq => ?_, h.zK, h.h1, h.out⟩
 ·rcases List.mem_append.1 hz with hz | hz
  ·exact h.BZ z hz
  ·simp only [List.mem_singleton] at hz; subst hz; exact hw
 ·obtain ⟨a, b⟩ := h.dI c hc v hv
  rw [iW a.1 a.2.1]
  exact ⟨at_ _ _ a, b⟩
 ·obtain ⟨a, b⟩ := h.snd c hc v hv
  rw [iW a.1 a.2.1]
  exact ⟨at_ _ _ a, b⟩
 ·obtain ⟨a, b⟩ := h.lw l hl q hq
  rw [iW a.1 a.2.1]
  exact ⟨at_ _ _ a, b⟩
 ·by_cases hlt : q < x.gs.length
  ·rw [iW q0 hlt] at hq
   exact h.one q q0 hq
  ·refine h.one q q0 ?_
   unfold ae
   rw [List.getD_eq_getElem?_getD, List.getElem?_eq_none (by omega)]
   decide
theorem JZ {w : dD} : Wd.dN { x with gs := x.gs ++ [{ w with st := 0 }] } (x.gs.length : Int) = { x with gs := x.gs ++ [{ w with st := 1 }], ready := x.ready ++ [(x.gs.length : Int)] } := by
 unfold Wd.dN Wd.aY
 rw [yX]
 simp [List.set_append_right]
theorem J0 (h : WV p x) (hp : eV p) (hg : At x g 1) (hi : iG p f i) (h11 : i.op = 11) (hr : x.ready = []) : (aS x g ∧ bn i.b ∧ bn i.c ∧ x.Sm) ∧ fT p g x (x.spawn g i) := by
 obtain ⟨_, _, _, _, _, i9, _⟩ := hi
 obtain ⟨a0, a1, b1, c1⟩ := i9 (.inr h11)
 refine ⟨⟨h.aS hg.1 hg.2.1, b1, c1, h.sm hp (by rw [hr]; decide)⟩, ?_⟩
 unfold Wd.spawn
 split
 ·exact ⟨h, gr.refl hr⟩
 ·rename_i hn
  rw [JZ (w := ⟨0, [e7.begin i.a (aV x g i.b)], .zero⟩)]
  have hw : mK p ⟨1, [e7.begin i.a (aV x g i.b)], .zero⟩ := ⟨by simp, by simp, fun r hr => by
   simp only [List.mem_singleton] at hr; subst hr
   exact ⟨a0, a1, Int.le_refl 0, (by show (0 : Int) ≤ 64; decide), by show bn 0; decide⟩, (fun e => by cases e), by show (1 : Int) ≤ 1 ∧ (1 : Int) ≤ 4; decide⟩
  have h1 := (h.spawn (by omega) hw).ready (r := x.ready ++ [(x.gs.length : Int)])
  have hlen : g < (x.gs ++ [(⟨1, [e7.begin i.a (aV x g i.b)], .zero⟩ : dD)]).length := by have := hg.2.1; simp; omega
  refine ⟨h1.aX hg.1 hlen, ?_⟩
  have NB : gr g x { x with gs := x.gs ++ [⟨1, [e7.begin i.a (aV x g i.b)], .zero⟩], ready := x.ready ++ [(x.gs.length : Int)] } := by
   rw [gr, hr]
   simp only [List.nil_append, List.length_append, List.length_cons, List.length_nil]
   refine ⟨by simp, by have := hg.2.1; simp; omega, fun q hq => ?_, fun q q0 _ hn => ?_, by omega, fun q a b => by simp; omega⟩
   ·simp only [List.mem_singleton] at hq; subst hq
    exact ⟨by omega, by omega, fun ha => by have := ha.2.1; omega, by show (ae { x with gs := x.gs ++ [_] } _).st = 1; rw [yX]⟩
   ·show ae { x with gs := x.gs ++ [_] } q = ae x q
    by_cases hlt : q < x.gs.length
    ·exact iW q0 hlt
    ·simp only [List.mem_singleton] at hn
     unfold ae
     dsimp only
     rw [List.getD_eq_getElem?_getD, List.getD_eq_getElem?_getD, List.getElem?_eq_none (by simp; omega), List.getElem?_eq_none (by omega)]
  exact NB.bL hg.1 hlen
theorem ER (h : WV p x) (hg : At x g 2) (qv : (ae x g).wt.op = 16) (hf : kN x g) {eD : List Int} {cases : List oz} (hc : ∀ c ∈ cases, c.Ok x.az.length) (hb : (cases.length : Int) ≤ (ae x g).wt.b) (ZF : cases.length ≤ 32) :
  ∀ j, j ≤ cases.length → WV p { x with az := de g eD cases x.az j } ∧ bO (de g eD cases x.az j) g ≤ j
 | 0, _ => ⟨h, by show bO x.az g ≤ 0; have := hf.uL; omega⟩
 | j + 1, hj => by
  obtain ⟨ih, ic⟩ := ER h hg qv hf (eD := eD) hc hb ZF j (by omega)
  obtain ⟨c, zY⟩ := aN (l := cases) (i := j) (by omega)
  have ok := hc c (List.mem_of_getElem? zY)
  unfold de
  rw [zY]
  dsimp only
  unfold iL
  generalize hcs : de g eD cases x.az j = cs at ih ic
  have hlen : cs.length = x.az.length := by
   have a := ih.ch
   have b := h.ch
   dsimp only at a
   omega
  have key : ∀ d : aK, (c.way = 0 ∨ c.way = 1) → cO cs c.ch = d → ∀ d' : aK, d'.buf = d.buf → d'.room = d.room →
    ((∀ v ∈ d'.dI, v ∈ d.dI ∨ v = ⟨g, j, 0⟩) ∧ d'.snd = d.snd ∨ (∀ v ∈ d'.snd, v ∈ d.snd ∨ v = ⟨g, j, eD.getD c.bL.toNat 0⟩) ∧ d'.dI = d.dI) →
    (∀ q, (cq d').count q ≤ (cq d).count q + (if q = g then 1 else 0)) →
    WV p { x with az := cs.set c.ch.toNat d' } ∧ bO (cs.set c.ch.toNat d') g ≤ j + 1 := by
   intro d Qf hd d' e1 e2 e3 hn
   obtain ⟨k0, k1, _⟩ := ok.2.2 (by rcases Qf with e | e <;> rw [e] <;> decide)
   obtain ⟨d2, QY⟩ := aN (l := cs) (i := c.ch.toNat) (by omega)
   have : d2 = d := by rw [← hd]; simp [cO, QY]
   subst this
   have hm : d2 ∈ cs := List.mem_of_getElem? QY
   have Tk := ih.buf d2 hm
   refine ⟨?_, ?_⟩
   ·rcases e3 with ⟨e3, e4⟩ | ⟨e3, e4⟩
    ·exact ih.more (k := c.ch) (w := ⟨g, j, 0⟩) QY (by rw [e1, e2]; exact Tk) (fun v hv => by
      rcases e3 v hv with e | e
      ·exact .inl e
      ·exact .inr ⟨e, hg, .inr ⟨qv, by dsimp only; omega, by dsimp only; show (j : Int) < (ae x g).wt.b; omega⟩⟩) (fun v hv => .inl (by rw [← e4]; exact hv)) hn (fun e => absurd qv e) (by show bO cs g < 32; omega)
    ·exact ih.more (k := c.ch) (w := ⟨g, j, eD.getD c.bL.toNat 0⟩) QY (by rw [e1, e2]; exact Tk) (fun v hv => .inl (by rw [← e4]; exact hv)) (fun v hv => by
      rcases e3 v hv with e | e
      ·exact .inl e
      ·exact .inr ⟨e, hg, .inr ⟨qv, by dsimp only; omega, by dsimp only; show (j : Int) < (ae x g).wt.b; omega⟩⟩) hn (fun e => absurd qv e) (by show bO cs g < 32; omega)
   ·have a := jR (fun c : aK => (cq c).count g) cs c.ch.toNat d' d2 QY
    have b := hn g
    rw [if_pos rfl] at b
    unfold bO at *
    omega
  split
  ·rename_i hw
   refine key _ (.inl hw) rfl _ rfl rfl (.inl ⟨fun v hv => ?_, rfl⟩) (fun q => ?_)
   ·rcases List.mem_append.1 hv with hv | hv
    ·exact .inl hv
    ·exact .inr (by simpa using hv)
   ·unfold cq
    rw [List.map_append, ← List.append_assoc]
    exact jn _ _ _
  ·split
   ·rename_i hw
    refine key _ (.inr hw) rfl _ rfl rfl (.inr ⟨fun v hv => ?_, rfl⟩) (fun q => ?_)
    ·rcases List.mem_append.1 hv with hv | hv
     ·exact .inl hv
     ·exact .inr (by simpa using hv)
    ·unfold cq
     have := jn ((cO cs c.ch).snd.map Wt.g) q g
     simp only [List.map_append, List.map_cons, List.map_nil, List.count_append] at *
     omega
   ·exact ⟨ih, by omega⟩
end
section
variable {p : cf} {x y z : Wd} {g q k n : Int} {f : List cQ} {i : cQ} {v : Wt} {d : gU}
theorem mK.Mj {w : dD} (h : mK p w) (ug : w.top.pc + 1 ≤ 64) : mK p (w.bS w.top.next) :=
 h.bS ⟨h.top.1, h.top.2.1, by have := h.top.2.2.1; show 0 ≤ w.top.pc + 1; omega, ug, h.top.2.2.2.2⟩
theorem WV.next (h : WV p x) (hg : At x g 1) (ug : (ae x g).top.pc + 1 ≤ 64) : WV p (x.next g) ∧ At (x.next g) g 1 ∧ (x.next g).gs.length = x.gs.length ∧ (∀ q, 0 ≤ q → q ≠ g → ae (x.next g) q = ae x q) ∧ (ae (x.next g) g).fs.length = (ae x g).fs.length := by
 have hz := (h.iC hg.1 hg.2.1).Mj ug
 have e : ae (x.next g) g = (ae x g).bS (ae x g).top.next := fG hg.1 hg.2.1
 refine ⟨h.aY hg.1 hg.2.1 hz rfl rfl, ⟨hg.1, by simpa [Wd.next, Wd.aY] using hg.2.1, by rw [e]; exact hg.2.2⟩, by simp [Wd.next, Wd.aY], fun q q0 hne => oK hg.1 hg.2.1 q0 hne, by rw [e]; simp [dD.bS]⟩
theorem yY {c : oz} (h : c ∈ ay p i) : c ∈ p.cases := List.mem_of_mem_drop (List.mem_of_mem_take h)
theorem B6 {cases : List oz} {cs : List aK} (h : k ∈ enabled cases cs) : ∃ (j : Nat) (c : oz), k = (j : Int) ∧ j < cases.length ∧ cases[j]? = some c ∧ can cs c = true := by
 unfold enabled zp at h
 obtain ⟨j, hj, rfl⟩ := List.mem_map.1 h
 obtain ⟨h1, h2⟩ := List.mem_filter.1 hj
 rw [List.mem_range] at h1
 obtain ⟨c, hc⟩ := aN (l := cases) (i := j) (by omega)
 unfold Ik at h2
 rw [hc] at h2
 exact ⟨j, c, rfl, h1, hc, h2⟩
theorem GG (h : WV p x) (hp : eV p) (hg : At x g 1) (hf : f ∈ p.funcs) (hi : iG p f i) (qv : i.op = 16) (hr : x.ready = []) (ug : (ae x g).top.pc + 1 ≤ 64)
  (hd : ∀ v, d = .num v → enabled (ay p i) x.az ≠ [] → 0 ≤ v ∧ v < (enabled (ay p i) x.az).length) :
  kH p x g i d = true ∧ (fT p g x (x.choose p g i d) ∨ ∃ l, d = .cG l ∧ x.choose p g i d = .cG l x) := by
 have hi' := hi
 obtain ⟨_, _, _, _, _, _, _, _, _, i14, i16, _⟩ := hi'
 have hc := i14 (.inr qv)
 obtain ⟨a0, b1, ab⟩ := i16 qv
 have hcs := hp.cs
 have JD := h.aS hg.1 hg.2.1
 have hs := h.sm hp (by rw [hr]; decide)
 obtain ⟨n1, n2, n3, n4, n5⟩ := h.next hg ug
 have LI := (h.iC hg.1 hg.2.1).top.2.2.1
 have PW : (ay p i).length = i.b.toNat := by
  unfold ay
  rw [List.length_take, List.length_drop]; omega
 have Qg : ∀ c ∈ ay p i, c.Ok x.az.length := fun c hc => by rw [h.ch]; exact (hp.YE c (yY hc)).1
 have hne1 : (x.next g).az = x.az := rfl
 have ND : ∀ k, k ∈ enabled (ay p i) x.az → wm p x g i k ∧ fT p g x (x.nK p g i k) := by
  intro k hk
  obtain ⟨j, c, rfl, hj, zY, hcan⟩ := B6 hk
  have hm : c ∈ ay p i := List.mem_of_getElem? zY
  have Ua := (hp.YE c (yY hm)).2
  have hok := Qg c hm
  have ec : (ay p i).getD (j : Int).toNat ⟨0, 0, 0⟩ = c := by rw [Int.toNat_natCast, List.getD_eq_getElem?_getD, zY]; rfl
  have Qf : c.way = 0 ∨ c.way = 1 := by
   unfold can at hcan
   split at hcan
   ·rename_i e; exact .inl e
   ·split at hcan
    ·rename_i e; exact .inr e
    ·cases hcan
  obtain ⟨k0, k1, _⟩ := hok.2.2 (by rcases Qf with e | e <;> rw [e] <;> decide)
  have ZG : r5 (x.next g) c.ch := ⟨k0, k1⟩
  unfold wm Wd.nK
  rw [ec]
  dsimp only
  by_cases hw : c.way = 1
  ·rw [if_pos hw, if_pos hw]
   obtain ⟨p1, p2⟩ := n1.put (n := aV (x.next g) g c.bL) hp ZG
   generalize (x.next g).put p c.ch (aV (x.next g) g c.bL) = r at p2
   match r, p2 with
   | .dy n y, p2 => exact ⟨⟨by omega, by omega, Ua, p1, trivial⟩, p2.1, (gr.of (Wk.same p2.2.1 p2.2.2) hr n2).pre n3 n4⟩
   | .on (y, true), p2 =>
    have ek := p2.2.keep hg.1 n2.2.2
    have el : g < y.gs.length := by rw [p2.2.1, n3]; exact hg.2.1
    exact ⟨⟨by omega, by omega, Ua, p1, p2.1.aS hg.1 el, by rw [ek, n5]⟩, p2.1.aX hg.1 el, ((gr.of p2.2 hr n2).pre n3 n4).bL hg.1 el⟩
   | .on (y, false), p2 =>
    have p3 : y = x.next g := p2
    subst p3
    have el : g < (x.next g).gs.length := by rw [n3]; exact hg.2.1
    exact ⟨⟨by omega, by omega, Ua, p1, n1.aS hg.1 el, n5⟩, n1.aX hg.1 el, ((gr.refl (x := x.next g) hr).pre n3 n4).bL hg.1 el⟩
   | .cG l y, p2 => exact p2.elim
  ·rw [if_neg hw, if_neg hw]
   obtain ⟨p1, p2, p3, _⟩ := n1.get hp ZG
   have ek := p3.keep hg.1 n2.2.2
   have el : g < ((x.next g).get c.ch).1.gs.length := by rw [p3.1, n3]; exact hg.2.1
   have r1 := p2.aX (g := g) (q := c.bL) (n := ((x.next g).get c.ch).2.1) hg.1 el
   exact ⟨⟨by omega, by omega, Ua, p1, p2.aS hg.1 el, by rw [ek, n5]⟩, r1.aX hg.1 (by rw [bG]; exact el), (((gr.of p3 hr n2).pre n3 n4).bL hg.1 el).bL hg.1 (by rw [bG]; exact el)⟩
 refine ⟨?_, ?_⟩
 ·unfold kH
  rw [Bool.and_eq_true]
  refine ⟨decide_eq_true ⟨JD, ⟨a0, by omega, ab, by omega⟩, hc, hs, by omega, LI, Qg⟩, ?_⟩
  cases d with
  | cG l => rfl
  | num v =>
   dsimp only
   cases he : enabled (ay p i) x.az with
   | nil => rfl
   | cons q t =>
    rw [List.isEmpty_cons, Bool.false_or]
    obtain ⟨v0, v1⟩ := hd v rfl (by rw [he]; simp)
    rw [he] at v1
    refine decide_eq_true ⟨v0, v1, (ND _ ?_).1⟩
    rw [he, List.getD_eq_getElem?_getD, List.getElem?_eq_getElem (by omega), Option.getD_some]
    exact List.getElem_mem _
 ·unfold Wd.choose
  split
  ·refine .inl ?_
   unfold Wd.qx
   dsimp only
   split
   ·exact ⟨n1.aX hg.1 (by rw [n3]; exact hg.2.1), ((gr.refl (x := x.next g) hr).pre n3 n4).bL hg.1 (by rw [n3]; exact hg.2.1)⟩
   ·have hb := n1.block n2 hf hi
    have eg : ae ((x.next g).block g i) g = { ae (x.next g) g with st := 2, wt := i } := fG hg.1 (by rw [n3]; exact hg.2.1)
    have hfr := n2.free n1
    have hw := (ER (x := (x.next g).block g i) hb ⟨hg.1, by simpa [Wd.block, Wd.aY, n3] using hg.2.1, by rw [eg]⟩ (by rw [eg]; exact qv) hfr (eD := r9 (ae (x.next g) g).top) (cases := ay p i) Qg (by rw [eg, PW]; show ((i.b.toNat : Nat) : Int) ≤ i.b; omega) (by omega) (ay p i).length (Nat.le_refl _)).1
    refine ⟨hw, ((gr.refl (x := x.next g) hr).pre n3 n4).GD rfl (by simp [Wd.block, Wd.aY]) fun m m0 hne => ?_⟩
    show ae ((x.next g).aY g _) m = _
    exact oK hg.1 (by rw [n3]; exact hg.2.1) m0 hne
  ·rename_i hne
   cases d with
   | num v =>
    refine .inl (ND _ ?_).2
    obtain ⟨v0, v1⟩ := hd v rfl hne
    rw [List.getD_eq_getElem?_getD, List.getElem?_eq_getElem (by omega), Option.getD_some]
    exact List.getElem_mem _
   | cG l => exact .inr ⟨l, rfl, rfl⟩
theorem B7 (h : WV p x) (hp : eV p) (h0 : 0 ≤ g) (hd : ∀ v kd n, d = .num v → asks p { x with ready := [] } g = some (kd, n) → 0 ≤ v ∧ v < n) :
  ∃ r rest, jO p x g d = some (r, rest) ∧ (fT p g { x with ready := [] } r ∧ (me { x with ready := [] } g ∨ r = .on { x with ready := [] } ∧ rest = true) ∨ ∃ l, d = .cG l ∧ r = .cG l { x with ready := [] } ∧ rest = false ∧ me { x with ready := [] } g ∧ asks p { x with ready := [] } g ≠ none) := by
 have h := h.ready (r := [])
 generalize hx : ({ x with ready := [] } : Wd) = x' at h hd
 have hr : x'.ready = [] := by rw [← hx]
 unfold jO
 rw [hx]
 dsimp only
 split
 ·rename_i J1
  have hg : At x' g 1 := ⟨J1.1, J1.2.1, J1.2.2.2⟩
  have hz := h.iC hg.1 hg.2.1
  obtain ⟨t1, t2, t3, t4, t5⟩ := hz.top
  rw [if_pos ⟨h.aS hg.1 hg.2.1, t1, t3, by omega⟩]
  obtain ⟨code, ik⟩ := aN (l := p.funcs) (i := (ae x' g).top.fn.toNat) (by omega)
  rw [ik]
  dsimp only
  have hf : code ∈ p.funcs := List.mem_of_getElem? ik
  obtain ⟨c1, c2, c3⟩ := hp.code code hf
  cases jo : code[(ae x' g).top.pc.toNat]? with
  | none => exact ⟨_, _, rfl, .inl ⟨⟨h, gr.refl hr⟩, .inl J1⟩⟩
  | some i =>
   dsimp only
   have hi : iG p code i := c3 i (List.mem_of_getElem? jo)
   have hi' := hi
   obtain ⟨o0, o1, o2, o7, o8, o9, o10, o13, o13b, o14, o16, o18, o21⟩ := hi'
   have YV := (List.getElem?_eq_some_iff.1 jo).1
   have ug : (ae x' g).top.pc + 1 ≤ 64 := by omega
   obtain ⟨n1, n2, n3, n4, n5⟩ := h.next hg ug
   have we : (x'.next g).ready = [] := hr
   have uH : asks p x' g = if i.op = 21 then some (4, i.b) else if i.op = 16 then (if enabled (ay p i) x'.az = [] then none else some (3, (enabled (ay p i) x'.az).length)) else none := by
    unfold asks jN
    rw [if_pos J1, ik]
    dsimp only
    rw [jo]
   have fin : ∀ {r : Out Wd}, fT p g (x'.next g) r → fT p g x' r := by
    intro r hres
    cases r with
    | on y => exact ⟨hres.1, hres.2.pre n3 n4⟩
    | dy n y => exact ⟨hres.1, hres.2.pre n3 n4⟩
    | cG l y => exact hres.elim
   split
   ·rename_i h8
    try rw [if_pos o2]
    refine ⟨_, _, rfl, .inl ⟨⟨h.aY hg.1 hg.2.1 (hz.bS ?_) rfl rfl, (gr.refl hr).aY hg.1 hg.2.1⟩, .inl J1⟩⟩
    unfold e7.pure
    have base : BY p (ae x' g).top.next := ⟨t1, t2, by show 0 ≤ (ae x' g).top.pc + 1; omega, ug, t5⟩
    split; exact base
    split; exact base.set _ _
    split; exact base.set _ _
    split; exact base.set _ _
    split; exact base.set _ _
    split; exact base.set _ _
    split; exact base.set _ _
    split
    ·rename_i e
     exact ⟨t1, t2, (o7 e).1, by have := (o7 e).2; show i.a ≤ 64; omega, t5⟩
    ·split
     ·have := o8 (by omega)
      exact ⟨t1, t2, this.1, by show i.b ≤ 64; omega, t5⟩
     ·exact base
   ·rename_i h8
    split
    ·rename_i qv
     have hw := GG (d := d) h hp hg hf hi qv hr ug (fun v hv hne => by
      refine hd v 3 _ hv ?_
      rw [uH, if_neg (by omega), if_pos qv, if_neg hne])
     rw [if_pos hw.1]
     rcases hw.2 with CX | ⟨l, zi, CX⟩
     ·rw [if_pos (CX.lt hg)]
      exact ⟨_, _, rfl, .inl ⟨CX, .inl J1⟩⟩
     ·rw [CX, if_pos (show g < (Out.fin (.cG l x')).gs.length from hg.2.1)]
      refine ⟨_, _, rfl, .inr ⟨l, zi, rfl, rfl, J1, ?_⟩⟩
      rw [uH, if_neg (by omega), if_pos qv]
      split
      ·rename_i e
       unfold Wd.choose at CX
       rw [if_pos e] at CX
       cases CX
      ·simp
    ·rename_i qv
     split
     ·rename_i PU
      rw [if_pos (o10 (.inr (.inr (.inr PU))))]
      cases d with
      | num v =>
       have hl : g < (x'.next g).gs.length := by rw [n3]; exact hg.2.1
       have hres : fT p g x' (x'.rand g i (.num v)) := ⟨n1.aX hg.1 hl, ((gr.refl (x := x'.next g) hr).pre n3 n4).bL hg.1 hl⟩
       rw [if_pos (hres.lt hg)]
       exact ⟨_, _, rfl, .inl ⟨hres, .inl J1⟩⟩
      | cG l =>
       rw [if_pos (show g < (Out.fin (x'.rand g i (.cG l))).gs.length from hg.2.1)]
       exact ⟨_, _, rfl, .inr ⟨l, rfl, rfl, rfl, J1, by rw [uH, if_pos PU]; simp⟩⟩
     ·rename_i PU
      have go : ∀ r, iq p (x'.next g) g i = some r → fT p g (x'.next g) r → ∃ r rest, (match iq p (x'.next g) g i with
        | none => none
        | some r => if g < r.fin.gs.length then some (r, wc i.op r) else none) = some (r, rest) ∧ (fT p g x' r ∧ (me x' g ∨ r = .on x' ∧ rest = true) ∨ ∃ l, d = .cG l ∧ r = .cG l x' ∧ rest = false ∧ me x' g ∧ asks p x' g ≠ none) := by
       intro r No hres
       rw [No]
       dsimp only
       rw [if_pos (hres.lt n2)]
       exact ⟨_, _, rfl, .inl ⟨fin hres, .inl J1⟩⟩
      have hop : i.op = 9 ∨ i.op = 10 ∨ i.op = 11 ∨ i.op = 12 ∨ i.op = 13 ∨ i.op = 14 ∨ i.op = 15 ∨ i.op = 17 ∨ i.op = 18 ∨ i.op = 19 ∨ i.op = 20 ∨ i.op = 22 := by omega
      rcases hop with e | e | e | e | e | e | e | e | e | e | e | e
      ·have w := Mc n1 n2 hi e we
       refine go _ ?_ w.2
       unfold iq
       rw [e]; simp only [Int.reduceEq, if_false, if_true]
       rw [if_pos w.1]
      ·have w := Me n1 n2 hi e we
       refine go _ ?_ w.2
       unfold iq
       rw [e]; simp only [if_true]
       rw [if_pos w.1]
      ·have w := J0 n1 hp n2 hi e we
       refine go _ ?_ w.2
       unfold iq
       rw [e]; simp only [Int.reduceEq, if_false, if_true]
       rw [if_pos w.1]
      ·refine go (.on (x'.next g)) ?_ ⟨n1, gr.refl we⟩
       unfold iq
       rw [e]; simp only [Int.reduceEq, if_false, if_true]
      ·have w := Mf n1 hp n2 hf hi e we
       refine go _ ?_ w.2
       unfold iq
       rw [e]; simp only [Int.reduceEq, if_false, if_true]
       rw [if_pos w.1]
      ·have w := Mg n1 hp n2 hf hi e we
       refine go _ ?_ w.2
       unfold iq
       rw [e]; simp only [Int.reduceEq, if_false, if_true]
       rw [if_pos w.1]
      ·have w := Mh n1 hp n2 hi e we
       refine go _ ?_ w.2
       unfold iq
       rw [e]; simp only [Int.reduceEq, if_false, if_true]
       rw [if_pos w.1]
      ·have w := JY n1 hp n2 hi e we
       refine go _ ?_ w.2
       unfold iq
       rw [e]; simp only [Int.reduceEq, if_false, if_true]
       rw [if_pos w.1]
      ·have w := Mi n1 hp n2 hf hi e we
       refine go _ ?_ w.2
       unfold iq
       rw [e]; simp only [Int.reduceEq, if_false, if_true]
       rw [if_pos w.1]
      ·have w := GF n1 hp n2 hi e we
       refine go _ ?_ w.2
       unfold iq
       rw [e]; simp only [Int.reduceEq, if_false, if_true]
       rw [if_pos w.1]
      ·have w := Md n1 hp n2 hi e we
       refine go _ ?_ w.2
       unfold iq
       rw [e]; simp only [Int.reduceEq, if_false, if_true]
       rw [if_pos w.1]
      ·refine go (.dy i.a (x'.next g)) ?_ ⟨n1, gr.refl we⟩
       unfold iq
       rw [e]; simp only [Int.reduceEq, if_false, if_true]
 ·exact ⟨_, _, rfl, .inl ⟨⟨h, gr.refl hr⟩, .inr ⟨rfl, rfl⟩⟩⟩
theorem Mk {w : Wd} {k n : Int} (hp : eV p) (h : asks p w g = some (k, n)) : 1 ≤ n ∧ n < 1099511627776 := by
 unfold asks at h
 split at h
 ·split at h
  ·cases h
  ·rename_i ins hi
   have hio : ∃ f ∈ p.funcs, ins ∈ f := by
    unfold jN at hi
    split at hi
    ·cases hi
    ·rename_i code hc
     exact ⟨code, List.mem_of_getElem? hc, List.mem_of_getElem? hi⟩
   obtain ⟨f, hf, hm⟩ := hio
   have hok := (hp.code f hf).2.2 ins hm
   split at h
   ·rename_i e
    simp only [Option.some.injEq, Prod.mk.injEq] at h
    have := hok.2.2.2.2.2.2.2.2.2.2.2.2 e
    omega
   ·split at h
    ·split at h
     ·cases h
     ·rename_i hne
      simp only [Option.some.injEq, Prod.mk.injEq] at h
      have h1 : (enabled (ay p ins) w.az).length ≤ (ay p ins).length := Bb _ _ _
      have h2 : (ay p ins).length ≤ p.cases.length := by
       unfold ay
       rw [List.length_take, List.length_drop]; omega
      have := hp.cs
      have h3 : 0 < (enabled (ay p ins) w.az).length := by
       rcases hl : enabled (ay p ins) w.az with _ | ⟨q, t⟩
       ·exact absurd hl hne
       ·simp
      omega
    ·cases h
 ·cases h
end
section
variable {p : cf} {x y z : Wd} {g q k n : Int}
theorem yZ : ∀ (l : List Int) (x : Wd), WV p x → l.Nodup → (∀ q ∈ l, 0 ≤ q ∧ q < x.gs.length ∧ (ae x q).st ≠ 1 ∧ kN x q) → WV p (l.foldl Wd.dN x) ∧ Wk x (l.foldl Wd.dN x) ∧ (l.foldl Wd.dN x).ready = x.ready ++ l
 | [], x, h, _, _ => ⟨h, Wk.refl x, by simp⟩
 | q :: l, x, h, hn, ha => by
  obtain ⟨q0, q1, q2, q3⟩ := ha q (by simp)
  obtain ⟨Jn, vg⟩ := List.nodup_cons.1 hn
  obtain ⟨r1, r2, r3⟩ := yZ l (x.dN q) (h.dN q0 q1 q3) vg (fun m hm => by
   obtain ⟨m0, m1, m2, m3⟩ := ha m (List.mem_cons_of_mem _ hm)
   have hne : m ≠ q := fun e => Jn (e ▸ hm)
   exact ⟨m0, by rw [kP]; exact m1, by rw [oJ q0 q1 m0 hne]; exact m2, m3⟩)
  refine ⟨r1, (Wk.dN q0 q1 q2).trans r2, ?_⟩
  rw [List.foldl_cons, r3]
  show (x.ready ++ [q]) ++ l = _
  simp
def Es (x : Wd) : List Int := (cU x.hl.length x.hl (IntKind.wrap .u64 (x.clock + 1))).2.map bh.id
theorem Ml (he : x.end_ = 0) : x.tick = (Es x).foldl Wd.dN { x with clock := IntKind.wrap .u64 (x.clock + 1), hl := (cU x.hl.length x.hl (IntKind.wrap .u64 (x.clock + 1))).1, ready := [] } := by
 unfold Wd.tick
 rw [if_neg (by rw [he]; decide)]
 rfl
theorem Mm (h : WV p x) : (∀ y ∈ (cU x.hl.length x.hl (IntKind.wrap .u64 (x.clock + 1))).2, 0 ≤ y.id ∧ y.id < x.gs.length) ∧ WV p x.tick ∧ Wk { x with ready := [] } x.tick ∧ x.tick.ready.length ≤ 100 := by
 generalize hr : cU x.hl.length x.hl (IntKind.wrap .u64 (x.clock + 1)) = r
 have hp : x.hl.Perm (r.2 ++ r.1) := by rw [← hr]; exact wU _ _ _
 have m2 : ∀ y ∈ r.2, y ∈ x.hl := fun y hy => hp.mem_iff.2 (List.mem_append_left _ hy)
 have m1 : ∀ y ∈ r.1, y ∈ x.hl := fun y hy => hp.mem_iff.2 (List.mem_append_right _ hy)
 have hc : ∀ q, (r.2.map bh.id).count q + (r.1.map bh.id).count q ≤ 1 := fun q => by
  have a := h.h1 q
  unfold zS at a
  rw [(hp.map bh.id).count_eq, List.map_append, List.count_append] at a
  exact a
 refine ⟨fun y hy => ⟨(h.hl y (m2 y hy)).1, (h.hl y (m2 y hy)).2.1⟩, ?_⟩
 by_cases he : x.end_ = 0
 ·rw [Ml he]
  unfold Es
  rw [hr]
  have h1 : WV p { x with clock := IntKind.wrap .u64 (x.clock + 1), hl := r.1, ready := [] } :=
   ⟨h.n1, h.n2, h.BZ, h.ch, h.lk, h.buf, h.dI, h.snd, h.lw, fun y hy => h.hl y (m1 y hy), h.one, h.zK, fun q => by have := hc q; unfold zS; dsimp only; omega, h.out⟩
  have ZH : (r.2.map bh.id).Nodup := List.nodup_iff_count.2 fun q => by have := hc q; omega
  obtain ⟨r1, r2, r3⟩ := yZ (r.2.map bh.id) { x with clock := IntKind.wrap .u64 (x.clock + 1), hl := r.1, ready := [] } h1 ZH (fun q hq => by
   obtain ⟨y, hy, rfl⟩ := List.mem_map.1 hq
   have a := h.hl y (m2 y hy)
   refine ⟨a.1, a.2.1, by show (ae x y.id).st ≠ 1; rw [a.2.2]; decide, fun c QS hg => ?_, fun l hl hg => ?_, fun w hw e => ?_⟩
   ·have := (h.Ma QS hg).1.2.2
    rw [a.2.2] at this; cases this
   ·have := (h.lw l hl _ hg).1.2.2
    rw [a.2.2] at this; cases this
   ·have b := hc y.id
    have c1 : 0 < (r.2.map bh.id).count y.id := List.count_pos_iff.2 hq
    have c2 : 0 < (r.1.map bh.id).count y.id := List.count_pos_iff.2 (List.mem_map.2 ⟨w, hw, e⟩)
    omega)
  refine ⟨r1, Wk.trans (Wk.same rfl rfl) r2, ?_⟩
  rw [r3]
  have a := h.EM
  have b := hp.length_eq
  simp only [List.length_append, List.length_map, List.nil_append] at *
  omega
 ·have e : x.tick = { x with ready := [] } := by unfold Wd.tick; rw [if_pos he]
  rw [e]
  exact ⟨h.ready, Wk.refl _, by simp⟩
theorem Qh (hp : eV p) : WV p (Wd.new p) := by
 have e : ∀ q, ae (Wd.new p) q = if q.toNat = 0 then ⟨1, [e7.begin 0 0], .zero⟩ else ⟨0, [], .zero⟩ := by
  intro q
  unfold ae Wd.new
  dsimp only
  split
  ·rename_i e; rw [e]; rfl
  ·rename_i e
   rw [List.getD_eq_getElem?_getD, List.getElem?_eq_none (by simp; omega)]; rfl
 have xk : ∀ c ∈ (Wd.new p).az, ∃ n, c = aK.new n := fun c hc => by
  obtain ⟨n, _, rfl⟩ := List.mem_map.1 hc
  exact ⟨n, rfl⟩
 have hlk : ∀ l ∈ (Wd.new p).aP, l.waits = [] := fun l hl => by
  have := List.eq_of_mem_replicate hl
  rw [this]
 have z1 : ∀ q, bO (Wd.new p).az q = 0 := fun q => nZ _ _ fun c hc => by
  obtain ⟨n, rfl⟩ := xk c hc
  rfl
 have z2 : ∀ q, fJ (Wd.new p).aP q = 0 := fun q => nZ _ _ fun l hl => by rw [hlk l hl]; rfl
 refine ⟨by simp [Wd.new], by simp [Wd.new], fun y hy => ?_, by simp [Wd.new], by (simp [Wd.new]; have := hp.lk.1; omega), fun c hc => ?_, fun c hc v hv => ?_, fun c hc v hv => ?_, fun l hl q hq => ?_, fun y hy => by simp [Wd.new] at hy, fun q _ _ => by rw [z1, z2]; omega, fun q => by rw [z1]; omega, fun q => by simp [zS, Wd.new], by simp [Wd.new]⟩
 ·simp only [Wd.new, List.mem_singleton] at hy
  subst hy
  refine ⟨by simp, by simp, fun r hr => ?_, (fun e => by cases e), by show (1 : Int) ≤ 1 ∧ (1 : Int) ≤ 4; decide⟩
  simp only [List.mem_singleton] at hr; subst hr
  exact ⟨Int.le_refl 0, by have := hp.f1; show (0 : Int) < _; omega, Int.le_refl 0, (by show (0 : Int) ≤ 64; decide), by show bn 0; decide⟩
 ·obtain ⟨n, rfl⟩ := xk c hc
  exact ⟨Nat.zero_le _, HX n⟩
 ·obtain ⟨n, rfl⟩ := xk c hc
  cases hv
 ·obtain ⟨n, rfl⟩ := xk c hc
  cases hv
 ·rw [hlk l hl] at hq; cases hq
end
def jB (ps : List cV) (a : Int) : Nat := ((ps.map cV.q).flatMap Loc.all).count a
def zV (ms : List xl) (a : Int) : Nat := (ms.flatMap fun m => gR m.g).count a
def jC (x : Sc) (a : Int) : Nat := jB x.ps a + x.gl.count a + zV x.ms a
def GY (q : Loc) : Prop := q.l.length ≤ q.room ∧ q.room ≤ 1024 ∧ 0 < q.room
def MV (P : Nat) (m : xl) : Prop := (m.p = -1 ∧ m.g = -1 ∧ m.left = 0) ∨ (0 ≤ m.p ∧ m.p < P ∧ -1 ≤ m.g ∧ 0 ≤ m.left ∧ m.left ≤ 1024 ∧ (0 ≤ m.g → 1 ≤ m.left))
structure SV (p : cf) (N : Nat) (x : Sc) : Prop where
 w : WV p x.w
 one : ∀ a, At x.w a 1 → jC x a = 1
 zero : ∀ a, ¬ At x.w a 1 → jC x a = 0
 cP : x.c.P = x.ps.length
 cM : x.c.M = x.ms.length
 P1 : 1 ≤ x.ps.length ∧ x.ps.length ≤ 64
 M1 : 1 ≤ x.ms.length ∧ x.ms.length ≤ 64
 cS : 1 ≤ x.c.S ∧ x.c.S ≤ 1024
 room : ∀ pr ∈ x.ps, GY pr.q
 cZ : ∀ pr ∈ x.ps, 0 ≤ pr.turns ∧ pr.turns ≤ N
 ms : ∀ m ∈ x.ms, MV x.ps.length m
 fS : ∀ (i : Nat) m, x.ms[i]? = some m → m.p ≠ -1 → (aB x m.p).fS = i
 st : 0 ≤ x.steps ∧ x.steps ≤ N
 tk : x.d.taken.length ≤ 3 * N
 k : x.d.k.Ok
section
variable {p : cf} {N : Nat} {x y z : Sc} {m i g a : Int}
theorem oc {ps : List cV} {j : Nat} {pr Nw : cV} (h : ps[j]? = some pr) : jB (ps.set j Nw) a + pr.q.all.count a = jB ps a + Nw.q.all.count a := by
 unfold jB
 rw [List.map_set]
 exact Ly a (by rw [List.getElem?_map, h]; rfl)
theorem wV : ∀ {ms : List xl} {j : Nat} {mc sv : xl}, ms[j]? = some mc → zV (ms.set j sv) a + (gR mc.g).count a = zV ms a + (gR sv.g).count a
 | [], _, _, _, h => by simp at h
 | z :: ms, 0, mc, sv, h => by
  simp only [List.getElem?_cons_zero, Option.some.injEq] at h; subst h
  simp only [zV, List.set_cons_zero, List.flatMap_cons, List.count_append]; omega
 | z :: ms, j + 1, mc, sv, h => by
  have := wV (ms := ms) (sv := sv) (j := j) (by simpa using h)
  simp only [zV, List.set_cons_succ, List.flatMap_cons, List.count_append] at *; omega
theorem qE {α : Type} (f : α → List Int) : ∀ (l : List α) (b : α), b ∈ l → (f b).count a ≤ (l.flatMap f).count a
 | c :: l, b, h => by
  simp only [List.flatMap_cons, List.count_append]
  rcases List.mem_cons.1 h with rfl | h
  ·omega
  ·have := qE f l b h; omega
theorem SV.le1 (h : SV p N x) : jC x a ≤ 1 := by
 by_cases e : At x.w a 1
 ·rw [h.one a e]; omega
 ·rw [h.zero a e]; omega
theorem SV.at_ (h : SV p N x) (hc : 0 < jC x a) : At x.w a 1 := Classical.byContradiction fun e => by rw [h.zero a e] at hc; omega
theorem SV.NF (h : SV p N x) : ∀ v ∈ x.gl, 0 ≤ v := fun v hv => (h.at_ (a := v) (by have : 0 < x.gl.count v := List.count_pos_iff.2 hv; unfold jC; omega)).1
theorem SV.Qi (h : SV p N x) {pr : cV} (hp : pr ∈ x.ps) : pr.q.Pos := by
 have gu : ∀ v ∈ pr.q.all, 0 ≤ v := fun v hv => (h.at_ (a := v) (by
  have h1 := qE (a := v) Loc.all (x.ps.map cV.q) pr.q (List.mem_map.2 ⟨pr, hp, rfl⟩)
  have : 0 < pr.q.all.count v := List.count_pos_iff.2 hv
  unfold jC jB; omega)).1
 refine ⟨?_, fun v hv => gu v (by unfold Loc.all; simp [hv])⟩
 by_cases hn : pr.q.next = -1
 ·omega
 ·have := gu pr.q.next (by unfold Loc.all; rw [if_neg hn]; simp)
  omega
theorem SV.Qj (h : SV p N x) : x.gl.length ≤ 100 := by
 have h1 := oI (b := 1) x.w.gs.length x.gl (fun v hv => by
  have := h.at_ (a := v) (by have : 0 < x.gl.count v := List.count_pos_iff.2 hv; unfold jC; omega)
  exact ⟨this.1, this.2.1⟩) (fun v => by have := h.le1 (a := v); unfold jC at this; omega)
 have := h.w.n2
 omega
theorem SV.mg (h : SV p N x) {mc : xl} (hm : mc ∈ x.ms) (h0 : 0 ≤ mc.g) : At x.w mc.g 1 := h.at_ (by
 have h1 := qE (a := mc.g) (fun m : xl => gR m.g) x.ms mc hm
 have : (gR mc.g).count mc.g = 1 := by rw [gI h0]; simp
 unfold jC zV; omega)
theorem jq (h0 : 0 ≤ m) (hm : m < x.ms.length) : x.ms[m.toNat]? = some (av x m) := by
 obtain ⟨y, hy⟩ := aN (l := x.ms) (i := m.toNat) (by omega)
 rw [hy]; simp [av, hy]
theorem qF (h0 : 0 ≤ i) (hi : i < x.ps.length) : x.ps[i.toNat]? = some (aB x i) := by
 obtain ⟨y, hy⟩ := aN (l := x.ps) (i := i.toNat) (by omega)
 rw [hy]; simp [aB, hy]
def qK : cV := ⟨⟨-1, 0, []⟩, 0, -1⟩
theorem SV.go (h : SV p N x) (m0 : 0 ≤ m) (m1 : m < x.ms.length) (i0 : 0 ≤ i) (i1 : i < x.ps.length) (ps' : List cV) (sv : xl) (Gy : List Int) (d' : kI)
  (hl : ps'.length = x.ps.length) (hr : ∀ pr ∈ ps', GY pr.q ∧ 0 ≤ pr.turns ∧ pr.turns ≤ N + 1) (hb : ∀ j : Nat, j ≠ i.toNat → (ps'.getD j qK).fS = (x.ps.getD j qK).fS)
  (YG : sv.p = -1 ∨ sv.p = i ∧ (ps'.getD i.toNat qK).fS = m) (hold : (av x m).p = i ∨ (aB x i).fS = -1) (y3 : MV x.ps.length sv)
  (hc : ∀ a, jB ps' a + Gy.count a + (gR sv.g).count a = jB x.ps a + x.gl.count a + (gR (av x m).g).count a) (hd : d'.taken.length ≤ 3 * N + 3) (hk : d'.k.Ok) :
  SV p (N + 1) { x with ps := ps', ms := x.ms.set m.toNat sv, gl := Gy, d := d' } := by
 have kL := jq m0 m1
 have hS : ∀ a, jC { x with ps := ps', ms := x.ms.set m.toNat sv, gl := Gy, d := d' } a = jC x a := fun a => by
  have e1 := wV (a := a) (sv := sv) kL
  have e2 := hc a
  unfold jC
  dsimp only
  omega
 refine ⟨h.w, fun a ha => by rw [hS]; exact h.one a ha, fun a ha => by rw [hS]; exact h.zero a ha, by rw [hl]; exact h.cP, by simpa using h.cM, by rw [hl]; exact h.P1, by simpa using h.M1, h.cS, fun pr hp => (hr pr hp).1, fun pr hp => (by have := (hr pr hp).2; omega), fun mc Mn => ?_, fun j mc hj hne => ?_, by have := h.st; dsimp only; omega, by dsimp only; omega, hk⟩
 ·rw [hl]
  rcases hU Mn with Mn | rfl
  ·exact h.ms mc Mn
  ·exact y3
 ·by_cases e : j = m.toNat
  ·subst e
   rw [List.getElem?_set_self (by omega)] at hj
   simp only [Option.some.injEq] at hj
   subst hj
   rcases YG with YG | ⟨e1, e2⟩
   ·exact absurd YG hne
   ·show (ps'.getD sv.p.toNat qK).fS = _
    rw [e1, e2]; omega
  ·rw [List.getElem?_set_ne (Ne.symm e)] at hj
   have hby := h.fS j mc hj hne
   have YH := h.ms mc (List.mem_of_getElem? hj)
   have Ub : mc.p.toNat ≠ i.toNat := by
    intro e2
    have e3 : mc.p = i := by rcases YH with hh | hh; exact absurd hh.1 hne; omega
    rw [e3] at hby
    rcases hold with e4 | e4
    ·have := h.fS m.toNat (av x m) kL (by rw [e4]; omega)
     rw [e4, hby] at this
     omega
    ·rw [e4] at hby; omega
   show (ps'.getD mc.p.toNat qK).fS = _
   rw [hb _ Ub]
   exact hby
end
section
variable {p : cf} {N : Nat} {x y z : Sc} {m i g a : Int}
theorem Mo {q : Loc} (h : ∀ v ∈ q.all, 0 ≤ v) : q.Pos := by
 refine ⟨?_, fun v hv => h v (by unfold Loc.all; simp [hv])⟩
 by_cases hn : q.next = -1
 ·omega
 ·have := h q.next (by unfold Loc.all; rw [if_neg hn]; simp)
  omega
theorem Mp {q : Loc} (h : q.Pos) : ∀ v ∈ q.all, 0 ≤ v := by
 intro v hv
 unfold Loc.all at hv
 rcases List.mem_append.1 hv with hv | hv
 ·split at hv
  ·cases hv
  ·simp only [List.mem_singleton] at hv; subst hv; have := h.1; omega
 ·exact h.2 v hv
theorem ES {q : Loc} {t : Int} {gl : List Int} (hq : q.Pos) (hb : GY q) (hg : ∀ v ∈ gl, 0 ≤ v) :
  GY (fZ q t gl).1 ∧ (∀ a, (fZ q t gl).1.all.count a + (fZ q t gl).2.1.count a + (gR (fZ q t gl).2.2.1).count a = q.all.count a + gl.count a) ∧
   ((fZ q t gl).2.2.2 = true → 0 ≤ (fZ q t gl).2.2.1) ∧ ((fZ q t gl).2.2.2 = false → (fZ q t gl).2.2.1 = -1) := by
 have c1 := Jp q gl
 have b1 := Lz hb gl
 unfold fZ
 generalize q.cZ gl = r at c1 b1
 obtain ⟨q1, g1, n1⟩ := r
 dsimp only at c1 b1 ⊢
 have nn : ∀ v, 0 < q.all.count v + gl.count v → 0 ≤ v := fun v hv => by
  by_cases e : v ∈ gl
  ·exact hg v e
  ·rw [List.count_eq_zero.2 e] at hv
   exact Mp hq v (List.count_pos_iff.1 (by omega))
 have p1 : q1.Pos := Mo fun v hv => nn v (by have : 0 < q1.all.count v := List.count_pos_iff.2 hv; have := c1 v; omega)
 have Gh : ∀ v ∈ g1, 0 ≤ v := fun v hv => nn v (by have : 0 < g1.count v := List.count_pos_iff.2 hv; have := c1 v; omega)
 split
 ·rename_i hh
  cases g1 with
  | nil => simp at hh
  | cons v l =>
   refine ⟨b1, fun a => ?_, fun _ => Gh v (by simp), fun e => by cases e⟩
   have := c1 a
   simp only [List.drop_succ_cons, List.drop_zero, List.headD_cons]
   rw [gI (Gh v (by simp))]
   simp only [List.count_cons, List.count_nil] at *
   omega
 ·split
  ·rename_i hh
   have YI := EB p1
   have h0 : 0 ≤ q1.get.2 := by
    rcases YI with ⟨e1, e2, _⟩ | ⟨_, h0⟩
    ·unfold nT at hh
     rw [e1, e2] at hh
     cases hh
    ·exact h0
   refine ⟨Js b1, fun a => ?_, fun _ => h0, fun e => by cases e⟩
   have := c1 a
   have := EA q1 p1 a
   dsimp only
   omega
  ·rename_i hh
   have e1 : q1.next = -1 ∧ q1.l = [] := by
    unfold nT at hh
    simp only [Bool.or_eq_true, bne_iff_ne, ne_eq, Bool.not_eq_true', List.isEmpty_eq_false_iff, not_or, Decidable.not_not] at hh
    exact hh
   have eg : q1.get = (q1, -1) := by
    unfold Loc.get
    rw [if_neg (by rw [e1.1]; decide), e1.2]
   rw [eg]
   dsimp only
   have c2 := F9 q1 g1 Gh 0
   refine ⟨Jt b1 _ _, fun a => ?_, fun e => ?_, fun e => ?_⟩
   ·have := c1 a
    have := c2 a
    omega
   ·rcases yK (x := q1) Gh 0 with ⟨e2, _⟩ | ⟨_, h0⟩
    ·rw [e2] at e; cases e
    ·exact h0
   ·rcases yK (x := q1) Gh 0 with ⟨_, h0⟩ | ⟨e2, _⟩
    ·exact h0
    ·cases g1 with
     | nil => exact absurd rfl e2
     | cons v l => cases e
theorem SV.mono {N' : Nat} (h : SV p N x) (hn : N ≤ N') : SV p N' x :=
 ⟨h.w, h.one, h.zero, h.cP, h.cM, h.P1, h.M1, h.cS, h.room, fun pr hp => by have := h.cZ pr hp; omega, h.ms, h.fS, by have := h.st; omega, by have := h.tk; omega, h.k⟩
theorem SV.inc (h : SV p (N + 1) y) (hs : 0 ≤ y.steps ∧ y.steps ≤ N) : SV p (N + 1) { y with steps := y.steps + 1 } :=
 ⟨h.w, h.one, h.zero, h.cP, h.cM, h.P1, h.M1, h.cS, h.room, h.cZ, h.ms, h.fS, by dsimp only; omega, h.tk, h.k⟩
theorem SV.draw {d' : kI} (h : SV p N x) (hd : d'.taken.length ≤ 3 * N + 3) (hk : d'.k.Ok) : SV p (N + 1) { x with d := d' } :=
 ⟨h.w, h.one, h.zero, h.cP, h.cM, h.P1, h.M1, h.cS, h.room, fun pr hp => by have := h.cZ pr hp; omega, h.ms, h.fS, by have := h.st; dsimp only; omega, by dsimp only; omega, hk⟩
theorem c7 {l : List cV} {n : Nat} {b : cV} (h : n < l.length) : (l.set n b).getD n qK = b := by simp [List.getD_eq_getElem?_getD, List.getElem?_set_self h]
theorem getD_set_ne {l : List cV} {n j : Nat} {b : cV} (h : j ≠ n) : (l.set n b).getD j qK = l.getD j qK := by simp [List.getD_eq_getElem?_getD, List.getElem?_set_ne (Ne.symm h)]
theorem SV.hold {d' : kI} (h : SV p N x) (m0 : 0 ≤ m) (m1 : m < x.ms.length) (hm : (av x m).p = -1) (hd : d'.taken.length ≤ 3 * N + 3) (hk : d'.k.Ok) : SV p (N + 1) (Sc.hold { x with d := d' } m).1 ∧ (Sc.hold { x with d := d' } m).1.steps = x.steps := by
 unfold Sc.hold
 dsimp only
 have kL := jq m0 m1
 split
 ·rename_i n hn
  obtain ⟨hlt, hb, _⟩ := List.findIdx?_eq_some_iff_getElem.1 hn
  have kJ := qF (x := x) (i := (n : Int)) (by omega) (by omega)
  rw [Int.toNat_natCast] at kJ
  have eb : (aB x (n : Int)).fS = -1 := by
   rw [List.getElem?_eq_getElem hlt, Option.some.injEq] at kJ
   rw [← kJ]; simpa using hb
  have y3 := h.ms _ (List.mem_of_getElem? kL)
  have hg : (av x m).g = -1 ∧ (av x m).left = 0 := by rcases y3 with e | e; exact e.2; omega
  refine ⟨?_, rfl⟩
  refine h.go (i := (n : Int)) m0 m1 (by omega) (by omega) (x.ps.set n { aB x (n : Int) with fS := m }) { av x m with p := (n : Int) } x.gl d' (by simp) (fun pr hp => ?_) (fun j hj => ?_) (.inr ⟨rfl, ?_⟩) (.inr eb) (.inr ⟨by dsimp only; omega, by dsimp only; omega, by dsimp only; omega, by dsimp only; omega, by dsimp only; omega, by dsimp only; omega⟩) (fun a => ?_) hd hk
  ·rcases List.mem_or_eq_of_mem_set hp with hp | rfl
   ·exact ⟨h.room pr hp, by have := h.cZ pr hp; omega⟩
   ·have hm := List.mem_of_getElem? kJ
    exact ⟨h.room (aB x (n : Int)) hm, by have := h.cZ _ hm; dsimp only; omega⟩
  ·rw [Int.toNat_natCast] at hj
   rw [getD_set_ne hj]
  ·rw [Int.toNat_natCast, c7 hlt]
  ·have := oc (a := a) (Nw := { aB x (n : Int) with fS := m }) kJ
   dsimp only at *
   omega
 ·exact ⟨h.draw hd hk, rfl⟩
theorem SV.tick {d' : kI} (h : SV p N x) (hd : d'.taken.length ≤ 3 * N + 3) (hk : d'.k.Ok) : wB { x with d := d' } ∧ SV p (N + 1) (Sc.tick { x with d := d' }).1 ∧ (Sc.tick { x with d := d' }).1.steps = x.steps := by
 obtain ⟨t1, t2, t3, t4⟩ := Mm h.w
 have hg := h.Qj
 refine ⟨⟨by have := h.w.EM; dsimp only; omega, t1, by dsimp only; omega⟩, ?_, rfl⟩
 unfold Sc.tick
 dsimp only
 obtain ⟨a1, l, a2, a3, a4, a5⟩ := t3
 rw [List.nil_append] at a2
 rw [a2]
 have hS : ∀ a, jC { x with w := x.w.tick, gl := x.gl ++ l, d := d' } a = jC x a + l.count a := fun a => by
  unfold jC; dsimp only; rw [List.count_append]; omega
 have hA : ∀ a, At x.w.tick a 1 ↔ At x.w a 1 ∨ a ∈ l := fun a => by
  constructor
  ·rintro ⟨b1, b2, b3⟩
   by_cases e : a ∈ l
   ·exact .inr e
   ·refine .inl ⟨b1, by rw [a1] at b2; exact b2, ?_⟩
    rw [a5 a b1 e] at b3; exact b3
  ·rintro (⟨b1, b2, b3⟩ | e)
   ·by_cases e : a ∈ l
    ·exact ⟨b1, by rw [a1]; exact b2, (a4 a e).2.2.2⟩
    ·exact ⟨b1, by rw [a1]; exact b2, by rw [a5 a b1 e]; exact b3⟩
   ·obtain ⟨c1, c2, c3, c4⟩ := a4 a e
    exact ⟨c1, by rw [a1]; exact c2, c4⟩
 have hn : ∀ a, a ∈ l → ¬ At x.w a 1 := fun a e hh => (a4 a e).2.2.1 hh.2.2
 refine ⟨t2, fun a ha => ?_, fun a ha => ?_, h.cP, h.cM, h.P1, h.M1, h.cS, h.room, fun pr hp => by have := h.cZ pr hp; omega, h.ms, h.fS, by have := h.st; dsimp only; omega, by dsimp only; omega, hk⟩
 ·rw [hS]
  rcases (hA a).1 ha with e | e
  ·rw [h.one a e, List.count_eq_zero.2 (fun hm => hn a hm e)]
  ·rw [h.zero a (hn a e), Nat.le_antisymm (List.nodup_iff_count.1 a3 a) (List.count_pos_iff.2 e)]
 ·rw [hS, h.zero a (fun e => ha ((hA a).2 (.inl e))), List.count_eq_zero.2 (fun e => ha ((hA a).2 (.inr e)))]
end
section
variable {p : cf} {N : Nat} {x y z : Sc} {m i g a kind : Int}
theorem SV.bJ {zW : List cV} {Tl : List Int} {dz : kI} {t : Bool} (h : SV p N x) (m0 : 0 ≤ m) (m1 : m < x.ms.length) (hmp : (av x m).p = i) (i0 : 0 ≤ i) (i1 : i < x.ps.length) (hg : (av x m).g = -1)
  (hl : zW.length = x.ps.length) (hr : ∀ pr ∈ zW, GY pr.q ∧ 0 ≤ pr.turns ∧ pr.turns ≤ N) (hb : ∀ j : Nat, (zW.getD j qK).fS = (x.ps.getD j qK).fS)
  (hc : ∀ a, jB zW a + Tl.count a + (gR g).count a = jB x.ps a + x.gl.count a) (hok : t = true → 0 ≤ g) (hno : t = false → gR g = []) (hd : dz.taken.length ≤ 3 * N + 3) (hk : dz.k.Ok) :
  SV p (N + 1) (Sc.bJ { x with ps := zW, gl := Tl, d := dz } m i kind g t).1 ∧ (Sc.bJ { x with ps := zW, gl := Tl, d := dz } m i kind g t).1.steps = x.steps := by
 have kL := jq m0 m1
 have e0 : gR (av x m).g = [] := by rw [hg]; rfl
 have Ub : zW[i.toNat]? = some (zW.getD i.toNat qK) := by
  rw [List.getD_eq_getElem?_getD, List.getElem?_eq_getElem (by omega)]; rfl
 have hmem := List.mem_of_getElem? Ub
 have hby : (x.ps.getD i.toNat qK).fS = m := by
  have := h.fS m.toNat (av x m) kL (by rw [hmp]; omega)
  rw [hmp] at this
  show (aB x i).fS = m
  rw [this]; omega
 have vS : ∀ b : cV, b.q = (zW.getD i.toNat qK).q → ∀ a, jB (zW.set i.toNat b) a = jB zW a := fun b e a => by
  have := oc (a := a) (Nw := b) Ub
  rw [e] at this
  omega
 unfold Sc.bJ
 cases t with
 | true =>
  rw [if_pos rfl]
  refine ⟨?_, rfl⟩
  have y3 := h.ms _ (List.mem_of_getElem? kL)
  refine h.go (i := i) m0 m1 i0 i1 (zW.set i.toNat { zW.getD i.toNat qK with turns := (zW.getD i.toNat qK).turns + 1 }) ⟨(av x m).p, g, x.c.S⟩ Tl dz (by simp [hl]) (fun pr hp => ?_) (fun j hj => by rw [getD_set_ne hj]; exact hb j) (.inr ⟨hmp, ?_⟩) (.inl hmp) (.inr ⟨by dsimp only; omega, by dsimp only; omega, by dsimp only; have := hok rfl; omega, by have := h.cS; dsimp only; omega, by have := h.cS; dsimp only; omega, fun _ => by have := h.cS; dsimp only; omega⟩) (fun a => ?_) hd hk
  ·rcases List.mem_or_eq_of_mem_set hp with hp | rfl
   ·have := hr pr hp; exact ⟨this.1, by omega⟩
   ·have := hr _ hmem; exact ⟨this.1, by dsimp only; omega⟩
  ·rw [c7 (by omega)]
   exact (hb _).trans hby
  ·rw [vS { zW.getD i.toNat qK with turns := (zW.getD i.toNat qK).turns + 1 } rfl, e0]
   have := hc a
   simp only [List.count_nil]
   omega
 | false =>
  rw [if_neg (by decide)]
  refine ⟨?_, rfl⟩
  refine h.go (i := i) m0 m1 i0 i1 (zW.set i.toNat { zW.getD i.toNat qK with fS := -1 }) ⟨-1, -1, 0⟩ Tl dz (by simp [hl]) (fun pr hp => ?_) (fun j hj => by rw [getD_set_ne hj]; exact hb j) (.inl rfl) (.inl hmp) (.inl ⟨rfl, rfl, rfl⟩) (fun a => ?_) hd hk
  ·rcases List.mem_or_eq_of_mem_set hp with hp | rfl
   ·have := hr pr hp; exact ⟨this.1, by omega⟩
   ·have := hr _ hmem; exact ⟨this.1, by dsimp only; omega⟩
  ·rw [vS { zW.getD i.toNat qK with fS := -1 } rfl, e0]
   have := hc a
   rw [hno rfl] at this
   simp only [List.count_nil] at *
   have e1 : gR (-1) = [] := rfl
   rw [e1, List.count_nil]
   omega
theorem wW {d : kI} {k n : Int} (hk : d.k.Ok) : (d.draw k n).1.taken.length ≤ d.taken.length + 1 := by
 generalize uk : d.draw k n = r
 obtain ⟨d', o⟩ := r
 cases o with
 | num v =>
  have := (nX hk uk).2.2
  dsimp only
  rw [this]; simp
 | cG l =>
  have := (BP uk).1
  dsimp only
  rw [this]; omega
theorem SV.find {d' : kI} (h : SV p N x) (m0 : 0 ≤ m) (m1 : m < x.ms.length) (hp : (av x m).p ≠ -1) (hg : (av x m).g = -1) (hN : N ≤ 10000000) (hd : d'.taken.length ≤ 3 * N + 1) (hk : d'.k.Ok) :
  tD { x with d := d' } m ∧ SV p (N + 1) (Sc.find { x with d := d' } m).1 ∧ (Sc.find { x with d := d' } m).1.steps = x.steps := by
 have kL := jq m0 m1
 have y3 := h.ms _ (List.mem_of_getElem? kL)
 have hr : 0 ≤ (av x m).p ∧ (av x m).p < x.ps.length ∧ 0 ≤ (av x m).left ∧ (av x m).left ≤ 1024 := by
  rcases y3 with e | e
  ·exact absurd e.1 hp
  ·omega
 obtain ⟨i0, i1, l0, l1⟩ := hr
 have kJ := qF i0 i1
 have YJ := List.mem_of_getElem? kJ
 have ht := h.cZ _ YJ
 have hroom := h.room _ YJ
 have hpos := h.Qi YJ
 have e0 : gR (av x m).g = [] := by rw [hg]; rfl
 have hcP := h.cP
 have hP1 := h.P1
 refine ⟨⟨m0, m1, i0, i1, by have := h.Qj; dsimp only; omega, ht.1, by have := ht.2; show (aB x (av x m).p).turns < 1000000000; omega, by dsimp only; omega, by dsimp only; omega, by dsimp only; omega⟩, ?_⟩
 have own := ES (t := (aB x (av x m).p).turns) hpos hroom h.NF
 unfold Sc.find
 dsimp only
 have em : av { x with d := d' } m = av x m := rfl
 have ep : ∀ j, aB { x with d := d' } j = aB x j := fun _ => rfl
 rw [em]
 simp only [ep]
 generalize hi : (av x m).p = i at *
 have vS : ∀ b : cV, ∀ a, jB (x.ps.set i.toNat b) a + (aB x i).q.all.count a = jB x.ps a + b.q.all.count a := fun b a => oc kJ
 split
 ·rename_i hn
  refine ⟨?_, rfl⟩
  have YI := EB hpos
  have h0 : 0 ≤ (aB x i).q.get.2 := by
   rcases YI with ⟨e1, _⟩ | ⟨_, h0⟩
   ·exact absurd e1 hn.2
   ·exact h0
  have hby : (aB x i).fS = m := by
   have := h.fS m.toNat (av x m) kL (by rw [hi]; omega)
   rw [hi] at this
   rw [this]; omega
  refine h.go (i := i) m0 m1 i0 i1 (x.ps.set i.toNat { aB x i with q := (aB x i).q.get.1 }) ⟨i, (aB x i).q.get.2, (av x m).left⟩ x.gl d' (by simp) (fun pr hp => ?_) (fun j hj => by rw [getD_set_ne hj]) (.inr ⟨rfl, by rw [c7 (by omega)]; exact hby⟩) (.inl hi) (.inr ⟨by dsimp only; omega, by dsimp only; omega, by dsimp only; omega, l0, l1, fun _ => by have := hn.1; dsimp only; omega⟩) (fun a => ?_) (by omega) hk
  ·rcases List.mem_or_eq_of_mem_set hp with hp | rfl
   ·exact ⟨h.room pr hp, by have := h.cZ pr hp; omega⟩
   ·exact ⟨Js hroom, by dsimp only; omega⟩
  ·have a1 := vS { aB x i with q := (aB x i).q.get.1 } a
   have a2 := EA _ hpos a
   rw [e0]
   simp only [List.count_nil] at *
   try dsimp only at *
   omega
 ·
  have hown : Sc.own { x with d := d' } i = ({ x with ps := x.ps.set i.toNat { aB x i with q := (fZ (aB x i).q (aB x i).turns x.gl).1 }, gl := (fZ (aB x i).q (aB x i).turns x.gl).2.1, d := d' }, (fZ (aB x i).q (aB x i).turns x.gl).2.2.1, (fZ (aB x i).q (aB x i).turns x.gl).2.2.2) := rfl
  rw [hown]
  generalize fZ (aB x i).q (aB x i).turns x.gl = r at own
  obtain ⟨q1, g1, v1, has⟩ := r
  obtain ⟨o1, o2, o3, o4⟩ := own
  dsimp only at o1 o2 o3 o4 ⊢
  have Qk : ∀ pr ∈ x.ps.set i.toNat { aB x i with q := q1 }, GY pr.q ∧ 0 ≤ pr.turns ∧ pr.turns ≤ N := fun pr hp => by
   rcases List.mem_or_eq_of_mem_set hp with hp | rfl
   ·exact ⟨h.room pr hp, h.cZ pr hp⟩
   ·exact ⟨o1, ht⟩
  have Mq : ∀ j : Nat, ((x.ps.set i.toNat { aB x i with q := q1 }).getD j qK).fS = (x.ps.getD j qK).fS := fun j => by
   by_cases e : j = i.toNat
   ·subst e
    rw [c7 (by omega)]
    rfl
   ·rw [getD_set_ne e]
  have SX : ∀ a, jB (x.ps.set i.toNat { aB x i with q := q1 }) a + g1.count a + (gR v1).count a = jB x.ps a + x.gl.count a := fun a => by
   have a1 := vS { aB x i with q := q1 } a
   have a2 := o2 a
   dsimp only at *
   omega
  split
  ·rename_i hh
   have YK : gR v1 = [] := by rw [o4 hh.1]; rfl
   have zi := wW (k := 2) (n := x.c.P) hk
   have wH := lT (kind := 2) (n := x.c.P) hk
   split
   ·rename_i d2 l uk
    rw [uk] at zi wH
    refine ⟨?_, rfl⟩
    have : SV p (N + 1) { x with ps := x.ps.set i.toNat { aB x i with q := q1 }, ms := x.ms.set m.toNat (av x m), gl := g1, d := d2 } :=
     h.go (i := i) m0 m1 i0 i1 _ (av x m) g1 d2 (by simp) (fun pr hp => by have := Qk pr hp; exact ⟨this.1, by omega⟩) (fun j hj => Mq j) (.inr ⟨hi, by
      rw [Mq]
      have := h.fS m.toNat (av x m) kL (by rw [hi]; omega)
      rw [hi] at this
      show (aB x i).fS = m
      rw [this]; omega⟩) (.inl hi) y3 (fun a => by have := SX a; rw [YK] at this; simp only [List.count_nil] at this; exact congrArg (· + (gR (av x m).g).count a) this) (by dsimp only at zi; omega) wH
    rw [dW _ _ _ kL] at this
    exact this
   ·rename_i d2 v uk
    rw [uk] at zi wH
    have ZI := nX hk uk
    have Ra : j3 x.c.P = x.c.P := by unfold j3; rw [if_neg (by omega)]
    rw [Ra] at ZI
    dsimp only at zi wH ⊢
    split
    ·exact h.bJ (g := -1) m0 m1 hi i0 i1 hg (by simp) Qk Mq (fun a => by have := SX a; rw [YK] at this; exact this) (fun e => by cases e) (fun _ => rfl) (by omega) wH
    ·rename_i T5
     have hne : v.toNat ≠ i.toNat := by omega
     have epi : aB { x with ps := x.ps.set i.toNat { aB x i with q := q1 }, gl := g1, d := d2 } i = { aB x i with q := q1 } := c7 (by omega)
     have epv : aB { x with ps := x.ps.set i.toNat { aB x i with q := q1 }, gl := g1, d := d2 } v = aB x v := getD_set_ne hne
     have JH := qF (x := x) (i := v) ZI.1 (by omega)
     have YL := List.mem_of_getElem? JH
     have J2 := h.Qi YL
     have Ql := h.room _ YL
     have hst := Ga q1 (aB x v).q J2 o1.1
     have Uc := Ju o1 Ql
     have hsp := Gb (x := q1) J2 o1.1
     rw [epi, epv]
     dsimp only
     generalize q1.cT (aB x v).q = s at hst Uc hsp
     obtain ⟨s1, s2, s3⟩ := s
     dsimp only at hst Uc hsp ⊢
     have hz : Sc.b7 (Sc.b7 { x with ps := x.ps.set i.toNat { aB x i with q := q1 }, gl := g1, d := d2 } i { aB x i with q := s1 }) v { aB x v with q := s2 } = { x with ps := (x.ps.set i.toNat { aB x i with q := s1 }).set v.toNat { aB x v with q := s2 }, gl := g1, d := d2 } := by
      unfold Sc.b7
      dsimp only
      rw [List.set_set]
     rw [hz]
     refine h.bJ (g := s3) m0 m1 hi i0 i1 hg (by simp) (fun pr hp => ?_) (fun j => ?_) (fun a => ?_) (fun e => ?_) (fun e => ?_) (by omega) wH
     ·rcases List.mem_or_eq_of_mem_set hp with hp | rfl
      ·rcases List.mem_or_eq_of_mem_set hp with hp | rfl
       ·exact ⟨h.room pr hp, h.cZ pr hp⟩
       ·exact ⟨Uc.1, ht⟩
      ·exact ⟨Uc.2, h.cZ (aB x v) YL⟩
     ·by_cases e : j = v.toNat
      ·subst e
       rw [c7 (by simp; omega)]
       rfl
      ·rw [getD_set_ne e]
       by_cases e2 : j = i.toNat
       ·subst e2
        rw [c7 (by omega)]
        rfl
       ·rw [getD_set_ne e2]
     ·have a1 := vS { aB x i with q := s1 } a
      have a2 := oc (ps := x.ps.set i.toNat { aB x i with q := s1 }) (a := a) (Nw := { aB x v with q := s2 }) (j := v.toNat) (pr := aB x v) (by rw [List.getElem?_set_ne (Ne.symm hne)]; exact JH)
      have a3 := hst a
      have a4 := o2 a
      rw [YK] at a4
      simp only [List.count_nil] at a4
      dsimp only at *
      omega
     ·unfold ir at e
      rcases hsp with ⟨e1, e2⟩ | ⟨_, e2⟩
      ·rw [e1] at e
       have h1 := J2.1
       simp at e
       omega
      ·exact e2
     ·unfold ir at e
      simp only [Bool.or_eq_false_iff, bne_eq_false_iff_eq] at e
      rw [e.1]; rfl
  ·rename_i hh
   exact h.bJ (g := v1) m0 m1 hi i0 i1 hg (by simp) Qk Mq SX o3 (fun e => by rw [o4 e]; rfl) (by omega) hk
end
section
variable {p : cf} {N : Nat} {x y z : Sc} {m i g a kind : Int}
theorem y4 : ∀ (l : List Int) (z : Sc), 0 ≤ (av z m).p → (av z m).p < z.ps.length → (∀ v ∈ l, 0 ≤ v) → (∀ pr ∈ z.ps, GY pr.q) →
  (∀ a, jB (l.foldl (aI m) z).ps a + (l.foldl (aI m) z).gl.count a = jB z.ps a + z.gl.count a + l.count a) ∧
  (∀ pr ∈ (l.foldl (aI m) z).ps, GY pr.q) ∧ (∀ j : Nat, ((l.foldl (aI m) z).ps.getD j qK).fS = (z.ps.getD j qK).fS ∧ ((l.foldl (aI m) z).ps.getD j qK).turns = (z.ps.getD j qK).turns)
 | [], z, _, _, _, hr => ⟨fun a => by simp, hr, fun j => ⟨rfl, rfl⟩⟩
 | r :: l, z, h0, h1, hv, hr => by
  have kJ := qF (x := z) h0 h1
  have hps : (aI m z r).ps.length = z.ps.length := by simp [aI, Sc.b7]
  have kL : av (aI m z r) m = av z m := rfl
  have hrm := hr _ (List.mem_of_getElem? kJ)
  have No : ∀ pr ∈ (aI m z r).ps, GY pr.q := fun pr hp => by
   rcases List.mem_or_eq_of_mem_set hp with hp | rfl
   ·exact hr pr hp
   ·exact Jr hrm _ _
  obtain ⟨a1, a2, a3⟩ := y4 l (aI m z r) (by rw [kL]; exact h0) (by rw [kL, hps]; exact h1) (fun v hm => hv v (List.mem_cons_of_mem _ hm)) No
  rw [List.foldl_cons]
  refine ⟨fun a => ?_, a2, fun j => ?_⟩
  ·have b1 := a1 a
   have b2 := F8 (aB z (av z m).p).q r (by have := hv r (by simp); omega) z.gl a
   have b3 := oc (a := a) (Nw := { aB z (av z m).p with q := ((aB z (av z m).p).q.ready r z.gl).1 }) kJ
   have b4 : jB (aI m z r).ps a = jB (z.ps.set (av z m).p.toNat { aB z (av z m).p with q := ((aB z (av z m).p).q.ready r z.gl).1 }) a := rfl
   have b5 : (aI m z r).gl = ((aB z (av z m).p).q.ready r z.gl).2.1 := rfl
   rw [b4, b5] at b1
   simp only [List.count_cons, List.count_nil] at *
   try dsimp only at *
   omega
  ·obtain ⟨c1, c2⟩ := a3 j
   rw [c1, c2]
   show ((z.ps.set (av z m).p.toNat _).getD j qK).fS = _ ∧ ((z.ps.set (av z m).p.toNat _).getD j qK).turns = _
   by_cases e : j = (av z m).p.toNat
   ·subst e
    rw [c7 (by omega)]
    exact ⟨rfl, rfl⟩
   ·rw [getD_set_ne e]
    exact ⟨rfl, rfl⟩
theorem Mr {w y : Wd} (hy : WV p y) (h : gr g w y) : y.ready.length ≤ 100 := by
 have h1 := oI (b := 1) y.gs.length y.ready (fun v hv => ⟨(h.2.2.1 v hv).1, (h.2.2.1 v hv).2.1⟩) (fun v => List.nodup_iff_count.1 h.1 v)
 have := hy.n2
 omega
theorem Qm {w y : Wd} (h : gr g w y) (h0 : 0 ≤ g) (hg : g < w.gs.length) : (At y a 1 ↔ (a = g ∧ (ae y g).st = 1) ∨ a ∈ y.ready ∨ (a ≠ g ∧ At w a 1)) := by
 obtain ⟨_, a2, a3, a4, a5, a6⟩ := h
 constructor
 ·rintro ⟨b1, b2, b3⟩
  by_cases e : a = g
  ·exact .inl ⟨e, by rw [← e]; exact b3⟩
  ·by_cases er : a ∈ y.ready
   ·exact .inr (.inl er)
   ·refine .inr (.inr ⟨e, b1, ?_, by rw [← a4 a b1 e er]; exact b3⟩)
    by_cases hl : a < w.gs.length
    ·exact hl
    ·exact absurd (a6 a (by omega) b2) er
 ·rintro (⟨rfl, e⟩ | e | ⟨e, b1, b2, b3⟩)
  ·exact ⟨h0, by omega, e⟩
  ·exact ⟨(a3 a e).1, (a3 a e).2.1, (a3 a e).2.2.2⟩
  ·by_cases er : a ∈ y.ready
   ·exact ⟨(a3 a er).1, (a3 a er).2.1, (a3 a er).2.2.2⟩
   ·exact ⟨b1, by omega, by rw [a4 a b1 e er]; exact b3⟩
theorem SV.gL {d' : kI} {y : Wd} {rest : Bool} (h : SV p N x) (m0 : 0 ≤ m) (m1 : m < x.ms.length) (hp : (av x m).p ≠ -1) (hg : 0 ≤ (av x m).g) (hy : WV p y) (hr : gr (av x m).g { x.w with ready := [] } y)
  (hd : d'.taken.length ≤ 3 * N + 3) (hk : d'.k.Ok) {d0 : kI} : ∃ z o, gL { x with d := d0 } m (av x m).g d' y rest = some (z, o) ∧ SV p (N + 1) z ∧ z.steps = x.steps := by
 have kL := jq m0 m1
 have Mn := List.mem_of_getElem? kL
 have y3 := h.ms _ Mn
 have JV := h.mg Mn hg
 have hbd : 0 ≤ (av x m).p ∧ (av x m).p < x.ps.length ∧ 1 ≤ (av x m).left ∧ (av x m).left ≤ 1024 := by
  rcases y3 with e | e
  ·exact absurd e.1 hp
  ·have := e.2.2.2.2.2 hg; omega
 obtain ⟨i0, i1, l0, l1⟩ := hbd
 have je := Mr hy hr
 have YM : (av x m).g < y.gs.length := by have := hr.2.2.2.2.1; have := JV.2.1; dsimp only at *; omega
 unfold Proofs.gL
 rw [if_pos ⟨by omega, YM⟩]
 have f1 := gd (m := m) y.ready { x with w := y, d := d' } i0 i1
 have f2 := y4 (m := m) y.ready { x with w := y, d := d' } i0 i1 (fun v hv => (hr.2.2.1 v hv).1) h.room
 (try dsimp only at f1 f2 ⊢)
 generalize List.foldl (aI m) { x with w := y, d := d' } y.ready = z at f1 f2
 obtain ⟨z1, z2, z3, z4, z5, z6, _⟩ := f1
 obtain ⟨c1, c2, c3⟩ := f2
 have Tm := fun a => Qm (a := a) hr hg JV.2.1
 have NG : ∀ a, a ∈ y.ready → ¬ At x.w a 1 ∧ a ≠ (av x m).g ∧ y.ready.count a = 1 := fun a ha =>
  ⟨(hr.2.2.1 a ha).2.2.1, fun e => hr.2.1 (e ▸ ha), Nat.le_antisymm (List.nodup_iff_count.1 hr.1 a) (List.count_pos_iff.2 ha)⟩
 have Tn : ∀ pr ∈ z.ps, 0 ≤ pr.turns ∧ pr.turns ≤ N := fun pr kJ => by
  obtain ⟨j, hj, e⟩ := List.getElem_of_mem kJ
  have e2 : z.ps.getD j qK = pr := by rw [List.getD_eq_getElem?_getD, List.getElem?_eq_getElem hj, e]; rfl
  have Kh : j < x.ps.length := by omega
  have e3 : x.ps.getD j qK = x.ps[j] := by rw [List.getD_eq_getElem?_getD, List.getElem?_eq_getElem Kh]; rfl
  have := (c3 j).2
  rw [e2, e3] at this
  rw [this]
  exact h.cZ _ (List.getElem_mem Kh)
 have done : ∀ (sv : xl) (Gy : List Int), sv.p = (av x m).p → 0 ≤ sv.left → sv.left ≤ 1024 → -1 ≤ sv.g → (0 ≤ sv.g → 1 ≤ sv.left) →
   (∀ a, Gy.count a + (gR sv.g).count a = z.gl.count a + (if (ae y (av x m).g).st = 1 then [(av x m).g].count a else 0)) →
   SV p (N + 1) { z with ms := z.ms.set m.toNat sv, gl := Gy } := by
  intro sv Gy e1 e2 e3 e4 e5 e6
  have hS : ∀ a, jC { z with ms := z.ms.set m.toNat sv, gl := Gy } a + [(av x m).g].count a = jC x a + y.ready.count a + (if (ae y (av x m).g).st = 1 then [(av x m).g].count a else 0) := fun a => by
   have q1 := wV (a := a) (sv := sv) kL
   have q2 := c1 a
   have q3 := e6 a
   rw [gI hg] at q1
   unfold jC
   (try dsimp only)
   rw [z1]
   (try dsimp only at q2)
   omega
  have YN : z.w = y := z3
  refine ⟨by (try dsimp only); rw [YN]; exact hy, fun a ha => ?_, fun a ha => ?_, by (try dsimp only); rw [z5, z2]; exact h.cP, by (try dsimp only); rw [z5, z1]; simpa using h.cM, by (try dsimp only); rw [z2]; exact h.P1, by (try dsimp only); rw [z1]; simpa using h.M1, by (try dsimp only); rw [z5]; exact h.cS, c2, fun pr kJ => by have := Tn pr kJ; omega, fun mc J3 => ?_, fun j mc hj hne => ?_, by have := h.st; (try dsimp only); rw [z6]; (try dsimp only); omega, by (try dsimp only); rw [z4]; (try dsimp only); omega, by (try dsimp only); rw [z4]; exact hk⟩
  ·(try dsimp only at ha)
   rw [YN] at ha
   have hs := hS a
   rcases (Tm a).1 ha with ⟨e, es⟩ | e | ⟨e, ew⟩
   ·subst e
    have n1 : y.ready.count (av x m).g = 0 := List.count_eq_zero.2 hr.2.1
    have n2 := h.one _ JV
    rw [if_pos es] at hs
    omega
   ·obtain ⟨w1, w2, w3⟩ := NG a e
    have n2 := h.zero a w1
    have n3 : [(av x m).g].count a = 0 := List.count_eq_zero.2 (by simpa using w2)
    rw [n3] at hs
    have : (if (ae y (av x m).g).st = 1 then 0 else 0) = 0 := by split <;> rfl
    omega
   ·have n3 : [(av x m).g].count a = 0 := List.count_eq_zero.2 (by simpa using e)
    have n2 := h.one a ew
    have n1 : y.ready.count a = 0 := List.count_eq_zero.2 (fun e2 => (NG a e2).1 ew)
    rw [n3] at hs
    have : (if (ae y (av x m).g).st = 1 then 0 else 0) = 0 := by split <;> rfl
    omega
  ·(try dsimp only at ha)
   rw [YN] at ha
   have hs := hS a
   have hn := fun e => ha ((Tm a).2 e)
   by_cases e : a = (av x m).g
   ·subst e
    have n1 : y.ready.count (av x m).g = 0 := List.count_eq_zero.2 hr.2.1
    have n2 := h.one _ JV
    have n3 : [(av x m).g].count (av x m).g = 1 := by simp
    rw [if_neg (fun es => hn (.inl ⟨rfl, es⟩))] at hs
    omega
   ·have n3 : [(av x m).g].count a = 0 := List.count_eq_zero.2 (by simpa using e)
    have n2 := h.zero a (fun ew => hn (.inr (.inr ⟨e, ew⟩)))
    have n1 : y.ready.count a = 0 := List.count_eq_zero.2 (fun e2 => hn (.inr (.inl e2)))
    rw [n3] at hs
    have : (if (ae y (av x m).g).st = 1 then 0 else 0) = 0 := by split <;> rfl
    omega
  ·(try dsimp only at J3 ⊢)
   rw [z2]
   rw [z1] at J3
   rcases hU J3 with J3 | rfl
   ·exact h.ms mc J3
   ·exact .inr ⟨by omega, by (try dsimp only); omega, e4, e2, e3, e5⟩
  ·(try dsimp only at hj)
   rw [z1] at hj
   show (z.ps.getD mc.p.toNat qK).fS = _
   rw [(c3 _).1]
   by_cases e : j = m.toNat
   ·subst e
    rw [List.getElem?_set_self (by (try dsimp only); omega)] at hj
    simp only [Option.some.injEq] at hj
    subst hj
    rw [e1]
    exact h.fS m.toNat _ kL hp
   ·rw [List.getElem?_set_ne (Ne.symm e)] at hj
    exact h.fS j mc hj hne
 have YO : av z m = av x m := by unfold av; rw [z1]
 have hzs : z.steps = x.steps := z6
 unfold Sc.nY
 rw [YO]
 split
 ·rename_i hkp
  refine ⟨_, _, rfl, ?_, hzs⟩
  have hst : (ae y (av x m).g).st = 1 := by
   have := hkp.1
   unfold dg at this
   simp only [Bool.and_eq_true, beq_iff_eq] at this
   exact this.2
  exact done { av x m with left := (av x m).left - 1 } z.gl rfl (by (try dsimp only); omega) (by (try dsimp only); omega) (by (try dsimp only); omega) (fun _ => by (try dsimp only); omega) (fun a => by rw [if_pos hst]; (try dsimp only); rw [gI hg])
 ·refine ⟨_, _, rfl, ?_, hzs⟩
  refine done { av x m with left := (av x m).left - 1, g := -1 } _ rfl (by (try dsimp only); omega) (by (try dsimp only); omega) (by (try dsimp only); omega) (fun e => by (try dsimp only at e); omega) (fun a => ?_)
  have e1 : gR (-1) = [] := rfl
  (try dsimp only)
  rw [e1, z3]
  split
  ·rw [List.count_append]; simp
  ·simp
end
section
variable {p : cf} {N : Nat} {x y z : Sc} {m i g a kind : Int}
theorem SV.J4 (h : SV p N x) {r : List Int} {d' : kI} (hd : d'.taken.length ≤ 3 * N + 3) (hk : d'.k.Ok) : SV p (N + 1) { x with w := { x.w with ready := r }, d := d' } :=
 ⟨h.w.ready, h.one, h.zero, h.cP, h.cM, h.P1, h.M1, h.cS, h.room, fun pr hp => by have := h.cZ pr hp; omega, h.ms, h.fS, by have := h.st; dsimp only; omega, by dsimp only; omega, hk⟩
theorem SV.run {d' : kI} (h : SV p N x) (hp : eV p) (m0 : 0 ≤ m) (m1 : m < x.ms.length) (hmp : (av x m).p ≠ -1) (hg : (av x m).g ≠ -1) (hN : N ≤ 1000000) (hd : d'.taken.length ≤ 3 * N + 1) (hk : d'.k.Ok) :
  ∃ z o, Sc.run p { x with d := d' } m = some (z, o) ∧ SV p (N + 1) z ∧ z.steps = x.steps := by
 have kL := jq m0 m1
 have Mn := List.mem_of_getElem? kL
 have y3 := h.ms _ Mn
 have hbd : 0 ≤ (av x m).p ∧ (av x m).p < x.ps.length ∧ 0 ≤ (av x m).g ∧ 1 ≤ (av x m).left ∧ (av x m).left ≤ 1024 := by
  rcases y3 with e | e
  ·exact absurd e.1 hmp
  ·have := e.2.2.2.2.2; omega
 obtain ⟨i0, i1, g0, l0, l1⟩ := hbd
 have JV := h.mg Mn g0
 unfold Sc.run
 have em : av { x with d := d' } m = av x m := rfl
 rw [em]
 rw [if_pos (show wG p { x with d := d' } m from ⟨m0, m1, i0, i1, by have := h.Qj; dsimp only; omega, by dsimp only; omega, l0, by show (av x m).left < 1000000000; omega, g0⟩)]
 dsimp only
 generalize uH : asks p { x.w with ready := [] } (av x m).g = ak
 have ZJ : ∀ k n, ak = some (k, n) → 1 ≤ n ∧ n < 1099511627776 := fun k n e => Mk hp (by rw [uH]; exact e)
 rw [if_pos (show JJ ak = true from by
  cases ak with
  | none => rfl
  | some kn => obtain ⟨k, n⟩ := kn; have := ZJ k n rfl; exact decide_eq_true (by omega))]
 have wg : ∀ d2 dr, dU d' ak = (d2, dr) → d2.k.Ok ∧ d2.taken.length ≤ 3 * N + 2 ∧ (∀ v kd n, dr = .num v → ak = some (kd, n) → 0 ≤ v ∧ v < n) := by
  intro d2 dr e
  cases ak with
  | none =>
   unfold dU at e
   cases e
   exact ⟨hk, by omega, fun v kd n _ e => by cases e⟩
  | some kn =>
   obtain ⟨k, n⟩ := kn
   unfold dU at e
   dsimp only at e
   have a1 := lT (kind := k) (n := n) hk
   have a2 := wW (k := k) (n := n) hk
   rw [e] at a1 a2
   dsimp only at a1 a2
   refine ⟨a1, by omega, fun v kd n' e1 e2 => ?_⟩
   subst e1
   cases e2
   have := nX hk e
   have hb := ZJ _ _ rfl
   rw [show j3 n = n from by unfold j3; rw [if_neg (by omega)]] at this
   exact ⟨this.1, this.2.1⟩
 generalize uk : dU d' ak = dd at wg
 obtain ⟨d2, dr⟩ := dd
 obtain ⟨k2, t2, v2⟩ := wg d2 dr rfl
 dsimp only
 obtain ⟨r, rest, hex, hres⟩ := B7 (d := dr) h.w hp g0 (fun v kd n e1 e2 => v2 v kd n e1 (by rw [← uH]; exact e2))
 rw [hex]
 rcases hres with ⟨hres, _⟩ | ⟨l, e1, e2, _⟩
 ·cases r with
  | on y => exact h.gL m0 m1 hmp g0 hres.1 hres.2 (by omega) k2
  | dy n y => exact h.gL (y := { y with end_ := 2, code := n }) m0 m1 hmp g0 (hres.1.fin (e := 2) (c := n)) (hres.2.GD rfl rfl fun _ _ _ => rfl) (by omega) k2
  | cG l y => exact hres.elim
 ·subst e2
  exact ⟨_, _, rfl, h.J4 (by omega) k2, rfl⟩
theorem SV.step (h : SV p N x) (hp : eV p) (hN : N ≤ 1000000) : ∃ y o, x.step p = some (y, o) ∧ SV p (N + 1) y := by
 have hst := h.st
 have P5 := h.tk
 have hM := h.cM
 have hM1 := h.M1
 have hP1 := h.P1
 unfold Sc.step
 rw [if_pos (show uX x from ⟨by have := h.w.n2; omega, hM, by omega, by omega, by omega, hst.1, by omega⟩)]
 split
 ·exact ⟨_, _, rfl, h.mono (by omega)⟩
 ·rename_i hs
  have zi := wW (k := 1) (n := x.c.M + 1) h.k
  have wH := lT (kind := 1) (n := x.c.M + 1) h.k
  split
  ·rename_i d' l uk
   rw [uk] at zi wH
   dsimp only at zi wH
   exact ⟨_, _, rfl, h.draw (by omega) wH⟩
  ·rename_i d' m uk
   rw [uk] at zi wH
   dsimp only at zi wH
   have hv := nX h.k uk
   rw [show j3 (x.c.M + 1) = x.c.M + 1 from by unfold j3; rw [if_neg (by omega)]] at hv
   obtain ⟨m0, mM, _⟩ := hv
   have fin : ∀ z o, SV p (N + 1) z → z.steps = x.steps → ∃ y o', Option.map xL (some (z, o)) = some (y, o') ∧ SV p (N + 1) y := fun z o hz hzs => by
    cases o with
    | ev e => exact ⟨_, _, rfl, hz.inc (by rw [hzs]; exact hst)⟩
    | cG l => exact ⟨_, _, rfl, hz⟩
   unfold Sc.act
   dsimp only
   split
   ·obtain ⟨t1, t2, t3⟩ := h.tick (d' := d') (by omega) wH
    rw [if_pos t1]
    exact fin _ _ t2 t3
   ·rename_i hmM
    have m1 : m < x.ms.length := by omega
    have em : av { x with d := d' } m = av x m := rfl
    rw [em]
    split
    ·rename_i hmp
     obtain ⟨t2, t3⟩ := h.hold (d' := d') m0 m1 hmp (by omega) wH
     exact fin _ _ t2 t3
    ·rename_i hmp
     split
     ·rename_i NH
      obtain ⟨t1, t2, t3⟩ := h.find (d' := d') m0 m1 hmp NH (by omega) (by omega) wH
      rw [if_pos t1]
      exact fin _ _ t2 t3
     ·rename_i NH
      obtain ⟨z, o, t1, t2, t3⟩ := h.run (d' := d') hp m0 m1 hmp NH hN (by omega) wH
      rw [t1]
      exact fin _ _ t2 t3
theorem SV.new {c : Nv} {d : kI} (hp : eV p) (hP : 1 ≤ c.P ∧ c.P ≤ 64) (hM : 1 ≤ c.M ∧ c.M ≤ 64) (hS : 1 ≤ c.S ∧ c.S ≤ 1024) (hd : d.taken = []) (hk : d.k.Ok) : SV p 0 (Sc.new p c d) := by
 have hw := Qh hp
 have hA : ∀ a, At (Wd.new p) a 1 ↔ a = 0 := fun a => by
  constructor
  ·rintro ⟨b1, b2, _⟩
   simp [Wd.new] at b2
   omega
  ·rintro rfl
   exact ⟨by decide, by simp [Wd.new], rfl⟩
 have hQ : ∀ a, jB (List.replicate c.P.toNat ⟨⟨-1, fx c.R, []⟩, 0, -1⟩) a = 0 := fun a => by
  unfold jB
  rw [List.count_eq_zero]
  intro hm
  obtain ⟨q, hq, h2⟩ := List.mem_flatMap.1 hm
  obtain ⟨pr, kJ, rfl⟩ := List.mem_map.1 hq
  rw [List.eq_of_mem_replicate kJ] at h2
  simp [Loc.all] at h2
 have hMm : ∀ a, zV (List.replicate c.M.toNat ⟨-1, -1, 0⟩) a = 0 := fun a => by
  unfold zV
  rw [List.count_eq_zero]
  intro hm
  obtain ⟨q, hq, h2⟩ := List.mem_flatMap.1 hm
  rw [List.eq_of_mem_replicate hq] at h2
  simp [gR] at h2
 have hC : ∀ a, jC (Sc.new p c d) a = [(0 : Int)].count a := fun a => by
  unfold jC Sc.new
  dsimp only
  rw [hQ, hMm]; omega
 have cap := Ew c.R
 refine ⟨hw, fun a ha => ?_, fun a ha => ?_, by simp [Sc.new]; omega, by simp [Sc.new]; omega, by simp [Sc.new]; omega, by simp [Sc.new]; omega, hS, fun pr kJ => ?_, fun pr kJ => ?_, fun mc kL => ?_, fun j mc hj hne => ?_, by simp [Sc.new], by simp [Sc.new, hd], hk⟩
 ·rw [hC, (hA a).1 ha]; rfl
 ·rw [hC]
  exact List.count_eq_zero.2 (fun e => ha ((hA a).2 (by simpa using e)))
 ·rw [List.eq_of_mem_replicate kJ]
  exact ⟨by simp, cap.2, cap.1⟩
 ·rw [List.eq_of_mem_replicate kJ]
  simp
 ·rw [List.eq_of_mem_replicate kL]
  exact .inl ⟨rfl, rfl, rfl⟩
 ·have := List.eq_of_mem_replicate (List.mem_of_getElem? hj)
  rw [this] at hne
  exact absurd rfl hne
end
section
variable {p : cf} {N i : Nat} {x y z : Sc} {g a v : Int} {l : List Int}
structure One (l : List Int) (i : Nat) (x : Sc) : Prop where
 ps : x.ps.length = 1
 ms : x.ms.length = 1
 fS : (av x 0).p = -1 → (aB x 0).fS = -1
 k : x.d.k = .qz l i
inductive To (p : cf) (x y : Sc) : Prop where
 | held (h : (av x 0).p = -1) (hw : y.w = x.w) (h1 : (av y 0).p = 0) (h2 : (av y 0).g = -1) (hg : y.gl = x.gl)
 | next (h : (av x 0).p = 0) (h0 : (av x 0).g = -1) (hw : y.w = x.w) (h1 : (av y 0).p = 0) (h2 : (av y 0).g = (aB x 0).q.next) (h3 : (aB x 0).q.next ≠ -1)
 | own (h : (av x 0).p = 0) (h0 : (av x 0).g = -1) (hw : y.w = x.w) (h1 : (av y 0).p = 0) (h2 : (av y 0).g = (fZ (aB x 0).q (aB x 0).turns x.gl).2.2.1) (h3 : (fZ (aB x 0).q (aB x 0).turns x.gl).2.2.2 = true) (ht : (aB y 0).turns = (aB x 0).turns + 1)
 | BT (h : (av x 0).p = 0) (h0 : (av x 0).g = -1) (hw : y.w = x.w) (h1 : (av y 0).p = -1) (h2 : (av y 0).g = -1) (h3 : (fZ (aB x 0).q (aB x 0).turns x.gl).2.2.2 = false) (hg : y.gl = (fZ (aB x 0).q (aB x 0).turns x.gl).2.1)
 | Q2 (w : Wd) (keep : Bool) (h : (av x 0).p = 0) (h0 : 0 ≤ (av x 0).g) (he : exec p x.w (av x 0).g (.num 0) = some (w, keep)) (hw : y.w = w) (h1 : (av y 0).p = 0)
   (h2 : keep = true ∧ (av y 0).g = (av x 0).g ∨ (av y 0).g = -1 ∧ ((ae w (av x 0).g).st = 1 → y.gl.getLast? = some (av x 0).g)) (ht : (aB y 0).turns = (aB x 0).turns)
theorem Tp (h : SV p N x) (o : One l i x) : (av x 0).p = -1 ∨ (av x 0).p = 0 := by
 have h1 := o.ms
 have y3 := h.ms _ (List.mem_of_getElem? (jq (x := x) (m := 0) (by omega) (by omega)))
 rw [o.ps] at y3
 rcases y3 with e | e
 ·exact .inl e.1
 ·omega
theorem gM (h : x.ms.length = 1) {c : xl} : av (x.eT 0 c) 0 = c := by simp [av, Sc.eT, h]
theorem Ms {c : xl} : aB (x.eT 0 c) 0 = aB x 0 := rfl
theorem kQ {c : xl} : (x.eT 0 c).ms.length = x.ms.length := by simp [Sc.eT]
theorem J5 {c : cV} : (x.b7 0 c).ps.length = x.ps.length := by simp [Sc.b7]
theorem J6 (h : z.ps.length = 1) (h2 : x.ps.length = 1) (e : bF [0] z.ps = bF [0] x.ps) : (aB z 0).turns = (aB x 0).turns := by
 obtain ⟨a, ha⟩ := List.length_eq_one_iff.1 h
 obtain ⟨b, hb⟩ := List.length_eq_one_iff.1 h2
 rw [ha, hb] at e
 simp only [bF, List.zipWith_cons_cons, List.zipWith_nil_left, List.cons.injEq, Prod.mk.injEq] at e
 unfold aB
 rw [ha, hb]
 exact e.1.2.1
theorem Mt {d' : kI} (h : SV p N x) (o : One l i x) (hx : (av x 0).p = 0) (hg : 0 ≤ (av x 0).g) (ha : asks p { x.w with ready := [] } (av x 0).g = none) {e : kK}
  (hp : eV p) (hr : Sc.run p { x with d := d' } 0 = some (y, e)) : (∃ e', e = .ev e') ∧ y.ps.length = 1 ∧ y.ms.length = 1 ∧ y.d = d' ∧ To p x y := by
 have o1 := o.ps
 have o2 := o.ms
 unfold Sc.run at hr
 have em : av { x with d := d' } 0 = av x 0 := rfl
 rw [em] at hr
 split at hr
 ·dsimp only at hr
  rw [ha] at hr
  rw [if_pos (show JJ none = true from rfl)] at hr
  have ea : dU d' none = (d', .num 0) := rfl
  rw [ea] at hr
  dsimp only at hr
  have key : ∀ (r : Out Wd) (w : Wd) (rest : Bool), exec p x.w (av x 0).g (.num 0) = some (w, dg w (av x 0).g rest) → gL { x with d := d' } 0 (av x 0).g d' w rest = some (y, e) →
    (∃ e', e = .ev e') ∧ y.ps.length = 1 ∧ y.ms.length = 1 ∧ y.d = d' ∧ To p x y := by
   intro r w rest hex hro
   unfold gL at hro
   split at hro
   ·have f1 := gd (m := 0) w.ready { x with w := w, d := d' } (by show 0 ≤ (av x 0).p; omega) (by show (av x 0).p < x.ps.length; omega)
    generalize List.foldl (aI 0) { x with w := w, d := d' } w.ready = z at f1 hro
    obtain ⟨z1, z2, z3, z4, z5, z6, z7⟩ := f1
    dsimp only at z1 z2 z3 z4 z5 z6 z7
    have f2 := J6 (z2.trans o1) o1 (z7 [0])
    have YO : av z 0 = av x 0 := by unfold av; rw [z1]
    have Tq : z.ms.length = 1 := by rw [z1]; exact o2
    simp only [Option.some.injEq, Prod.mk.injEq] at hro
    obtain ⟨hy, he⟩ := hro
    refine ⟨⟨_, he.symm⟩, ?_⟩
    unfold Sc.nY at hy
    rw [YO] at hy
    split at hy
    ·rename_i hkp
     subst hy
     refine ⟨by rw [← z2.trans o1]; rfl, by rw [kQ]; exact Tq, z4, .Q2 w _ hx hg hex z3 (by rw [gM Tq]; exact hx) (.inl ⟨hkp.1, by rw [gM Tq]⟩) (by rw [Ms]; exact f2)⟩
    ·subst hy
     have e1 : ∀ (c : xl) (gl : List Int), av { z.eT 0 c with gl := gl } 0 = c := fun c gl => gM (x := z) Tq
     refine ⟨by rw [← z2.trans o1]; rfl, (kQ (x := z)).trans Tq, z4, .Q2 w _ hx hg hex z3 (by rw [e1]; exact hx) (.inr ⟨by rw [e1], fun hs => ?_⟩) (by exact f2)⟩
     dsimp only
     rw [z3, if_pos hs]
     simp
   ·cases hro
  have Tr : ∀ r rest, jO p x.w (av x 0).g (.num 0) = some (r, rest) → exec p x.w (av x 0).g (.num 0) = match r with
    | .on y => some (y, dg y (av x 0).g rest)
    | .dy n y => some ({ y with end_ := 2, code := n }, dg { y with end_ := 2, code := n } (av x 0).g rest)
    | .cG _ _ => none := fun r rest e1 => by
   unfold exec
   rw [e1]
   cases r <;> rfl
  split at hr
  ·cases hr
  ·rename_i l1 y1 rest he
   exfalso
   obtain ⟨r2, ZK, hex, hres⟩ := B7 (d := .num 0) h.w hp hg (fun v kd n e1 e2 => by rw [ha] at e2; cases e2)
   rw [he] at hex
   cases hex
   rcases hres with ⟨hres, _⟩ | ⟨l3, e1, _⟩
   ·exact hres.elim
   ·cases e1
  ·rename_i y1 rest he
   exact key (.on y1) y1 rest (Tr _ _ he) hr
  ·rename_i n1 y1 rest he
   exact key (.on y1) _ rest (Tr _ _ he) hr
 ·cases hr
theorem J7 (h : SV p N x) (hp : eV p) (hN : N ≤ 1000000) (o : One l i x) (hs : x.status = 0) (hi : l[i]? = some v) (hv : Int.tmod v 2 = 0) (ha : 0 ≤ (av x 0).g → asks p { x.w with ready := [] } (av x 0).g = none) :
  ∃ y e, x.step p = some (y, .ev e) ∧ SV p (N + 1) y ∧ One l (i + 1) y ∧ To p x y := by
 obtain ⟨y, oo, hst, Q3⟩ := h.step hp hN
 have o1 := o.ps
 have o2 := o.ms
 have hM := h.cM
 have hP := h.cP
 have hx := Tp h o
 suffices hh : (∃ e', oo = .ev e') ∧ y.ps.length = 1 ∧ y.ms.length = 1 ∧ y.d.k = .qz l (i + 1) ∧ ((av y 0).p = -1 → (aB y 0).fS = -1) ∧ To p x y by
  obtain ⟨⟨e, rfl⟩, h1, h2, h3, h4, h5⟩ := hh
  exact ⟨y, e, hst, Q3, ⟨h1, h2, h4, h3⟩, h5⟩
 unfold Sc.step at hst
 split at hst
 ·rw [if_neg (by omega)] at hst
  have wg : x.d.draw 1 (x.c.M + 1) = (⟨.qz l (i + 1), x.d.taken ++ [(1, 0)]⟩, .num 0) := by
   unfold kI.draw gv.next
   rw [o.k, hM, o2]
   dsimp only
   rw [hi]
   dsimp only
   rw [show j3 (((1 : Nat) : Int) + 1) = 2 from rfl, hv]
  rw [wg] at hst
  dsimp only at hst
  cases hac : Sc.act p { x with d := ⟨.qz l (i + 1), x.d.taken ++ [(1, 0)]⟩ } 0 with
  | none => rw [hac] at hst; cases hst
  | some w =>
   obtain ⟨w, e⟩ := w
   rw [hac] at hst
   simp only [Option.map_some, Option.some.injEq] at hst
   suffices hw : (∃ e', e = .ev e') ∧ w.ps.length = 1 ∧ w.ms.length = 1 ∧ w.d.k = .qz l (i + 1) ∧ ((av w 0).p = -1 → (aB w 0).fS = -1) ∧ To p x w by
    obtain ⟨⟨e', rfl⟩, h1, h2, h3, h4, h5⟩ := hw
    unfold xL at hst
    dsimp only at hst
    simp only [Prod.mk.injEq] at hst
    obtain ⟨rfl, rfl⟩ := hst
    refine ⟨⟨_, rfl⟩, h1, h2, h3, h4, ?_⟩
    cases h5 with
    | held a1 a2 a3 a4 a5 => exact .held a1 a2 a3 a4 a5
    | next a1 a2 a3 a4 a5 a6 => exact .next a1 a2 a3 a4 a5 a6
    | own a1 a2 a3 a4 a5 a6 a7 => exact .own a1 a2 a3 a4 a5 a6 a7
    | BT a1 a2 a3 a4 a5 a6 a7 => exact .BT a1 a2 a3 a4 a5 a6 a7
    | Q2 w' k' a1 a2 a3 a4 a5 a6 a7 => exact .Q2 w' k' a1 a2 a3 a4 a5 a6 a7
   unfold Sc.act at hac
   dsimp only at hac
   rw [if_neg (by omega)] at hac
   have em : av { x with d := ⟨.qz l (i + 1), x.d.taken ++ [(1, 0)]⟩ } 0 = av x 0 := rfl
   rw [em] at hac
   split at hac
   ·rename_i hmp
    cases hac
    refine ⟨⟨_, rfl⟩, ?_⟩
    obtain ⟨q, hq⟩ := List.length_eq_one_iff.1 o1
    have hb := o.fS hmp
    have Kf : q.fS = -1 := by unfold aB at hb; rw [hq] at hb; exact hb
    unfold Sc.hold
    dsimp only
    rw [hq]
    rw [show List.findIdx? (fun pr : cV => pr.fS == -1) [q] = some 0 from by simp [Kf]]
    dsimp only
    refine ⟨rfl, by rw [kQ]; exact o2, rfl, fun e => ?_, .held hmp rfl ?_ ?_ rfl⟩
    ·exfalso
     rw [show ((0 : Nat) : Int) = 0 from rfl, gM (by exact o2)] at e
     dsimp only at e
     omega
    ·rw [show ((0 : Nat) : Int) = 0 from rfl, gM (by exact o2)]
    ·rw [show ((0 : Nat) : Int) = 0 from rfl, gM (by exact o2)]
     show (av x 0).g = -1
     have y3 := h.ms _ (List.mem_of_getElem? (jq (x := x) (m := 0) (by omega) (by omega)))
     rcases y3 with e | e
     ·exact e.2.1
     ·omega
   ·rename_i hmp
    have hx0 : (av x 0).p = 0 := by omega
    split at hac
    ·rename_i NH
     split at hac
     ·simp only [Option.some.injEq] at hac
      unfold Sc.find at hac
      rw [em, hx0] at hac
      dsimp only at hac
      have ep : aB { x with d := ⟨.qz l (i + 1), x.d.taken ++ [(1, 0)]⟩ } 0 = aB x 0 := rfl
      rw [ep] at hac
      split at hac
      ·rename_i Ny
       cases hac
       have eg : (aB x 0).q.get.2 = (aB x 0).q.next := by unfold Loc.get; rw [if_pos Ny.2]
       refine ⟨⟨_, rfl⟩, (J5 (x := x)).trans o1, (kQ (x := x)).trans o2, rfl, fun e => ?_, .next hx0 NH rfl ?_ ?_ Ny.2⟩
       ·exfalso
        rw [gM (by exact o2)] at e
        dsimp only at e
        omega
       ·rw [gM (by exact o2)]
        exact hx0
       ·rw [gM (by exact o2)]
        exact eg
      ·rw [if_neg (fun e => by have := e.2; omega)] at hac
       have hown : Sc.own { x with d := ⟨.qz l (i + 1), x.d.taken ++ [(1, 0)]⟩ } 0 = ({ x.b7 0 { aB x 0 with q := (fZ (aB x 0).q (aB x 0).turns x.gl).1 } with gl := (fZ (aB x 0).q (aB x 0).turns x.gl).2.1, d := ⟨.qz l (i + 1), x.d.taken ++ [(1, 0)]⟩ }, (fZ (aB x 0).q (aB x 0).turns x.gl).2.2.1, (fZ (aB x 0).q (aB x 0).turns x.gl).2.2.2) := rfl
       rw [hown] at hac
       unfold Sc.bJ at hac
       dsimp only at hac
       split at hac
       ·rename_i hh
        cases hac
        refine ⟨⟨_, rfl⟩, ?_, (kQ (x := x)).trans o2, rfl, fun e => ?_, .own hx0 NH rfl ?_ ?_ hh ?_⟩
        ·simp [Sc.b7, Sc.eT, o1]
        ·exfalso
         rw [gM (by exact o2)] at e
         exact hmp e
        ·rw [gM (by exact o2)]; exact hx0
        ·rw [gM (by exact o2)]
        ·simp [Sc.b7, Sc.eT, aB, o1]
       ·rename_i hh
        cases hac
        have hh : (fZ (aB x 0).q (aB x 0).turns x.gl).2.2.2 = false := by simpa using hh
        refine ⟨⟨_, rfl⟩, ?_, (kQ (x := x)).trans o2, rfl, fun e => ?_, .BT hx0 NH rfl ?_ ?_ hh rfl⟩
        ·simp [Sc.b7, Sc.eT, o1]
        ·simp [Sc.b7, Sc.eT, aB, o1]
        ·rw [gM (by exact o2)]
        ·rw [gM (by exact o2)]
     ·cases hac
    ·rename_i NH
     have y3 := h.ms _ (List.mem_of_getElem? (jq (x := x) (m := 0) (by omega) (by omega)))
     have hg : 0 ≤ (av x 0).g := by
      rcases y3 with e | e
      ·omega
      ·omega
     obtain ⟨h1, h2, h3, h4, h5⟩ := Mt h o hx0 hg (ha hg) hp hac
     refine ⟨h1, h2, h3, by rw [h4], fun e => ?_, h5⟩
     cases h5 with
     | held a1 => omega
     | next a1 a2 => omega
     | own a1 a2 => omega
     | BT a1 a2 => omega
     | Q2 w' k' a1 a2 a3 a4 a5 => omega
 ·cases hst
theorem Mu {q : Loc} {t : Int} {gl : List Int} (h : (fZ q t gl).2.2.2 = false) (hq : GY q) : q.next = -1 ∧ q.l = [] ∧ gl = [] ∧ (fZ q t gl).2.1 = [] := by
 unfold fZ at h ⊢
 dsimp only at h ⊢
 split at h
 ·cases h
 ·rename_i h1
  rw [if_neg h1]
  split at h
  ·cases h
  ·rename_i h2
   rw [if_neg h2]
   have h2 : (q.cZ gl).1.next = -1 ∧ (q.cZ gl).1.l = [] := by
    simp only [nT, Bool.or_eq_true, bne_iff_ne, ne_eq, Bool.not_eq_true', List.isEmpty_eq_false_iff, not_or, Decidable.not_not] at h2
    exact h2
   have h3 : (q.cZ gl).2.1 = [] := by simpa using h
   by_cases e : q.next = -1
   ·have et : q.cZ gl = (q, gl, 0) := by unfold Loc.cZ; rw [if_pos e]
    rw [et] at h2 h3 ⊢
    dsimp only at h2 h3 ⊢
    refine ⟨e, h2.2, h3, ?_⟩
    subst h3
    unfold Loc.dn
    simp
   ·exfalso
    unfold Loc.cZ Loc.put at h2 h3
    rw [if_neg e] at h2 h3
    dsimp only at h2 h3
    split at h2
    ·simp at h2
    ·rename_i hl
     rw [if_neg hl] at h3
     simp at h3
theorem GH {q : Loc} {t : Int} {gl : List Int} (h : (fZ q t gl).2.2.2 = true) (hq : GY q) (he : (fZ q t gl).2.2.1 = a) (hl : gl.getLast? = some a) (hc : gl.count a = 1) (hn : q.next ≠ a) (hm : a ∉ q.l) (ha : a ≠ -1)
  (ht : ¬ Int.tmod t 7 = 6) : q.next = -1 ∧ q.l = [] ∧ gl = [a] := by
 unfold fZ at h he
 dsimp only at h he
 rw [if_neg (fun e => ht e.1)] at h he
 have hsub : ∀ v ∈ (q.cZ gl).1.l, v ∈ q.l ∨ v = q.next := fun v hv => by
  unfold Loc.cZ Loc.put at hv
  split at hv
  ·exact .inl hv
  ·split at hv
   ·simpa using hv
   ·exact .inl (List.mem_of_mem_drop hv)
 have Ny : (q.cZ gl).1.next = -1 := by
  unfold Loc.cZ Loc.put
  split
  ·assumption
  ·split <;> rfl
 split at h
 ·rename_i hh
  rw [if_pos hh] at he
  exfalso
  unfold Loc.get at he
  rw [if_neg (by rw [Ny]; simp)] at he
  split at he
  ·exact ha he.symm
  ·rename_i v l2 hv
   have := hsub v (by rw [hv]; simp)
   dsimp only at he
   subst he
   rcases this with e | e
   ·exact hm e
   ·exact hn e.symm
 ·rename_i hh
  rw [if_neg hh] at he
  have h2 : (q.cZ gl).1.l = [] := by
   simp only [nT, Bool.or_eq_true, bne_iff_ne, ne_eq, Bool.not_eq_true', List.isEmpty_eq_false_iff, not_or, Decidable.not_not] at hh
   exact hh.2
  by_cases e : q.next = -1
  ·have et : q.cZ gl = (q, gl, 0) := by unfold Loc.cZ; rw [if_pos e]
   rw [et] at h2 he
   dsimp only at h2 he
   have eg : q.get.1 = q := by unfold Loc.get; rw [if_neg (by rw [e]; simp), h2]
   rw [eg] at he
   refine ⟨e, h2, ?_⟩
   unfold Loc.dn at he
   rw [show q.cv gl 0 = 1 from by unfold Loc.cv; rw [if_pos (by omega)]] at he
   cases gl with
   | nil => simp at hl
   | cons b gl =>
    simp only [List.take_succ_cons, List.take_zero] at he
    subst he
    cases gl with
    | nil => rfl
    | cons c gl =>
     exfalso
     rw [List.getLast?_cons_cons] at hl
     have : b ∈ c :: gl := List.mem_of_getLast? hl
     have := List.count_pos_iff.2 this
     rw [List.count_cons_self] at hc
     omega
  ·exfalso
   unfold Loc.cZ Loc.put at h2
   rw [if_neg e] at h2
   dsimp only at h2
   split at h2
   ·simp at h2
   ·rename_i hlen
    simp only [List.drop_eq_nil_iff] at h2
    have := hq.2.2
    omega
end
end Go.Proofs
