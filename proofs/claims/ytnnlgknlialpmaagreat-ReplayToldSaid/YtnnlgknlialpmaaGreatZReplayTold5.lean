/- A part of proofs about one program. -/
import Derived.Test.YtnnlgknlialpmaaGreatZReplayTold4
set_option linter.unusedVariables false
namespace Go.Proofs
open Go.AF
set_option maxRecDepth 100000
set_option maxHeartbeats 1000000
attribute [local irreducible] aE cY gh cz ay fL az aF aX bh bJ aK
def Jc (R : Mem) (pa : PA) (p : cM) (b wb db : Nat) (L' : List HP) (K : Value → Mem → Prop) (Kp : List PanicEntry → Mem → Prop) (y : Sc) : tS → Prop
 | .ev e => ∀ R' A c M', R.le R' → RS bq R' A c e.ready → Hp R' (ax (gf pa p wb db) b y :: L') M' → K (Gi e A c) M'
 | .ee l => ∀ M', Hp R (ax (gf pa p wb db) b y :: L') M' → Kp l M'
section
variable {R : Mem} {L L' L2 : List HP} {M : Mem} {K : Value → Mem → Prop} {Kp : List PanicEntry → Mem → Prop} {pa : PA} {p : cM} {b wb db : Nat} {x : Sc} {m i : Int} {a : SA}
theorem Jd {A : Option Addr} {q o : Nat} {G : Nat → Nat → Prop} (e : A = some ⟨q, o, none⟩) (g : G q o) : az A G := by subst e; exact aS g
theorem BE {q2 k1 c : Nat} {g : Int} {kp : Bool} {A : Option Addr} {w : Wd} {d' : vR} {rest : Bool} {y : Sc} {o : tS}
  (h : Hp R (fe (cR b wb db a x) x.gl :: ax (bk pa p) wb w :: ax (b5 .nilFunc) db d' :: bK a.ap a.cp (bC a.lb x.ps) :: aP bl a.lb (x.ps.map dM.q) :: bT (some ⟨q2, 0, none⟩) a.cm x.ms :: pt k1 [.int .i64 0, .int .i64 0, .int .i64 0, .slice none 0 0] 43 :: L') M)
  (wI : RS bq R A c w.ready) (Ei : a.am = some ⟨q2, 0, none⟩) (hl : a.lb.length = x.ps.length) (hpre : zx p x m) (hg : g = (aD x m).g) (hkp : kp = gC w g rest) (he : tp x m g d' w rest = some (y, o)) (k : Jc R pa p b wb db L' K Kp y o) :
  ∃ t13 : Bool, ∃ gz : Option Addr, ∃ eV : Nat, ∃ dk : Nat, ((Value.agg #[.bool kp, .slice A w.ready.length c]) = (.agg #[(.bool t13), (.slice gz eV dk)])) ∧
aX M (.cells #[(.bool false), (.slice none 0 0)] 250 (0, 0)) fun dm kP =>
aF kP ⟨dm, 0, none⟩ (.bool t13) fun jA =>
aF jA ⟨dm, (0 + 1), none⟩ (.slice gz eV dk) fun oM =>
ay (Mem.ld oM ⟨dm, (0 + 1), none⟩) fun wT eX hO =>
∃ Ol : Nat → List Value → Mem → Prop, (∃ oq : Nat, Ol oq [(.int .i64 0)] oM) ∧
∀ oN : Nat, ∀ Om : Nat → Value, ∀ oO : Int, ∀ iR : Mem, (Ol oN [(.int .i64 oO)] iR) → aK (decide ((oO : Int) < ((eX : Nat) : Int)))
 (((0 : Int) ≤ oO) ∧
 ((oO : Int) < ((eX : Nat) : Int)) ∧
 az wT fun jL nt =>
 aE (Mem.ld iR ⟨jL, (nt + (Int.toNat oO)), none⟩) .i64 fun n32 =>
 ay (Mem.ld iR ⟨b, (0 + 5), none⟩) fun Hs sR pH =>
 aE (Mem.ld iR ⟨q2, (m.toNat * 3), none⟩) .i64 fun r5 =>
 ((0 : Int) ≤ r5) ∧
 ((r5 : Int) < ((sR : Nat) : Int)) ∧
 az Hs fun sX fC =>
 cz (Mem.ld iR ⟨sX, (fC + ((Int.toNat r5) * 3)), none⟩) fun MW =>
 aa Tryz.prog 152 #[(.pointer MW), (.int .i64 n32), (.pointer (some ⟨b, (0 + 7), none⟩))] iR (fun Kc AA =>
 aE (some Kc) .i64 fun wE =>
 ∃ yP : Nat, (yP < oN) ∧
 Ol yP [(.int .i64 (IntKind.wrap .i64 (oO + 1)))] AA) Kp)
 (aE (Mem.ld iR ⟨q2, ((m.toNat * 3) + 2), none⟩) .i64 fun sW =>
 aF iR ⟨q2, ((m.toNat * 3) + 2), none⟩ (.int .i64 (IntKind.wrap .i64 (sW - 1))) fun sY =>
 cY (Mem.ld sY ⟨dm, 0, none⟩) fun t46 =>
 aK (!t46)
  (aF sY ⟨q2, ((m.toNat * 3) + 1), none⟩ (.int .i64 (-1)) fun tH =>
  cz (Mem.ld tH ⟨b, 0, none⟩) fun Gg =>
  aa Tryz.prog 119 #[(.pointer Gg), (.int .i64 g)] tH (fun E4 uc =>
  aE (some E4) .i64 fun zE =>
  aK (zE == 1)
   (aX uc (.cells #[(.int .i64 g)] 3 (0, 0)) fun nm E9 =>
   aa Tryz.prog 58 #[(.pointer (some ⟨b, (0 + 7), none⟩)), (.slice (some ⟨nm, 0, none⟩) 1 1)] E9 (fun Fg r8 =>
   (Fg = (.tuple #[])) ∧
   ay (Mem.ld r8 ⟨dm, (0 + 1), none⟩) fun KC y4 yQ =>
   aF r8 ⟨k1, 0, none⟩ (.int .i64 7) fun xT =>
   aF xT ⟨k1, (0 + 1), none⟩ (.int .i64 m) fun Aq =>
   aF Aq ⟨k1, (0 + 2), none⟩ (.int .i64 g) fun yO =>
   aF yO ⟨k1, (0 + 3), none⟩ (.slice KC y4 yQ) fun rm =>
   aE (Mem.ld rm ⟨k1, 0, none⟩) .i64 fun rT =>
   aE (Mem.ld rm ⟨k1, (0 + 1), none⟩) .i64 fun n64 =>
   aE (Mem.ld rm ⟨k1, (0 + 2), none⟩) .i64 fun pG =>
   ay (Mem.ld rm ⟨k1, (0 + 3), none⟩) fun HQ wG Gh =>
   K (.agg #[(.int .i64 rT), (.int .i64 n64), (.int .i64 pG), (.slice HQ wG Gh)]) rm) Kp)
   (ay (Mem.ld uc ⟨dm, (0 + 1), none⟩) fun Ra Gd CL =>
   aF uc ⟨k1, 0, none⟩ (.int .i64 7) fun LF =>
   aF LF ⟨k1, (0 + 1), none⟩ (.int .i64 m) fun CN =>
   aF CN ⟨k1, (0 + 2), none⟩ (.int .i64 g) fun xS =>
   aF xS ⟨k1, (0 + 3), none⟩ (.slice Ra Gd CL) fun w5 =>
   aE (Mem.ld w5 ⟨k1, 0, none⟩) .i64 fun CC =>
   aE (Mem.ld w5 ⟨k1, (0 + 1), none⟩) .i64 fun uO =>
   aE (Mem.ld w5 ⟨k1, (0 + 2), none⟩) .i64 fun w6 =>
   ay (Mem.ld w5 ⟨k1, (0 + 3), none⟩) fun Ju Gf AD =>
   K (.agg #[(.int .i64 CC), (.int .i64 uO), (.int .i64 w6), (.slice Ju Gf AD)]) w5)) Kp)
  (aE (Mem.ld sY ⟨q2, ((m.toNat * 3) + 2), none⟩) .i64 fun F7 =>
  aK (F7 == 0)
   (aF sY ⟨q2, ((m.toNat * 3) + 1), none⟩ (.int .i64 (-1)) fun Fa =>
   cz (Mem.ld Fa ⟨b, 0, none⟩) fun VI =>
   aa Tryz.prog 119 #[(.pointer VI), (.int .i64 g)] Fa (fun QX Ko =>
   aE (some QX) .i64 fun LW =>
   aK (LW == 1)
    (aX Ko (.cells #[(.int .i64 g)] 3 (0, 0)) fun HH CM =>
    aa Tryz.prog 58 #[(.pointer (some ⟨b, (0 + 7), none⟩)), (.slice (some ⟨HH, 0, none⟩) 1 1)] CM (fun Kj oP =>
    (Kj = (.tuple #[])) ∧
    ay (Mem.ld oP ⟨dm, (0 + 1), none⟩) fun QS QY Kk =>
    aF oP ⟨k1, 0, none⟩ (.int .i64 7) fun Rb =>
    aF Rb ⟨k1, (0 + 1), none⟩ (.int .i64 m) fun VJ =>
    aF VJ ⟨k1, (0 + 2), none⟩ (.int .i64 g) fun Kl =>
    aF Kl ⟨k1, (0 + 3), none⟩ (.slice QS QY Kk) fun Im =>
    aE (Mem.ld Im ⟨k1, 0, none⟩) .i64 fun PG =>
    aE (Mem.ld Im ⟨k1, (0 + 1), none⟩) .i64 fun qe =>
    aE (Mem.ld Im ⟨k1, (0 + 2), none⟩) .i64 fun Hu =>
    ay (Mem.ld Im ⟨k1, (0 + 3), none⟩) fun zb qB Fj =>
    K (.agg #[(.int .i64 PG), (.int .i64 qe), (.int .i64 Hu), (.slice zb qB Fj)]) Im) Kp)
    (ay (Mem.ld Ko ⟨dm, (0 + 1), none⟩) fun r9 nQ zc =>
    aF Ko ⟨k1, 0, none⟩ (.int .i64 7) fun On =>
    aF On ⟨k1, (0 + 1), none⟩ (.int .i64 m) fun tD =>
    aF tD ⟨k1, (0 + 2), none⟩ (.int .i64 g) fun Oo =>
    aF Oo ⟨k1, (0 + 3), none⟩ (.slice r9 nQ zc) fun mB =>
    aE (Mem.ld mB ⟨k1, 0, none⟩) .i64 fun yS =>
    aE (Mem.ld mB ⟨k1, (0 + 1), none⟩) .i64 fun yT =>
    aE (Mem.ld mB ⟨k1, (0 + 2), none⟩) .i64 fun yU =>
    ay (Mem.ld mB ⟨k1, (0 + 3), none⟩) fun Oq Ot Io =>
    K (.agg #[(.int .i64 yS), (.int .i64 yT), (.int .i64 yU), (.slice Oq Ot Io)]) mB)) Kp)
   (ay (Mem.ld sY ⟨dm, (0 + 1), none⟩) fun Ou Ov Ip =>
   aF sY ⟨k1, 0, none⟩ (.int .i64 7) fun Ow =>
   aF Ow ⟨k1, (0 + 1), none⟩ (.int .i64 m) fun Ox =>
   aF Ox ⟨k1, (0 + 2), none⟩ (.int .i64 g) fun Iq =>
   aF Iq ⟨k1, (0 + 3), none⟩ (.slice Ou Ov Ip) fun vj =>
   aE (Mem.ld vj ⟨k1, 0, none⟩) .i64 fun AM =>
   aE (Mem.ld vj ⟨k1, (0 + 1), none⟩) .i64 fun AN =>
   aE (Mem.ld vj ⟨k1, (0 + 2), none⟩) .i64 fun vb =>
   ay (Mem.ld vj ⟨k1, (0 + 3), none⟩) fun Oy Fu Oz =>
   K (.agg #[(.int .i64 AM), (.int .i64 AN), (.int .i64 vb), (.slice Oy Fu Oz)]) vj))) := by
 obtain ⟨m0, m1, i0, i1, RU, PN, l1, l2, g0⟩ := hpre
 rw [← hg] at g0
 unfold tp at he
 split at he
 ·rename_i hc
  obtain ⟨hr, hgw⟩ := hc
  simp only [Option.some.injEq, Prod.mk.injEq] at he
  obtain ⟨BF, ta⟩ := he
  have BA := mR m0 m1
  have m2 : m.toNat < x.ms.length := by omega
  refine ⟨_, _, _, _, rfl, ?_⟩
  refine aj h ?_
  clear h; intro dm M h
  refine ak h ?_
  clear h; intro M h
  refine ak h ?_
  clear h; intro M h
  refine av h ?_
  generalize jW : ({ x with w := w, d := d' } : Sc) = x1 at BF ta
  have q1 : x1.ps = x.ps := by rw [← jW]
  have PR : x1.ms = x.ms := by rw [← jW]
  have q3 : x1.gl = x.gl := by rw [← jW]
  have q4 : x1.w = w := by rw [← jW]
  have q5 : x1.d = d' := by rw [← jW]
  have q6 : cR b wb db a x1 = cR b wb db a x := by rw [← jW]
  have q7 : aD x1 m = aD x m := by rw [← jW]; rfl
  have hf := kK (m := m) (l := w.ready) (z := x1) (by rw [q7]; exact i0) (by rw [q7, q1]; exact i1)
  rw [← q1, ← PR, ← q3, ← q4, ← q5, ← q6] at h
  rw [← q4] at wI hgw hr
  rw [show w.ready = x1.w.ready from by rw [q4]] at BF ta hf ⊢
  clear jW
  have key : ∀ j, j ≤ x1.w.ready.length → ((x1.w.ready.take j).foldl (aR m) x1).ms = x1.ms ∧ ((x1.w.ready.take j).foldl (aR m) x1).ps.length = x1.ps.length ∧ ((x1.w.ready.take j).foldl (aR m) x1).w = x1.w ∧ ((x1.w.ready.take j).foldl (aR m) x1).d = x1.d ∧ ((x1.w.ready.take j).foldl (aR m) x1).c = x1.c ∧ ((x1.w.ready.take j).foldl (aR m) x1).steps = x1.steps ∧ ∀ bs, bC bs ((x1.w.ready.take j).foldl (aR m) x1).ps = bC bs x1.ps :=
   fun j _ => kK (m := m) (l := x1.w.ready.take j) (z := x1) (by rw [q7]; exact i0) (by rw [q7, q1]; exact i1)
  refine ⟨fun d vs M => ∃ j : Nat, vs = [.int .i64 (j : Int)] ∧ d = x1.w.ready.length - j ∧ j ≤ x1.w.ready.length ∧ ((x1.w.ready.take j).foldl (aR m) x1).gl.length ≤ 1000000 + 1030 * j ∧
    Hp R (fe (cR b wb db a x1) ((x1.w.ready.take j).foldl (aR m) x1).gl :: ax (bk pa p) wb x1.w :: ax (b5 .nilFunc) db x1.d :: bK a.ap a.cp (bC a.lb x1.ps) :: aP bl a.lb (((x1.w.ready.take j).foldl (aR m) x1).ps.map dM.q) :: bT (some ⟨q2, 0, none⟩) a.cm x1.ms :: wj dm kp A x1.w.ready.length c :: pt k1 [.int .i64 0, .int .i64 0, .int .i64 0, .slice none 0 0] 43 :: L') M,
   ⟨_, 0, rfl, rfl, by omega, by rw [List.take_zero, List.foldl_nil, q3]; omega, h.sub bG⟩, ?_⟩
  clear h
  rintro d _ nn M ⟨j, he3, hd, hj, O8, h⟩
  simp only [List.cons.injEq, Value.int.injEq, and_true, true_and] at he3
  subst he3
  obtain ⟨z1, z2, z3, z4, z5, z6, z7⟩ := key j hj
  refine aH.2 ⟨fun hlt => ?_, fun hge => ?_⟩
  ·obtain ⟨rv, hrv⟩ := aL (l := x1.w.ready) (i := j) (by omega)
   refine ⟨by omega, hlt, ?_⟩
   obtain ⟨rb, ro, hrb⟩ := wI.some (by omega) (by decide)
   have R6 := wI
   rw [hrb] at R6
   refine Jd hrb ?_
   simp only [Int.toNat_natCast]
   refine aW (Src.at (R6.src (L := _)) h (i := j) (j := 0) hrv rfl (by simp [bq])) ?_
   have hstep : (x1.w.ready.take (j + 1)).foldl (aR m) x1 = aR m ((x1.w.ready.take j).foldl (aR m) x1) rv := by rw [c5 hrv, List.foldl_append]; rfl
   generalize hz : (x1.w.ready.take j).foldl (aR m) x1 = z at h hstep z1 z2 z3 z4 z5 z6 z7 O8
   have R7 : aD z m = aD x m := by unfold aD; rw [z1, PR]
   have hps : z.ps.length = x.ps.length := by rw [z2, q1]
   rw [I7 h]
   refine aY ?_
   refine aW (Src.at (h.src (A := some ⟨q2, 0, none⟩)) h (i := m.toNat) (j := 0) (a := aD x m) (by rw [PR]; exact BA) rfl (by show _ = 0 + (m.toNat * 3 + 0); simp)) ?_
   refine ⟨i0, by rw [q1]; exact i1, ?_⟩
   have R8 : a.lb.length = z.ps.length := by rw [hps]; exact hl
   obtain ⟨lb, hlb, zH, hrow⟩ := mQ (i := (aD x m).p) (x := z) R8 i0 (by rw [hps]; exact i1)
   rw [z7] at hrow
   obtain ⟨q, hq⟩ := h.bj (A := a.ap) (l := bC a.lb x1.ps) (by rw [iL (by rw [q1]; exact hl), q1]; omega) (by decide)
   have hs0 := (h.src (A := a.ap)) M h
   rw [hq] at hs0
   refine Jd hq ?_
   refine jK (Sl.at hs0 (i := (aD x m).p.toNat * 3 + 0) (by simp) (gi.lX (E := mN) hrow rfl)) ?_
   clear hs0
   have hqz : (z.ps.map dM.q)[(aD x m).p.toNat]? = some (aJ z (aD x m).p).q := by rw [List.getElem?_map, zH]; rfl
   replace h := h.cw bl hlb hqz
   replace h : Hp R (ax bl lb (aJ z (aD x m).p).q :: fe (cR b wb db a x1) z.gl :: jg bl a.lb (z.ps.map dM.q) (aD x m).p.toNat :: ax (bk pa p) wb x1.w :: ax (b5 .nilFunc) db x1.d :: bK a.ap a.cp (bC a.lb x1.ps) :: bT (some ⟨q2, 0, none⟩) a.cm x1.ms :: wj dm kp A x1.w.ready.length c :: pt k1 [.int .i64 0, .int .i64 0, .int .i64 0, .slice none 0 0] 43 :: L') M := h.sub bG
   have hbd := sq h (b := lb)
   have jr := FW (q := (aJ z (aD x m).p).q) (r := rv) (gl := z.gl)
   refine Bj (P := cR b wb db a x1) vW h (by omega) ?_
   clear h; intro M h
   refine bU ?_
   replace h := h.cQ bl lb hlb (by rw [List.length_map]; omega)
   refine ⟨x1.w.ready.length - (j + 1), by omega, j + 1, by rw [aV (by omega)], rfl, by omega, ?_, ?_⟩
   ·rw [hstep]
    unfold aR
    rw [R7]
    dsimp only
    obtain ⟨b1, b2, b3⟩ := hbd
    omega
   ·rw [hstep]
    have e2 : (aR m z rv).ps.map dM.q = (z.ps.map dM.q).set (aD x m).p.toNat ((aJ z (aD x m).p).q.ready rv z.gl).1 := by
     unfold aR; rw [R7]; simp [Sc.cD, List.map_set]
    have e3 : (aR m z rv).gl = ((aJ z (aD x m).p).q.ready rv z.gl).2.1 := by unfold aR; rw [R7]
    rw [e2, e3]
    exact h.sub bG
  ·have Jl : j = x1.w.ready.length := by omega
   subst Jl
   rw [List.take_length] at z1 z2 z3 z4 z5 z6 z7 O8 h
   clear key hf
   generalize hrd : x1.w.ready = rd at *
   generalize hz : rd.foldl (aR m) x1 = z at h z1 z2 z3 z4 z5 z6 z7 O8 BF ta
   have R7 : aD z m = aD x m := by unfold aD; rw [z1, PR]
   have ez : cR b wb db a z = cR b wb db a x1 := by unfold cR cW; rw [z1, z2, z5, z6]
   have R8 : a.lb.length = z.ps.length := by rw [z2, q1]; exact hl
   rw [← ez, ← z3, ← z4, ← z7, ← z1] at h
   have R9 : z.ms[m.toNat]? = some (aD z m) := mR m0 (by rw [z1, PR]; exact m1)
   have m1z : m < z.ms.length := by rw [z1, PR]; exact m1
   have m2z : m.toNat < z.ms.length := by omega
   rw [← R7] at l1 l2
   refine aW (Src.at (h.src (A := some ⟨q2, 0, none⟩)) h (i := m.toNat) (j := 2) R9 rfl (by show _ = 0 + (m.toNat * 3 + 2); omega)) ?_
   rw [dH (by omega) (by omega)]
   refine gp (E := jo) (a' := { aD z m with left := (aD z m).left - 1 }) m.toNat 2 h R9 (by decide) rfl rfl ?_
   clear h; intro M h
   replace h : Hp R (fe (cR b wb db a z) z.gl :: ax (bk pa p) wb z.w :: ax (b5 .nilFunc) db z.d :: bK a.ap a.cp (bC a.lb z.ps) :: aP bl a.lb (z.ps.map dM.q) :: bT (some ⟨q2, 0, none⟩) a.cm (z.ms.set m.toNat { aD z m with left := (aD z m).left - 1 }) :: wj dm kp A rd.length c :: pt k1 [.int .i64 0, .int .i64 0, .int .i64 0, .slice none 0 0] 43 :: L') M := h.sub bG
   refine DS h ?_
   have hgz : g < z.w.gs.length := by rw [z3]; exact hgw
   have Sa : (¬ (gC w g rest = true ∧ (aD z m).left - 1 ≠ 0)) → ∀ M', Hp R (ax (gf pa p wb db) b { z.gE m { aD z m with left := (aD z m).left - 1, g := -1 } with gl := if (au z.w g).st = 1 then z.gl ++ [g] else z.gl } :: L') M' → K (Gi ⟨7, m, g, rd⟩ A c) M' := by
    intro hno M' h'
    unfold Sc.wh at BF ta
    rw [if_neg hno] at BF ta
    dsimp only at BF ta
    subst ta
    exact k R A c M' (Mem.le_refl _) wI (by rw [← BF]; exact h')
   cases hk : kp with
   | false =>
    subst hk
    refine af ?_
    exact BD h Ei R8 m0 m1z g0 hgz (by omega) (Sa (fun hc => by rw [← hkp] at hc; cases hc.1))
   | true =>
    subst hk
    refine ai ?_
    refine aW (Src.at (h.src (A := some ⟨q2, 0, none⟩)) h (i := m.toNat) (j := 2) (a := { aD z m with left := (aD z m).left - 1 }) (by simp [m2z]) rfl (by show _ = 0 + (m.toNat * 3 + 2); omega)) ?_
    refine bB.2 ⟨fun e0 => ?_, fun e0 => ?_⟩
    ·exact BD h Ei R8 m0 m1z g0 hgz (by omega) (Sa (fun hc => hc.2 e0))
    ·refine av h ?_
     refine mO h ?_
     clear h; intro M h
     refine mP h ?_
     unfold Sc.wh at BF ta
     rw [if_pos ⟨hkp.symm, e0⟩] at BF ta
     dsimp only at BF ta
     subst ta
     refine k R A c M (Mem.le_refl _) wI ?_
     rw [← BF]
     refine gF (a := a) (x := z.gE m { aD z m with left := (aD z m).left - 1 }) R8 ?_
     rw [vZ]
     show Hp R (_ :: _ :: _ :: _ :: _ :: bT a.am a.cm (z.ms.set m.toNat { aD z m with left := (aD z m).left - 1 }) :: _) M
     rw [Ei]
     exact h.sub bG
 ·cases he
end
section
variable {R : Mem} {L L' L2 : List HP} {M : Mem} {K : Value → Mem → Prop} {Kp : List PanicEntry → Mem → Prop} {pa : PA} {p : cM} {b wb db : Nat} {x : Sc} {m i : Int}
theorem FX {y : Sc} {o : tS} (h : Hp R L M) [q : od b L pa p wb db x L'] (hp : lD R pa p) (hd : x.d.k.Ok) (he : x.run p m = some (y, o)) (k : Jc R pa p b wb db L' K Kp y o) :
  aa Tryz.prog 111 #[.pointer (some ⟨b, 0, none⟩), .int .i64 m] M K Kp := by
 unfold Sc.run at he
 split at he
 ·rename_i hpre
  have Sb := hpre
  obtain ⟨m0, m1, i0, i1, RU, PN, l1, l2, g0⟩ := Sb
  split at he
  ·rename_i IY
   have PO : x.d.Ok := ⟨hd, by omega⟩
   refine pb ?_
   refine aj h ?_
   clear h
   intro k1 M h
   have h' := ej h (b := b)
   clear h
   obtain ⟨a, hl, h⟩ := h'
   have BA := mR m0 m1
   obtain ⟨q2, m9⟩ := h.bj (A := a.am) (l := x.ms) (by omega) (by decide)
   replace h : Hp R (fe (cR b wb db a x) x.gl :: ax (bk pa p) wb x.w :: ax (b5 .nilFunc) db x.d :: bK a.ap a.cp (bC a.lb x.ps) :: aP bl a.lb (x.ps.map dM.q) :: bT (some ⟨q2, 0, none⟩) a.cm x.ms :: pt k1 [.int .i64 0, .int .i64 0, .int .i64 0, .slice none 0 0] 43 :: L') M := by
    unfold gd at h
    rw [show bT a.am a.cm x.ms = bT (some ⟨q2, 0, none⟩) a.cm x.ms from by rw [m9]] at h
    exact h.sub bG
   rw [wg h]
   refine aY ⟨m0, m1, ?_⟩
   refine Jd m9 ?_
   refine aW (Src.at (h.src (A := some ⟨q2, 0, none⟩)) h (i := m.toNat) (j := 1) BA rfl (by show _ = 0 + (m.toNat * 3 + 1); omega)) ?_
   simp only [Nat.zero_add]
   rw [RT h]
   refine gK ?_
   rw [show M.ld ⟨b, 8, none⟩ = some (.pointer (some ⟨db, 0, none⟩)) from O6 h]
   refine gK ⟨trivial, ?_⟩
   replace h : Hp R (ax (bk pa p) wb x.w :: ax (b5 .nilFunc) db x.d :: fe (cR b wb db a x) x.gl :: bK a.ap a.cp (bC a.lb x.ps) :: aP bl a.lb (x.ps.map dM.q) :: bT (some ⟨q2, 0, none⟩) a.cm x.ms :: pt k1 [.int .i64 0, .int .i64 0, .int .i64 0, .slice none 0 0] 43 :: L') M := h.sub bG
   generalize Je : (fe (cR b wb db a x) x.gl :: bK a.ap a.cp (bC a.lb x.ps) :: aP bl a.lb (x.ps.map dM.q) :: bT (some ⟨q2, 0, none⟩) a.cm x.ms :: pt k1 [.int .i64 0, .int .i64 0, .int .i64 0, .slice none 0 0] 43 :: L') = LL at h
   have hds : match asks p { x.w with ready := [] } (aD x m).g with
     | none => (ax (b5 .nilFunc) db (hU x.d (asks p { x.w with ready := [] } (aD x m).g)).1 :: LL) = (ax (b5 .nilFunc) db x.d :: LL)
     | some (kd, n) => fZ R (.func (.func 107) #[.pointer (some ⟨db, 0, none⟩)] #[]) kd n (hU x.d (asks p { x.w with ready := [] } (aD x m).g)).2 (ax (b5 .nilFunc) db x.d :: LL) (ax (b5 .nilFunc) db (hU x.d (asks p { x.w with ready := [] } (aD x m).g)).1 :: LL) := by
    cases S5 : asks p { x.w with ready := [] } (aD x m).g with
    | none => rfl
    | some kn =>
     obtain ⟨kd, n⟩ := kn
     rw [S5] at IY
     exact FP PO (of_decide_eq_true IY) PN
   have Dg : ∀ l, (hU x.d (asks p { x.w with ready := [] } (aD x m).g)).2 = .ee l → yg l (xe l) := by
    intro l hl
    cases S5 : asks p { x.w with ready := [] } (aD x m).g with
    | none => rw [S5] at hl; cases hl
    | some kn =>
     obtain ⟨kd, n⟩ := kn
     rw [S5] at hl
     exact (Ja (x' := (x.d.draw kd n).1) (by rw [← hl]; rfl)).2
   generalize Mi : hU x.d (asks p { x.w with ready := [] } (aD x m).g) = dd at he hds Dg
   obtain ⟨d', dr⟩ := dd
   dsimp only at he hds Dg
   cases hex : yl p x.w (aD x m).g dr with
   | none => rw [hex] at he; cases he
   | some rr =>
    obtain ⟨r, rest⟩ := rr
    rw [hex] at he
    refine FN h hp ⟨_, _, _, rfl⟩ hex hds ?_
    cases r with
    | ee l w =>
     dsimp only at he
     simp only [Option.some.injEq, Prod.mk.injEq] at he
     obtain ⟨BF, ta⟩ := he
     obtain ⟨B4, hw⟩ := FV hex
     refine ⟨xe l, Dg l B4, ?_⟩
     intro M h
     subst ta
     refine k M ?_
     rw [← BF]
     rw [← Je] at h
     have h9 : Hp R (fe (cR b wb db a { x with w := w, d := d' }) x.gl :: ax (bk pa p) wb w :: ax (b5 .nilFunc) db d' :: bK a.ap a.cp (bC a.lb x.ps) :: aP bl a.lb (x.ps.map dM.q) :: bT a.am a.cm x.ms :: L') M := by
      rw [show bT a.am a.cm x.ms = bT (some ⟨q2, 0, none⟩) a.cm x.ms from by rw [m9], show cR b wb db a { x with w := w, d := d' } = cR b wb db a x from rfl]
      exact h.sub bG
     exact gF (a := a) (x := { x with w := w, d := d' }) hl h9
    | on w =>
     intro R' A c M hle wI h
     rw [← Je] at h
     have h2 : Hp R' (fe (cR b wb db a x) x.gl :: ax (bk pa p) wb w :: ax (b5 .nilFunc) db d' :: bK a.ap a.cp (bC a.lb x.ps) :: aP bl a.lb (x.ps.map dM.q) :: bT (some ⟨q2, 0, none⟩) a.cm x.ms :: pt k1 [.int .i64 0, .int .i64 0, .int .i64 0, .slice none 0 0] 43 :: L') M := h.sub bG
     refine BE (K := K) (Kp := Kp) (w := w) (g := (aD x m).g) (kp := gC w (aD x m).g rest) (rest := rest) h2 wI m9 hl hpre rfl rfl he ?_
     cases o with
     | ev e => exact fun R2 A2 c2 M2 FY => k R2 A2 c2 M2 (Mem.le_trans hle FY)
     | ee l =>
      dsimp only at he
      unfold tp at he
      split at he
      ·simp only [Option.some.injEq, Prod.mk.injEq] at he; cases he.2
      ·cases he
    | eF n w =>
     intro R' A c M hle wI h
     rw [← Je] at h
     have h2 : Hp R' (fe (cR b wb db a x) x.gl :: ax (bk pa p) wb { w with end_ := 2, code := n } :: ax (b5 .nilFunc) db d' :: bK a.ap a.cp (bC a.lb x.ps) :: aP bl a.lb (x.ps.map dM.q) :: bT (some ⟨q2, 0, none⟩) a.cm x.ms :: pt k1 [.int .i64 0, .int .i64 0, .int .i64 0, .slice none 0 0] 43 :: L') M := h.sub bG
     refine BE (K := K) (Kp := Kp) (w := { w with end_ := 2, code := n }) (g := (aD x m).g) (kp := gC { w with end_ := 2, code := n } (aD x m).g rest) (rest := rest) h2 wI m9 hl hpre rfl rfl he ?_
     cases o with
     | ev e => exact fun R2 A2 c2 M2 FY => k R2 A2 c2 M2 (Mem.le_trans hle FY)
     | ee l =>
      dsimp only at he
      unfold tp at he
      split at he
      ·simp only [Option.some.injEq, Prod.mk.injEq] at he; cases he.2
      ·cases he
  ·cases he
 ·cases he
theorem Jf {e : Ev} {o : tS} {y z : Sc} (h : FU (z, .ev e) = (y, o)) : o = .ev e ∧ y = { z with steps := z.steps + 1 } := by
 unfold FU at h; cases h; exact ⟨rfl, rfl⟩
theorem Dy {y : Sc} {o : tS} (h : Hp R L M) [q : od b L pa p wb db x L'] (hp : lD R pa p) (hd : x.d.k.Ok) (he : x.step p = some (y, o)) (k : Jc R pa p b wb db L' K Kp y o) :
  aa Tryz.prog 54 #[.pointer (some ⟨b, 0, none⟩)] M K Kp := by
 unfold Sc.step at he
 split at he
 ·rename_i hpre
  obtain ⟨hgs, hcM, hps, hms, PN, hst0, hst1⟩ := hpre
  refine nW ?_
  refine aj h ?_
  clear h
  intro k1 M h
  refine qZ h hgs ?_
  refine bU ?_
  split at he
  ·rename_i hst
   simp only [Option.some.injEq, Prod.mk.injEq] at he
   obtain ⟨BF, ta⟩ := he
   subst BF; subst ta
   refine bM.2 ⟨fun _ => ?_, fun hn => absurd hn hst⟩
   refine mO h ?_
   clear h; intro M h
   refine mP h ?_
   exact k R none 0 M (Mem.le_refl _) (RS.nil _ _) (h.drop.pick q.pick)
  ·rename_i hst
   refine bM.2 ⟨fun hn => absurd hn hst, fun _ => ?_⟩
   have h' := ej h (b := b)
   clear h
   obtain ⟨a, hl, h⟩ := h'
   rw [O6 h]
   refine gK ?_
   rw [RR h]
   refine bU ?_
   have PO : x.d.Ok := ⟨hd, by omega⟩
   have hnw : IntKind.wrap .i64 (x.c.M + 1) = x.c.M + 1 := dH (by omega) (by omega)
   rw [hnw]
   replace h : Hp R (ax (b5 .nilFunc) db x.d :: fe (cR b wb db a x) x.gl :: ax (bk pa p) wb x.w :: bK a.ap a.cp (bC a.lb x.ps) :: aP bl a.lb (x.ps.map dM.q) :: bT a.am a.cm x.ms :: pt k1 [.int .i64 0, .int .i64 0, .int .i64 0, .slice none 0 0] 43 :: L') M := h.sub bG
   refine mM h PO (by omega) (by omega) ?_
   clear h
   have Sd := Li (kind := 1) (n := x.c.M + 1) hd
   have Dt : ∀ x' v, x.d.draw 1 (x.c.M + 1) = (x', .num v) → 0 ≤ v ∧ v < x.c.M + 1 ∧ x'.taken = x.d.taken ++ [(1, v)] := by
    intro x' v hv
    have := Jb hd hv
    rw [show qY (x.c.M + 1) = x.c.M + 1 from by unfold qY; rw [if_neg (by omega)]] at this
    exact this
   generalize Mi : x.d.draw 1 (x.c.M + 1) = dd at he Sd Dt
   obtain ⟨d', dr⟩ := dd
   have mk : ∀ {M : Mem}, Hp R (ax (b5 .nilFunc) db d' :: fe (cR b wb db a x) x.gl :: ax (bk pa p) wb x.w :: bK a.ap a.cp (bC a.lb x.ps) :: aP bl a.lb (x.ps.map dM.q) :: bT a.am a.cm x.ms :: pt k1 [.int .i64 0, .int .i64 0, .int .i64 0, .slice none 0 0] 43 :: L') M → Hp R (ax (gf pa p wb db) b { x with d := d' } :: pt k1 [.int .i64 0, .int .i64 0, .int .i64 0, .slice none 0 0] 43 :: L') M :=
    fun h => gF (a := a) (x := { x with d := d' }) hl (h.sub bG)
   cases dr with
   | ee l =>
    dsimp only at he ⊢
    simp only [Option.some.injEq, Prod.mk.injEq] at he
    obtain ⟨BF, ta⟩ := he
    intro M h
    subst ta
    refine k M ?_
    rw [← BF]
    exact (mk h).bH
   | num mm =>
    dsimp only at he ⊢
    obtain ⟨v0, v1, htk2⟩ := Dt d' mm rfl
    intro M h
    replace h := mk h
    clear mk
    refine bU ?_
    generalize jW : ({ x with d := d' } : Sc) = x1 at h he
    have e1 : x1.c = x.c := by rw [← jW]
    have e2 : x1.ms = x.ms := by rw [← jW]
    have e3 : x1.ps = x.ps := by rw [← jW]
    have e4 : x1.d.k.Ok := by rw [← jW]; exact Sd
    have e5 : x1.steps = x.steps := by rw [← jW]
    clear jW
    refine aj h ?_
    clear h; intro cU M h
    replace h : Hp R (ax (gf pa p wb db) b x1 :: pt k1 [.int .i64 0, .int .i64 0, .int .i64 0, .slice none 0 0] 43 :: pt cU [.int .i64 0, .int .i64 0, .int .i64 0, .slice none 0 0] 43 :: L') M := h.sub bG
    have fin : ∀ (R' : Mem) (A : Option Addr) (c : Nat) (M : Mem) (z : Sc) (e : Ev), R.le R' → RS bq R' A c e.ready → z.steps = x.steps → FU (z, .ev e) = (y, o) → Hp R' (ax (gf pa p wb db) b z :: pt k1 [.int .i64 0, .int .i64 0, .int .i64 0, .slice none 0 0] 43 :: pt cU [.int .i64 0, .int .i64 0, .int .i64 0, .slice none 0 0] 43 :: L') M →
      aF M ⟨cU, 0, none⟩ (.int .i64 e.kind) fun m6 => aF m6 ⟨cU, (0 + 1), none⟩ (.int .i64 e.m) fun yV => aF yV ⟨cU, (0 + 2), none⟩ (.int .i64 e.g) fun kQ => aF kQ ⟨cU, (0 + 3), none⟩ (.slice A e.ready.length c) fun uZ =>
      aE (Mem.ld uZ ⟨b, (0 + 9), none⟩) .i64 fun r5 => aF uZ ⟨b, (0 + 9), none⟩ (.int .i64 (IntKind.wrap .i64 (r5 + 1))) fun zF =>
      aE (Mem.ld zF ⟨cU, 0, none⟩) .i64 fun uN => aE (Mem.ld zF ⟨cU, (0 + 1), none⟩) .i64 fun yM => aE (Mem.ld zF ⟨cU, (0 + 2), none⟩) .i64 fun CJ => ay (Mem.ld zF ⟨cU, (0 + 3), none⟩) fun Ni Ap yP =>
      aF zF ⟨k1, 0, none⟩ (.int .i64 uN) fun ug => aF ug ⟨k1, (0 + 1), none⟩ (.int .i64 yM) fun sY => aF sY ⟨k1, (0 + 2), none⟩ (.int .i64 CJ) fun HG => aF HG ⟨k1, (0 + 3), none⟩ (.slice Ni Ap yP) fun tH =>
      aE (Mem.ld tH ⟨k1, 0, none⟩) .i64 fun BX => aE (Mem.ld tH ⟨k1, (0 + 1), none⟩) .i64 fun LQ => aE (Mem.ld tH ⟨k1, (0 + 2), none⟩) .i64 fun HB => ay (Mem.ld tH ⟨k1, (0 + 3), none⟩) fun Jm nm rj =>
      K (.agg #[(.int .i64 BX), (.int .i64 LQ), (.int .i64 HB), (.slice Jm nm rj)]) tH := by
     intro R' A c M z e hle wI hzs hinc h
     obtain ⟨ho, hy⟩ := Jf hinc
     subst ho; subst hy
     refine mO h ?_
     clear h; intro M h
     have h' := ej h (b := b)
     clear h
     obtain ⟨a3, O1, h⟩ := h'
     have h' := kJ h
     clear h
     obtain ⟨A4, c4, h⟩ := h'
     refine ae h ?_
     rw [dH (by omega) (by omega)]
     refine ak h ?_
     clear h; intro M h
     refine mP h ?_
     refine mO h ?_
     clear h; intro M h
     refine mP h ?_
     refine k R' A c M hle wI (gF (a := a3) (x := { z with steps := z.steps + 1 }) O1 ?_)
     exact uk (x := { z with steps := z.steps + 1 }) (h.sub bG)
    have h' := ej h (b := b)
    clear h
    obtain ⟨a5, hl5, h⟩ := h'
    rw [RR h]
    refine bU ?_
    have yn : ∀ {M : Mem}, Hp R (fe (cR b wb db a5 x1) x1.gl :: ax (bk pa p) wb x1.w :: ax (b5 .nilFunc) db x1.d :: gd a5 x1 (pt k1 [.int .i64 0, .int .i64 0, .int .i64 0, .slice none 0 0] 43 :: pt cU [.int .i64 0, .int .i64 0, .int .i64 0, .slice none 0 0] 43 :: L')) M → Hp R (ax (gf pa p wb db) b x1 :: pt k1 [.int .i64 0, .int .i64 0, .int .i64 0, .slice none 0 0] 43 :: pt cU [.int .i64 0, .int .i64 0, .int .i64 0, .slice none 0 0] 43 :: L') M := fun h => gF (a := a5) hl5 h
    unfold Sc.act at he
    refine bB.2 ⟨fun em => ?_, fun em => ?_⟩
    ·rw [if_pos em] at he
     split at he
     ·rename_i Se
      simp only [Option.map_some, Option.some.injEq] at he
      refine Du (yn h) Se ?_
      clear h; intro R' A c M hle wI h
      refine ⟨_, _, _, _, _, _, rfl, ?_⟩
      exact fin R' A c M _ _ hle wI (by rw [← e5]; rfl) he h
     ·cases he
    rw [if_neg em] at he
    have S6 : mm < x1.ms.length := by
     have a1 : x1.c.M = x.c.M := by rw [e1]
     have a2 : x1.ms.length = x.ms.length := by rw [e2]
     omega
    have BA := mR v0 S6
    obtain ⟨q2, m9⟩ := h.bj (A := a5.am) (l := x1.ms) (by omega) (by decide)
    have hs0 := (h.src (A := a5.am)) M h
    rw [m9] at hs0
    rw [wg h]
    refine aY ⟨v0, S6, ?_⟩
    refine Jd m9 ?_
    refine aW (Sl.at hs0 (i := mm.toNat * 3 + 0) (by simp) (gi.lX (E := jo) BA rfl)) ?_
    refine bB.2 ⟨fun ep => ?_, fun ep => ?_⟩
    ·rw [if_pos ep] at he
     simp only [Option.map_some, Option.some.injEq] at he
     refine Dv (yn h) v0 S6 (by rw [e3]; omega) ?_
     clear h hs0; intro M h
     have Cr : (x1.hold mm).2.ready = [] := by unfold Sc.hold; split <;> rfl
     have pC : (x1.hold mm).1.steps = x.steps := by rw [← e5]; unfold Sc.hold; split <;> rfl
     refine ⟨_, _, _, _, _, _, rfl, ?_⟩
     exact fin R none 0 M _ _ (Mem.le_refl _) (by rw [Cr]; exact RS.nil _ _) pC he h
    rw [if_neg ep] at he
    refine aY ⟨v0, S6, ?_⟩
    refine Jd m9 ?_
    refine aW (Sl.at hs0 (i := mm.toNat * 3 + 1) (by simp) (gi.lX (E := jo) BA rfl)) ?_
    clear hs0
    refine bB.2 ⟨fun eg => ?_, fun eg => ?_⟩
    ·rw [if_pos eg] at he
     split at he
     ·rename_i hfo
      simp only [Option.map_some, Option.some.injEq] at he
      have pC : (x1.find mm).1.steps = x.steps := by
       rw [← e5]
       have yj : ∀ (z : Sc) a b c d e, (z.cq a b c d e).1.steps = z.steps := by intro z a b c d e; unfold Sc.cq; split <;> rfl
       unfold Sc.find
       dsimp only
       split
       ·rfl
       ·split
        ·split
         ·rfl
         ·split <;> exact yj ..
        ·exact yj ..
      have hrd : ∀ e, (x1.find mm).2 = .ev e → e.ready = [] := by
       have yj : ∀ (z : Sc) a b c d e, (z.cq a b c d e).2.ready = [] := by intro z a b c d e; unfold Sc.cq; split <;> rfl
       intro e Cr
       unfold Sc.find at Cr
       dsimp only at Cr
       split at Cr
       ·cases Cr; rfl
       ·split at Cr
        ·split at Cr
         ·cases Cr
         ·split at Cr <;> · cases Cr; exact yj ..
        ·cases Cr; exact yj ..
      refine Dw (yn h) hfo e4 ?_
      clear h
      generalize Hg : x1.find mm = ff at he pC hrd ⊢
      obtain ⟨z, oo⟩ := ff
      cases oo with
      | ev e =>
       dsimp only at pC hrd ⊢
       intro M h
       refine ⟨_, _, _, _, _, _, rfl, ?_⟩
       have hr0 : e.ready = [] := hrd e rfl
       exact fin R none 0 M _ e (Mem.le_refl _) (by rw [hr0]; exact RS.nil _ _) pC he h
      | ee l =>
       dsimp only
       intro M h
       unfold FU at he
       cases he
       exact k M h.bH
     ·cases he
    rw [if_neg eg] at he
    cases hrun : x1.run p mm with
    | none => rw [hrun] at he; cases he
    | some rr =>
     obtain ⟨z, oo⟩ := rr
     rw [hrun] at he
     simp only [Option.map_some, Option.some.injEq] at he
     refine FX (yn h) hp e4 hrun ?_
     clear h
     have pC : z.steps = x.steps := by
      rw [← e5]
      unfold Sc.run at hrun
      split at hrun
      ·rename_i Sf
       obtain ⟨_, _, i0, i1, _⟩ := Sf
       have GG : ∀ d w rest, tp x1 mm (aD x1 mm).g d w rest = some (z, oo) → z.steps = x1.steps := by
        intro d w rest GG
        unfold tp at GG
        split at GG
        ·simp only [Option.some.injEq, Prod.mk.injEq] at GG
         rw [← GG.1]
         have := kK (m := mm) w.ready { x1 with w := w, d := d } i0 i1
         unfold Sc.wh
         split <;> exact this.2.2.2.2.2.1
        ·cases GG
       split at hrun
       ·split at hrun
        ·cases hrun
        ·simp only [Option.some.injEq, Prod.mk.injEq] at hrun; rw [← hrun.1]
        ·exact GG _ _ _ hrun
        ·exact GG _ _ _ hrun
       ·cases hrun
      ·cases hrun
     cases oo with
     | ev e =>
      intro R' A c M hle wI h
      refine ⟨_, _, _, _, _, _, rfl, ?_⟩
      exact fin R' A c M _ e hle wI pC he h
     | ee l =>
      intro M h
      unfold FU at he
      cases he
      exact k M h.bH
 ·cases he
end
def Sc.new (p : cM) (c : SZ) (d : vR) : Sc := ⟨Wd.new p, c, List.replicate c.P.toNat ⟨⟨-1, e8 c.R, []⟩, 0, -1⟩, List.replicate c.M.toNat ⟨-1, -1, 0⟩, [0], d, 0⟩
theorem Ej : bn Tryz.prog 132 141 3 24 [.pointer none, .int .i64 0, .int .i64 0] := bn.mk' (zv := .agg #[.pointer none, .int .i64 0, .int .i64 0]) (by kernel_rfl) (by kernel_rfl) rfl (by omega)
theorem Lj : bn Tryz.prog 133 143 3 24 [.int .i64 0, .int .i64 0, .int .i64 0] := bn.mk' (zv := .agg #[.int .i64 0, .int .i64 0, .int .i64 0]) (by kernel_rfl) (by kernel_rfl) rfl (by omega)
theorem yq {bs : List Nat} {ps : List dM} {b : Nat} {y : dM} (h : bs.length = ps.length) : bC (bs ++ [b]) (ps ++ [y]) = bC bs ps ++ [(b, y.turns, y.xd)] := by
 unfold bC; rw [List.zipWith_append h]; rfl
section
variable {R : Mem} {L L' L2 : List HP} {M : Mem} {K : Value → Mem → Prop} {Kp : List PanicEntry → Mem → Prop} {pa : PA} {p : cM} {b wb db : Nat} {x : Sc} {m i : Int}
theorem FZ {c : SZ} {d : vR} (h : Hp R L M) [o : bO (b5 .nilFunc) db L d L'] (vz : RS bq R pa.c pa.cc p.kC) (hc : p.kC.length ≤ 1000000) (hk : 0 ≤ p.bE ∧ p.bE ≤ 1000000) (hP : 0 ≤ c.P ∧ c.P ≤ 1000000) (hM : 0 ≤ c.M ∧ c.M ≤ 1000000)
  (k : ∀ b wb M', Hp R (ax (gf pa p wb db) b (Sc.new p c d) :: L') M' → K (.pointer (some ⟨b, 0, none⟩)) M') :
  aa Tryz.prog 15 #[.agg #[.slice pa.f p.funcs.length pa.fc, .slice pa.c p.kC.length pa.cc, .int .i64 p.bE, .slice pa.k p.cases.length pa.kc], .agg #[.int .i64 c.P, .int .i64 c.M, .int .i64 c.R, .int .i64 c.S], .pointer (some ⟨db, 0, none⟩)] M K Kp := by
 refine y7 ?_
 replace h := h.front (b5 .nilFunc) db
 refine aj h ?_
 clear h; intro k1 M h
 refine aj h ?_
 clear h; intro k3 M h
 refine av h (av h (ae h (av h ?_)))
 refine ae h (ae h (ae h (ae h ?_)))
 refine FC (p := p) (pa := pa) h vz hc hk ?_
 clear h; intro wb M h
 refine gK ⟨gL (cH h) (gL (cH h) (gL (cH h) (gL (cH h) pW))), ?_⟩
 refine aj h ?_
 clear h; intro b M h
 refine ae h ?_
 replace h := ((((h.ck mN 141).qh bl).ck jo 143).ck bq 3)
 obtain ⟨nP, hnP⟩ := Int.eq_ofNat_of_zero_le hP.1
 obtain ⟨nM, hnM⟩ := Int.eq_ofNat_of_zero_le hM.1
 refine ⟨fun dd vs M => ∃ (j : Nat) (A : Option Addr) (ca : Nat) (rz : List Nat), vs = [.int .i64 (j : Int)] ∧ dd = nP - j ∧ j ≤ nP ∧ rz.length = j ∧
   Hp R (pt b [.pointer (some ⟨wb, 0, none⟩), .int .i64 c.P, .int .i64 c.M, .int .i64 c.R, .int .i64 c.S, .slice A j ca, .slice none 0 0, .slice none 0 0, .pointer (some ⟨db, 0, none⟩), .int .i64 0] 137 ::
    bK A ca (bC rz (List.replicate j ⟨⟨-1, e8 c.R, []⟩, 0, -1⟩)) :: aP bl rz (List.replicate j ⟨-1, e8 c.R, []⟩) :: bT none 0 [] :: iY none 0 [] :: ax (bk pa p) wb (Wd.new p) :: ax (b5 .nilFunc) db d :: pt k3 [.int .i64 c.P, .int .i64 c.M, .int .i64 c.R, .int .i64 c.S] 29 :: L') M,
  ⟨_, 0, none, 0, [], rfl, rfl, by omega, rfl, h.sub bG⟩, ?_⟩
 clear h
 rintro dd _ nn M ⟨j, A, ca, rz, he, hd, hj, hlb, h⟩
 simp only [List.cons.injEq, Value.int.injEq, and_true, true_and] at he
 subst he
 refine aH.2 ⟨fun hlt => ?_, fun hge => ?_⟩
 ·have jr : (List.replicate j (⟨⟨-1, e8 c.R, []⟩, 0, -1⟩ : dM)).length = j := List.length_replicate
  refine ⟨fun vs M => ∃ (A : Option Addr) (ca : Nat) (lb : Nat),
   Hp R (pt b [.pointer (some ⟨wb, 0, none⟩), .int .i64 c.P, .int .i64 c.M, .int .i64 c.R, .int .i64 c.S, .slice A (j + 1) ca, .slice none 0 0, .slice none 0 0, .pointer (some ⟨db, 0, none⟩), .int .i64 0] 137 ::
    bK A ca (bC (rz ++ [lb]) (List.replicate (j + 1) ⟨⟨-1, e8 c.R, []⟩, 0, -1⟩)) :: aP bl (rz ++ [lb]) (List.replicate (j + 1) ⟨-1, e8 c.R, []⟩) :: bT none 0 [] :: iY none 0 [] :: ax (bk pa p) wb (Wd.new p) :: ax (b5 .nilFunc) db d :: pt k3 [.int .i64 c.P, .int .i64 c.M, .int .i64 c.R, .int .i64 c.S] 29 :: L') M, ae h ⟨?_, ?_, trivial⟩, ?_⟩
  ·refine av h ?_
   refine yd h ?_
   clear h; intro lb M h
   refine gK ?_
   refine aj h ?_
   clear h; intro lG M h
   refine h.vA (A := A) Ej [(lb, 0, -1)] rfl (by rw [iL (by rw [hlb, jr]), jr]) rfl (by rw [iL (by rw [hlb, jr]), jr]; simp only [List.length_singleton]; omega) ?_
   clear h; intro A' c' M h
   refine aY ?_
   refine ak h ?_
   clear h; intro M h
   replace h := h.ik bl lb (by rw [hlb, List.length_replicate])
   refine ⟨A', c', lb, ?_⟩
   have e1 : bC (rz ++ [lb]) (List.replicate (j + 1) (⟨⟨-1, e8 c.R, []⟩, 0, -1⟩ : dM)) = bC rz (List.replicate j ⟨⟨-1, e8 c.R, []⟩, 0, -1⟩) ++ [(lb, 0, -1)] := by
    rw [List.replicate_succ', yq (by rw [hlb, jr])]
   have e2 : List.replicate (j + 1) (⟨-1, e8 c.R, []⟩ : Loc) = List.replicate j ⟨-1, e8 c.R, []⟩ ++ [⟨-1, e8 c.R, []⟩] := List.replicate_succ'
   rw [e1, e2]
   exact h.sub bG
  ·refine yd h ?_
   clear h; intro lb M h
   refine gK ?_
   refine av h ?_
   refine aj h ?_
   clear h; intro lG M h
   refine h.vA (A := A) Ej [(lb, 0, -1)] rfl (by rw [iL (by rw [hlb, jr]), jr]) rfl (by rw [iL (by rw [hlb, jr]), jr]; simp only [List.length_singleton]; omega) ?_
   clear h; intro A' c' M h
   refine aY ?_
   refine ak h ?_
   clear h; intro M h
   replace h := h.ik bl lb (by rw [hlb, List.length_replicate])
   refine ⟨A', c', lb, ?_⟩
   have e1 : bC (rz ++ [lb]) (List.replicate (j + 1) (⟨⟨-1, e8 c.R, []⟩, 0, -1⟩ : dM)) = bC rz (List.replicate j ⟨⟨-1, e8 c.R, []⟩, 0, -1⟩) ++ [(lb, 0, -1)] := by
    rw [List.replicate_succ', yq (by rw [hlb, jr])]
   have e2 : List.replicate (j + 1) (⟨-1, e8 c.R, []⟩ : Loc) = List.replicate j ⟨-1, e8 c.R, []⟩ ++ [⟨-1, e8 c.R, []⟩] := List.replicate_succ'
   rw [e1, e2]
   exact h.sub bG
  ·clear h
   rintro _ M ⟨A', c', lb, h⟩
   rw [aV (by omega)]
   exact ⟨nP - (j + 1), by omega, j + 1, A', c', rz ++ [lb], rfl, rfl, by omega, by simp [hlb], h⟩
 have Su : j = nP := by omega
 subst Su
 refine ae h ?_
 refine ⟨fun dd vs M => ∃ (q : Nat) (B : Option Addr) (cb : Nat), vs = [.int .i64 (q : Int)] ∧ dd = nM - q ∧ q ≤ nM ∧
   Hp R (pt b [.pointer (some ⟨wb, 0, none⟩), .int .i64 c.P, .int .i64 c.M, .int .i64 c.R, .int .i64 c.S, .slice A j ca, .slice B q cb, .slice none 0 0, .pointer (some ⟨db, 0, none⟩), .int .i64 0] 137 ::
    bK A ca (bC rz (List.replicate j ⟨⟨-1, e8 c.R, []⟩, 0, -1⟩)) :: aP bl rz (List.replicate j ⟨-1, e8 c.R, []⟩) :: bT B cb (List.replicate q ⟨-1, -1, 0⟩) :: iY none 0 [] :: ax (bk pa p) wb (Wd.new p) :: ax (b5 .nilFunc) db d :: pt k3 [.int .i64 c.P, .int .i64 c.M, .int .i64 c.R, .int .i64 c.S] 29 :: L') M,
  ⟨_, 0, none, 0, rfl, rfl, by omega, h.sub bG⟩, ?_⟩
 clear h
 rintro dd _ nn M ⟨q, B, cb, he, hd2, hq, h⟩
 simp only [List.cons.injEq, Value.int.injEq, and_true, true_and] at he
 subst he
 refine aH.2 ⟨fun hlt => ?_, fun hge2 => ?_⟩
 ·refine av h ?_
  refine aj h ?_
  clear h; intro y4 M h
  refine h.vA (A := B) Lj [(⟨-1, -1, 0⟩ : JB)] rfl (by simp) rfl (by simp; omega) ?_
  clear h; intro B' cb' M h
  refine aY ?_
  refine ak h ?_
  clear h; intro M h
  rw [aV (by omega)]
  have e : List.replicate q (⟨-1, -1, 0⟩ : JB) ++ [⟨-1, -1, 0⟩] = List.replicate (q + 1) ⟨-1, -1, 0⟩ := List.replicate_succ'.symm
  rw [e] at h
  exact ⟨nM - (q + 1), by omega, q + 1, B', cb', rfl, rfl, by omega, h.sub bG⟩
 have hqn : q = nM := by omega
 subst hqn
 refine aj h ?_
 clear h; intro AB M h
 have e0 : Sc.new p c d = ⟨Wd.new p, c, List.replicate j ⟨⟨-1, e8 c.R, []⟩, 0, -1⟩, List.replicate q ⟨-1, -1, 0⟩, [0], d, 0⟩ := by
  unfold Sc.new; rw [hnP, hnM]; rfl
 have e3 : (List.replicate j (⟨⟨-1, e8 c.R, []⟩, 0, -1⟩ : dM)).map dM.q = List.replicate j ⟨-1, e8 c.R, []⟩ := by simp
 replace h := (h.pt AB).oG (E := bq) (l := [0]) rfl
 generalize hz : (⟨Wd.new p, c, List.replicate j ⟨⟨-1, e8 c.R, []⟩, 0, -1⟩, List.replicate q ⟨-1, -1, 0⟩, [0], d, 0⟩ : Sc) = z at e0
 have z1 : cW wb db ⟨A, ca, rz, B, cb⟩ z none 0 0 = [.pointer (some ⟨wb, 0, none⟩), .int .i64 c.P, .int .i64 c.M, .int .i64 c.R, .int .i64 c.S, .slice A j ca, .slice B q cb, .slice none 0 0, .pointer (some ⟨db, 0, none⟩), .int .i64 0] := by
  rw [← hz]; simp [cW]
 rw [← z1] at h
 have h2 : Hp R (pt b (cW wb db ⟨A, ca, rz, B, cb⟩ z none 0 0) 137 :: iY none 0 [] :: iY (some ⟨AB, 0, none⟩) 1 [0] :: ax (bk pa p) wb (Wd.new p) :: ax (b5 .nilFunc) db d :: bK A ca (bC rz (List.replicate j ⟨⟨-1, e8 c.R, []⟩, 0, -1⟩)) :: aP bl rz (List.replicate j ⟨-1, e8 c.R, []⟩) :: bT B cb (List.replicate q ⟨-1, -1, 0⟩) :: L') M := h.sub bG
 have h3 : Hp R (fe (cR b wb db ⟨A, ca, rz, B, cb⟩ z) [] :: iY (some ⟨AB, 0, none⟩) 1 [0] :: ax (bk pa p) wb (Wd.new p) :: ax (b5 .nilFunc) db d :: bK A ca (bC rz (List.replicate j ⟨⟨-1, e8 c.R, []⟩, 0, -1⟩)) :: aP bl rz (List.replicate j ⟨-1, e8 c.R, []⟩) :: bT B cb (List.replicate q ⟨-1, -1, 0⟩) :: L') M := Ea (P := cR b wb db ⟨A, ca, rz, B, cb⟩ z) h2 rfl
 clear h h2
 refine kI (P := cR b wb db ⟨A, ca, rz, B, cb⟩ z) vW h3 (Src.row (A := some ⟨AB, 0, none⟩)) rfl (by simp) ?_
 clear h3; intro M h
 refine ⟨rfl, ?_⟩
 refine k b wb M ?_
 rw [e0]
 refine gF (a := ⟨A, ca, rz, B, cb⟩) (x := z) (by rw [← hz]; simp [hlb]) ?_
 rw [← hz] at h ⊢
 unfold gd
 dsimp only at h ⊢
 rw [e3]
 exact h.sub bG
end
def S7 (t : Int) : Nat := if Int.tmod t 7 = 6 then 1 else 0
def Jg (t : Int) : Nat := 6 - (Int.tmod t 7).toNat
theorem t7 {t : Int} (h : 0 ≤ t) : (Int.tmod t 7 = 6 → S7 t = 1 ∧ Jg t = 0 ∧ S7 (t + 1) = 0 ∧ Jg (t + 1) = 6) ∧ (Int.tmod t 7 ≠ 6 → S7 t = 0 ∧ Jg (t + 1) + 1 = Jg t) := by
 have e1 : Int.tmod t 7 = t % 7 := Int.tmod_eq_emod_of_nonneg h
 have e2 : Int.tmod (t + 1) 7 = (t + 1) % 7 := Int.tmod_eq_emod_of_nonneg (by omega)
 unfold S7 Jg
 rw [e1, e2]
 constructor
 ·intro e
  rw [if_pos e, if_neg (by omega)]
  omega
 ·intro e
  rw [if_neg e]
  omega
def p18 : cM := ⟨[[⟨20, 0, 0, 0⟩, ⟨10, 0, 0, 0⟩]], [], 0, []⟩
def x18 : Sc := Sc.new p18 ⟨1, 1, 2, 9⟩ ⟨.Eh [0, 0, 0, 0] 0, []⟩
theorem dK : x18.d.k.Ok := ⟨by decide, by decide, fun v hv => by simp at hv; subst hv; decide⟩
def Gj : List Value := [.int .i64 0, .int .i64 0, .int .i64 0, .int .i64 0, .int .u64 0]
inductive wk : List PanicEntry → Int → List Value → Prop
 | d1 : wk vS 1 Gj
 | d2 : wk (xe vS) 1 Gj
 | u1 (a q n k x : Int) : wk (Ml a q n k x) 2 [.int .i64 a, .int .i64 q, .int .i64 n, .int .i64 k, .int .u64 x]
 | u2 (a q n k x : Int) : wk (xe (Ml a q n k x)) 2 [.int .i64 a, .int .i64 q, .int .i64 n, .int .i64 k, .int .u64 x]
section
variable {R : Mem} {L L' L2 : List HP} {M : Mem} {K : Value → Mem → Prop} {Kp : List PanicEntry → Mem → Prop} {u0 : Value} {S : Mem → List HP → Prop} {D : Mem → List PanicEntry → List HP → Prop}
def zz (R : Mem) (L : List HP) (u0 : Value) (S : Mem → List HP → Prop) (D : Mem → List PanicEntry → List HP → Prop) : Prop := ∀ (Q : HP) (M : Mem) (K : Value → Mem → Prop) (Kp : List PanicEntry → Mem → Prop), Hp R (Q :: L) M →
 (∀ R' L' M', S R' L' → Hp R' (Q :: L') M' → K (.tuple #[]) M') → (∀ R' l L' M', D R' l L' → Hp R' (Q :: L') M' → Kp l M') → gn Cx u0 [] M K Kp
theorem xg {b1 b2 : Nat} (h : Hp R (pt b1 [.int .i64 0] 3 :: pt b2 Gj 97 :: L) M) (hc : zz R L u0 S D) (hd : ∀ R' l L', D R' l L' → ∃ e vs, wk l e vs)
  (k : ∀ R' L' M', S R' L' → Hp R' (pt b1 [.int .i64 0] 3 :: pt b2 Gj 97 :: L') M' → K (.tuple #[]) M')
  (kd : ∀ R' l L' M' e vs, D R' l L' → wk l e vs → Hp R' (pt b1 [.int .i64 e] 3 :: pt b2 vs 97 :: L') M' → K (.tuple #[]) M') :
  aa Tryz.prog 116 #[u0, .pointer (some ⟨b1, 0, none⟩), .pointer (some ⟨b2, 0, none⟩)] M K Kp := by
 refine si ?_
 refine aj h ?_
 clear h
 intro k1 M h
 refine aj h ?_
 clear h
 intro k3 M h
 refine hc (sep [pt k3 [.pointer (some ⟨b2, 0, none⟩)] _, pt k1 [.pointer (some ⟨b1, 0, none⟩)] _, pt b1 [.int .i64 0] 3, pt b2 Gj 97]) M _ _ (Hp.aO.2 h) ?_ ?_
 ·clear h
  intro R' L' M' hs h
  have h := Hp.aO.1 h
  exact ⟨rfl, Fx (k R' L' M' hs h.drop.drop)⟩
 ·clear h
  intro R' l L' M hs h
  replace h := Hp.aO.1 h
  obtain ⟨e, vs, hg⟩ := hd _ _ _ hs
  have Sg := kd R' l L'
  simp only [List.cons_append, List.nil_append, Gj] at h Sg
  clear kd k hc hd
  cases hg with
  | d1 =>
   refine CW ?_
   repeat (first|(refine aj h ?_;clear h;intro kb M h)|(refine ak h ?_;clear h;intro M h)|refine St.to h ?_|(apply Exists.intro;(repeat apply Exists.intro);refine And.intro rfl ?_)|refine aq ?_|refine af ?_|refine ai ?_)
   exact Sg _ _ _ hs .d1 (h.sub bG)
  | d2 =>
   refine AW ?_
   repeat (first|(refine aj h ?_;clear h;intro kb M h)|(refine ak h ?_;clear h;intro M h)|refine St.to h ?_|(apply Exists.intro;(repeat apply Exists.intro);refine And.intro rfl ?_)|refine aq ?_|refine af ?_|refine ai ?_)
   exact Sg _ _ _ hs .d2 (h.sub bG)
  | u1 a q n k x =>
   refine w8 ?_
   repeat (first|(refine aj h ?_;clear h;intro kb M h)|(refine ak h ?_;clear h;intro M h)|refine St.to h ?_|(apply Exists.intro;(repeat apply Exists.intro);refine And.intro rfl ?_)|refine aq ?_|refine af ?_|refine ai ?_)
   exact Sg _ _ _ hs (.u1 a q n k x) (h.sub bG)
  | u2 a q n k x =>
   refine vu ?_
   repeat (first|(refine aj h ?_;clear h;intro kb M h)|(refine ak h ?_;clear h;intro M h)|refine St.to h ?_|(apply Exists.intro;(repeat apply Exists.intro);refine And.intro rfl ?_)|refine aq ?_|refine af ?_|refine ai ?_)
   exact Sg _ _ _ hs (.u2 a q n k x) (h.sub bG)
theorem wk.shape {l : List PanicEntry} {e : Int} {vs : List Value} (h : wk l e vs) : (e = 1 ∨ e = 2) ∧ ∃ a q n k x : Int, vs = [.int .i64 a, .int .i64 q, .int .i64 n, .int .i64 k, .int .u64 x] := by
 cases h with
 | d1 => exact ⟨.inl rfl, 0, 0, 0, 0, 0, rfl⟩
 | d2 => exact ⟨.inl rfl, 0, 0, 0, 0, 0, rfl⟩
 | u1 a q n k x => exact ⟨.inr rfl, a, q, n, k, x, rfl⟩
 | u2 a q n k x => exact ⟨.inr rfl, a, q, n, k, x, rfl⟩
theorem zA (h : Hp R L M) (hc : zz R L u0 S D) (hd : ∀ R' l L', D R' l L' → ∃ e vs, wk l e vs)
  (k : ∀ R' L' M', S R' L' → Hp R' L' M' → K (.tuple #[.int .i64 0, .agg #[.int .i64 0, .int .i64 0, .int .i64 0, .int .i64 0, .int .u64 0]]) M')
  (kd : ∀ R' l L' M' e a q n k x, D R' l L' → wk l e [.int .i64 a, .int .i64 q, .int .i64 n, .int .i64 k, .int .u64 x] → Hp R' L' M' → K (.tuple #[.int .i64 e, .agg #[.int .i64 a, .int .i64 q, .int .i64 n, .int .i64 k, .int .u64 x]]) M') :
  aa Tryz.prog 61 #[u0] M K Kp := by
 refine tJ ?_
 refine aj h ?_
 clear h
 intro k1 M h
 refine aj h ?_
 clear h
 intro k3 M h
 refine aj h ?_
 clear h
 intro k5 M h
 repeat (refine ak h ?_; clear h; intro M h)
 refine xg (S := fun R' L2 => ∃ L', S R' L' ∧ L2 = pt k1 Gj 97 :: L') (D := fun R' l L2 => ∃ L', D R' l L' ∧ L2 = pt k1 Gj 97 :: L') (L := pt k1 Gj 97 :: L) (h.sub bG) ?_ ?_ ?_ ?_
 ·intro Q M K Kp h SW k2
  refine hc (sep [Q, pt k1 Gj 97]) M K Kp (Hp.aO.2 h) ?_ ?_
  ·intro R' L' M' hs h
   exact SW R' _ M' ⟨L', hs, rfl⟩ (Hp.aO.1 h)
  ·intro R' l L' M' hs h
   exact k2 R' l _ M' ⟨L', hs, rfl⟩ (Hp.aO.1 h)
 ·rintro R' l _ ⟨L', hs, _⟩
  exact hd _ _ _ hs
 ·rintro R' _ M ⟨L', hs, rfl⟩ h
  clear hc hd kd
  simp only [Gj] at h
  refine ⟨rfl, ?_⟩
  repeat (first|(refine aj h ?_;clear h;intro kb M h)|(refine ak h ?_;clear h;intro M h)|refine St.to h ?_|(apply Exists.intro;(repeat apply Exists.intro);refine And.intro rfl ?_)|refine aq ?_|refine af ?_|refine ai ?_)
  exact k _ _ _ hs (h.sub bG)
 ·rintro R' l _ M e vs ⟨L', hs, rfl⟩ hg h
  obtain ⟨_, a, q, n, kk, x, rfl⟩ := hg.shape
  clear hc hd k
  simp only [Gj] at h
  refine ⟨rfl, ?_⟩
  repeat (first|(refine aj h ?_;clear h;intro kb M h)|(refine ak h ?_;clear h;intro M h)|refine St.to h ?_|(apply Exists.intro;(repeat apply Exists.intro);refine And.intro rfl ?_)|refine aq ?_|refine af ?_|refine ai ?_)
  exact kd _ _ _ _ _ _ _ _ _ _ hs hg (h.sub bG)
end
end Go.Proofs
namespace Go.Proofs
open Go.AF Go.Deep
theorem sO.rs {α : Type} {E : gi α} {M : Mem} {A : Option Addr} {n c : Nat} {ks : List IntKind} (h : sO M A n c ks) (f : (Nat → Int) → α) (hc : ∀ l, (kE ks).cells l = E.cells (l.map f)) : ∃ l : List α, l.length = n ∧ n ≤ c ∧ n ≤ 9223372036854775807 ∧ (0 < n → RS E M A c l) := by
 obtain ⟨l, rfl, h1, h2, h3, _⟩ := h
 refine ⟨l.map f, by simp, h1, Nat.le_trans h2 (by decide), fun h0 => ⟨?_, by simpa using h1⟩⟩
 rw [← hc]
 exact h3 h0
end Go.Proofs
namespace Go.Proofs
open Go.AF
set_option maxRecDepth 100000
set_option maxHeartbeats 1000000
attribute [local irreducible] aE cY gh cz ay fL az aF aX bh bJ aK
abbrev O9 (pa : PA) (p : cM) : Value := .agg #[.slice pa.f p.funcs.length pa.fc, .slice pa.c p.kC.length pa.cc, .int .i64 p.bE, .slice pa.k p.cases.length pa.kc]
section
variable {R : Mem} {L L' : List HP} {M : Mem} {K : Value → Mem → Prop} {Kp : List PanicEntry → Mem → Prop} {pa : PA} {p : cM}
theorem RS.cut {α : Type} {E : gi α} {R : Mem} {A : Option Addr} {c : Nat} {l : List α} (h : RS E R A c l) (q : Nat) : RS E R (iO A 0 c E.z) (c - 0) (l.take q) := by
 have h4 := (h.drop 0 (Nat.zero_le _)).take q
 rwa [List.drop_zero] at h4
end
end Go.Proofs
namespace Go.Proofs
open Go.AF
set_option maxRecDepth 100000
set_option maxHeartbeats 1000000
attribute [local irreducible] aE cY gh cz ay fL az aF aX bh bJ aK
attribute [local irreducible] JC Ms
abbrev rnC (pa : PA) (p : cM) (sb db : Nat) (A : Option Addr) (n c : Nat) : List Value :=
 [.slice pa.f p.funcs.length pa.fc, .slice pa.c p.kC.length pa.cc, .int .i64 p.bE, .slice pa.k p.cases.length pa.kc, .pointer (some ⟨sb, 0, none⟩), .pointer (some ⟨db, 0, none⟩), .slice A n c, .int .i64 0]
abbrev Gk (pa : PA) (p : cM) (b sb wb db : Nat) (A : Option Addr) (c : Nat) (x : Sc) (l : List Int) (L : List HP) : List HP :=
 pt b (rnC pa p sb db A l.length c) 208 :: b8 iU 117 A c l :: ax (gf pa p wb db) sb x :: L
theorem Pa : bn Tryz.prog 111 117 1 4 [.int .u32 0] := bn.mk' (zv := .int .u32 0) (by kernel_rfl) (by kernel_rfl) rfl (by omega)
abbrev unA (u0 u1 u2 u3 u4 : Int) : Value := .agg #[.int .i64 u0, .int .i64 u1, .int .i64 u2, .int .i64 u3, .int .u64 u4]
abbrev F0 (st steps eF : Int) (Ao : Option Addr) (n co : Nat) (As : Option Addr) (m cs : Nat) (e u0 u1 u2 u3 u4 : Int) : Value :=
 .agg #[.int .i64 st, .int .i64 steps, .int .i64 eF, .slice Ao n co, .slice As m cs, .int .i64 e, .int .i64 u0, .int .i64 u1, .int .i64 u2, .int .i64 u3, .int .u64 u4]
section
variable {R : Mem} {L L' : List HP} {M : Mem} {K : Value → Mem → Prop} {Kp : List PanicEntry → Mem → Prop} {pa : PA} {p : cM} {b sb wb db : Nat} {x x0 y : Sc} {A : Option Addr} {c : Nat} {l : List Int} {st e u0 u1 u2 u3 u4 : Int}
theorem Pb (h : Hp R L M) [q : od b L pa p wb db x L'] (k : K (.tuple #[.int .i64 x.w.end_, .int .i64 x.w.code]) M) : aa Tryz.prog 28 #[.pointer (some ⟨wb, 0, none⟩)] M K Kp := by
 have h' := ej h (b := b)
 clear h
 obtain ⟨a, hl, h⟩ := h'
 exact yh (b := wb) h k
theorem Pc (h : Hp R L M) [q : od b L pa p wb db x L'] (hs : x.w.out.length ≤ 1000000) (k : ∀ A c M', Hp R (qf A c x.w.out :: ax (gf pa p wb db) b x :: L') M' → K (.slice A x.w.out.length c) M') : aa Tryz.prog 23 #[.pointer (some ⟨wb, 0, none⟩)] M K Kp := by
 have h' := ej h (b := b)
 clear h
 obtain ⟨a, hla, h⟩ := h'
 refine FB (b := wb) h hs ?_
 clear h; intro A c M h
 have h2 : Hp R (fe (cR b wb db a x) x.gl :: ax (bk pa p) wb x.w :: ax (b5 .nilFunc) db x.d :: gd a x (qf A c x.w.out :: L')) M := h.sub bG
 exact k A c M ((gF hla h2).sub bG)
theorem BG {cf : SZ} {d : vR} (h : Hp R L M) [o : bO (b5 .nilFunc) db L d L'] (vz : RS bq R pa.c pa.cc p.kC) (hok : Mk p) (hP : 0 ≤ cf.P ∧ cf.P ≤ 1000000) (hM : 0 ≤ cf.M ∧ cf.M ≤ 1000000)
  (k : ∀ b sb wb M', Hp R (Gk pa p b sb wb db none 0 (Sc.new p cf d) [] L') M' → K (.pointer (some ⟨b, 0, none⟩)) M') :
  aa Tryz.prog 43 #[.agg #[.slice pa.f p.funcs.length pa.fc, .slice pa.c p.kC.length pa.cc, .int .i64 p.bE, .slice pa.k p.cases.length pa.kc], .agg #[.int .i64 cf.P, .int .i64 cf.M, .int .i64 cf.R, .int .i64 cf.S], .pointer (some ⟨db, 0, none⟩)] M K Kp := by
 refine vk ?_
 replace h := h.front (b5 .nilFunc) db
 refine aj h ?_
 clear h
 intro k1 M h
 refine aj h ?_
 clear h
 intro k3 M h
 refine av h (av h (ae h (av h (ae h (ae h (ae h (ae h (av h (av h (ae h (av h ?_)))))))))))
 refine FZ (p := p) (pa := pa) (c := cf) (d := d) h vz (by have := hok.ch; omega) (by have := hok.lk; omega) hP hM ?_
 clear h; intro sb wb M h
 refine gK ⟨dN h rfl, ?_⟩
 refine aj h ?_
 clear h
 intro b M h
 replace h := h.ck iU 117
 exact k b sb wb M (h.sub bG)
theorem zB (h : Hp R (Gk pa p b sb wb db A c x l L) M) (hs : l.length ≤ 1000000) (ho : x.w.out.length ≤ 1000000)
  (k : ∀ Ao co As cs M', Hp R (b8 iU 117 As cs l :: Gk pa p b sb wb db A c x l L) M' → K (F0 st x.steps x.w.code Ao x.w.out.length co As l.length cs e u0 u1 u2 u3 u4) M') :
  aa Tryz.prog 97 #[.pointer (some ⟨b, 0, none⟩), .int .i64 st, .int .i64 e, unA u0 u1 u2 u3 u4] M K Kp := by
 refine kG ?_
 refine aj h ?_
 clear h
 intro k1 M h
 refine aj h ?_
 clear h
 intro k3 M h
 refine om h ?_
 refine tj (b := sb) h (gK ?_)
 refine Pb (b := sb) h ⟨_, _, rfl, ?_⟩
 refine om h (om h (av h (ae h (ae h (ae h (ae h (ae h ⟨trivial, ?_⟩)))))))
 refine Bz (b := sb) h (bU ⟨dN h rfl, cH h, cH h, trivial, ?_⟩)
 refine tj (b := sb) h (gK ⟨dN h rfl, cH h, cH h, trivial, ?_⟩)
 refine Pc (b := sb) h ho ?_
 clear h; intro Ao co M h
 refine aY ⟨dN h rfl, cH h, cH h, ?_⟩
 refine aj h ?_
 clear h
 intro sR M h
 refine h.jc iU Pa l (Src.row (A := A)) rfl (by omega) ?_
 clear h; intro As cs M h
 refine aY ⟨dN h rfl, cH h, cH h, ?_⟩
 repeat (refine ak h ?_; clear h; intro M h)
 refine ⟨dN h rfl, cH h, cH h, ?_⟩
 refine ae h (ae h (ae h (av h (av h (ae h (ae h (ae h (ae h (ae h (ae h ?_))))))))))
 exact k Ao co As cs M (h.sub bG)
theorem BH (h : Hp R (Gk pa p b sb wb db A c x l L) M) (hs : l.length ≤ 1000000) (ho : x.w.out.length ≤ 1000000)
  (k : ∀ Ao co As cs M', Hp R (b8 iU 117 As cs l :: Gk pa p b sb wb db A c x l L) M' → K (F0 st x.steps x.w.code Ao x.w.out.length co As l.length cs 0 0 0 0 0 0) M') :
  aa Tryz.prog 98 #[.pointer (some ⟨b, 0, none⟩), .int .i64 st, .pointer none] M K Kp := by
 refine lB ?_
 refine aj h ?_
 clear h
 intro k1 M h
 refine ai ?_
 have h2 : Hp R (Gk pa p b sb wb db A c x l (pt k1 [.int .i64 0, .int .i64 0, .int .i64 0, .slice none 0 0, .slice none 0 0, .int .i64 0, .int .i64 0, .int .i64 0, .int .i64 0, .int .i64 0, .int .u64 0] 114 :: L)) M := h.sub bG
 clear h
 refine zB h2 hs ho ?_
 clear h2; intro Ao co As cs M h
 refine ⟨_, _, _, _, _, _, _, _, _, _, _, _, _, _, _, rfl, ?_⟩
 repeat (refine ak h ?_; clear h; intro M h)
 refine ae h (ae h (ae h (av h (av h (ae h (ae h (ae h (ae h (ae h (ae h ?_))))))))))
 exact k Ao co As cs M (h.sub bG)
theorem Dz (k : K (.int .i64 0) M) : aa Tryz.prog 96 #[.pointer (some ⟨b, 0, none⟩), .pointer none] M K Kp := by
 refine mD ?_
 exact af k
end
def alike (l r : List Int) (i : Nat) : Prop := ∀ t : Nat, t < i → l[t]? = r[t]?
theorem iM {l r : List Int} {i : Nat} (h : alike l r i) (e : l[i]? = r[i]?) : alike l r (i + 1) := fun t ht => by
 rcases Nat.lt_or_ge t i with h1 | h1
 ·exact h t h1
 ·obtain rfl : t = i := by omega
  exact e
theorem rh {l r : List Int} {i : Nat} (h : alike l r i) (h1 : l.length ≤ i) (h2 : r.length ≤ i) : l = r := by
 apply List.ext_getElem?
 intro t
 rcases Nat.lt_or_ge t i with h3 | h3
 ·exact h t h3
 ·rw [List.getElem?_eq_none (by omega), List.getElem?_eq_none (by omega)]
def BI (l r : List Int) (n : Int) : Prop := (n = -1 ∧ alike l r (min l.length r.length)) ∨ ∃ m : Nat, n = m ∧ m < l.length ∧ m < r.length ∧ l[m]? ≠ r[m]? ∧ alike l r m
theorem iu {l r : List Int} {n k : Int} (h1 : BI l r n) (h2 : BI l r k) : n = k := by
 rcases h1 with ⟨e1, a1⟩ | ⟨m, e1, b1, b2, b3, b4⟩ <;> rcases h2 with ⟨e2, a2⟩ | ⟨q, e2, c1, c2, c3, c4⟩
 ·omega
 ·exact absurd (a1 q (by omega)) c3
 ·exact absurd (a2 m (by omega)) b3
 ·rcases Nat.lt_trichotomy m q with h | h | h
  ·exact absurd (c4 m h) b3
  ·omega
  ·exact absurd (b4 q h) c3
section
variable {R : Mem} {L L' : List HP} {M : Mem} {K : Value → Mem → Prop} {Kp : List PanicEntry → Mem → Prop} {A B Ao Bo : Option Addr} {cA cB co cb : Nat} {l r lo ro : List Int} {s0 s1 s2 e0 u0 u1 u2 u3 u4 t0 t1 t2 f0 v0 v1 v2 v3 v4 : Int}
theorem BJ (h : Hp R L M) (hA : RS bq R A cA l) (hB : RS bq R B cB r) (h1 : l.length ≤ 1000) (h2 : r.length ≤ 1000) (k1 : l = r → ∀ M', Hp R L M' → K (.int .i64 0) M') (k2 : l ≠ r → ∀ M', Hp R L M' → K (.int .i64 (-1)) M') :
  aa Tryz.prog 39 #[.slice A l.length cA, .slice B r.length cB] M K Kp := by
 refine mE ?_
 refine bM.2 ⟨fun hne => k2 (fun e => hne (by rw [e])) _ h, fun hlen => ?_⟩
 refine ⟨fun d vs M' => ∃ i : Nat, vs = [.int .i64 (i : Int)] ∧ d = l.length - i ∧ i ≤ l.length ∧ alike l r i ∧ Hp R L M', ⟨_, 0, rfl, rfl, by omega, fun t ht => absurd ht (by omega), h⟩, ?_⟩
 clear h
 rintro d _ ii M ⟨i, he, hd, hi, DA, h⟩
 simp only [List.cons.injEq, Value.int.injEq, and_true, true_and] at he
 subst he
 refine aH.2 ⟨fun hlt => ?_, fun hge => k1 (rh DA (by omega) (by omega)) _ h⟩
 obtain ⟨a, ha⟩ := aL (l := l) (i := i) (by omega)
 obtain ⟨b, hb⟩ := aL (l := r) (i := i) (by omega)
 obtain ⟨b1, o1, rfl⟩ := hA.src.fa h (by omega) (by decide)
 obtain ⟨b2, o2, rfl⟩ := hB.src.fa h (by omega) (by decide)
 refine ⟨by omega, by omega, aS ⟨by omega, hlt, aS ?_⟩⟩
 simp only [Int.toNat_natCast]
 refine aW (hA.src.at h (j := 0) ha rfl (by simp [bq])) ?_
 refine aW (hB.src.at h (j := 0) hb rfl (by simp [bq])) ?_
 refine bM.2 ⟨fun hne => k2 (fun e => hne (by rw [e, hb] at ha; exact (Option.some.inj ha).symm)) _ h, fun heq => ?_⟩
 exact ⟨l.length - (i + 1), by omega, i + 1, by rw [aV (by omega)], rfl, by omega, iM DA (by rw [ha, hb, heq]), h⟩
theorem dy {x1 y1 x2 y2 x3 y3 : Int} {m n : Nat} (h : Hp R L M) (hA : RS iU R A cA l) (hB : RS iU R B cB r) (h1 : l.length ≤ 1000) (h2 : r.length ≤ 1000) (k : ∀ n M', BI l r n → Hp R L M' → K (.int .i64 n) M') :
  aa Tryz.prog 50 #[F0 x1 x2 x3 Ao m co A l.length cA e0 u0 u1 u2 u3 u4, F0 y1 y2 y3 Bo n cb B r.length cB f0 v0 v1 v2 v3 v4] M K Kp := by
 refine sg ?_
 refine aj h ?_
 clear h
 intro k1 M h
 refine aj h ?_
 clear h
 intro k3 M h
 refine av h (av h ?_)
 have emin : (if ((r.length : Nat) : Int) < ((l.length : Nat) : Int) then ((r.length : Nat) : Int) else ((l.length : Nat) : Int)) = ((min l.length r.length : Nat) : Int) := by split <;> omega
 rw [emin]
 refine ⟨fun d vs M' => ∃ i : Nat, vs = [.int .i64 (i : Int)] ∧ d = min l.length r.length - i ∧ i ≤ min l.length r.length ∧ alike l r i ∧ M' = M, ⟨_, 0, rfl, rfl, by omega, fun t ht => absurd ht (by omega), rfl⟩, ?_⟩
 rintro d _ ii M' ⟨i, he, hd, hi, DA, rfl⟩
 simp only [List.cons.injEq, Value.int.injEq, and_true, true_and] at he
 subst he
 refine aH.2 ⟨fun hlt => ?_, fun hge => k _ _ (.inl ⟨rfl, fun t ht => DA t (by omega)⟩) h.gk⟩
 obtain ⟨a, ha⟩ := aL (l := l) (i := i) (by omega)
 obtain ⟨b, hb⟩ := aL (l := r) (i := i) (by omega)
 obtain ⟨b1, o1, rfl⟩ := hA.src.fa h (by omega) (by decide)
 obtain ⟨b2, o2, rfl⟩ := hB.src.fa h (by omega) (by decide)
 refine av h ⟨by omega, by omega, aS ?_⟩
 simp only [Int.toNat_natCast]
 refine aW (hA.src.at h (j := 0) ha rfl (by simp [iU])) ?_
 refine av h ⟨by omega, by omega, aS ?_⟩
 refine aW (hB.src.at h (j := 0) hb rfl (by simp [iU])) ?_
 refine bM.2 ⟨fun hne => k _ _ (.inr ⟨i, rfl, by omega, by omega, by rw [ha, hb]; simpa using hne, DA⟩) h.gk, fun heq => ?_⟩
 exact ⟨min l.length r.length - (i + 1), by omega, i + 1, by rw [aV (by omega)], rfl, by omega, iM DA (by rw [ha, hb, heq]), trivial⟩
def um (s0 s1 s2 t0 t1 t2 : Int) (lo ro l r : List Int) : Prop := s0 = t0 ∧ s1 = t1 ∧ s2 = t2 ∧ lo = ro ∧ l = r
theorem cu (h : Hp R L M) (S8 : RS bq R Ao co lo) (S9 : RS bq R Bo cb ro) (hA : RS iU R A cA l) (hB : RS iU R B cB r) (h1 : l.length ≤ 1000) (h2 : r.length ≤ 1000) (h3 : lo.length ≤ 1000) (h4 : ro.length ≤ 1000)
  (k1 : um s0 s1 s2 t0 t1 t2 lo ro l r → ∀ M', Hp R L M' → K (.bool true) M') (k2 : ¬ um s0 s1 s2 t0 t1 t2 lo ro l r → ∀ M', Hp R L M' → K (.bool false) M') :
  aa Tryz.prog 51 #[F0 s0 s1 s2 Ao lo.length co A l.length cA e0 u0 u1 u2 u3 u4, F0 t0 t1 t2 Bo ro.length cb B r.length cB f0 v0 v1 v2 v3 v4] M K Kp := by
 refine vt ?_
 refine aj h ?_
 clear h
 intro kb1 M h
 refine aj h ?_
 clear h
 intro kb3 M h
 refine ae h (ae h (bM.2 ⟨fun hne => k2 (fun e => hne e.1) _ h.gk, fun q0 => ?_⟩))
 refine ae h (ae h (bM.2 ⟨fun hne => k2 (fun e => hne e.2.1) _ h.gk, fun q1 => ?_⟩))
 refine ae h (ae h (bM.2 ⟨fun hne => k2 (fun e => hne e.2.2.1) _ h.gk, fun q2 => ?_⟩))
 refine av h (av h (bM.2 ⟨fun hne => k2 (fun e => hne (by rw [e.2.2.2.1])) _ h.gk, fun q3 => ?_⟩))
 refine av h (av h (bM.2 ⟨fun hne => k2 (fun e => hne (by rw [e.2.2.2.2])) _ h.gk, fun q4 => ?_⟩))
 refine ae h (ae h (ae h (av h (av h (ae h (ae h (ae h (ae h (ae h (ae h ?_))))))))))
 refine ae h (ae h (ae h (av h (av h (ae h (ae h (ae h (ae h (ae h (ae h ?_))))))))))
 refine dy h hA hB h1 h2 ?_
 clear h; intro n M Hi h
 refine bU (aH.2 ⟨fun hge => k2 (fun e => ?_) _ h.gk, fun hlt => ?_⟩)
 ·rcases Hi with ⟨e1, _⟩ | ⟨m, _, _, _, b3, _⟩
  ·omega
  ·exact b3 (by rw [e.2.2.2.2])
 have q5 : l = r := by
  rcases Hi with ⟨_, a1⟩ | ⟨m, e1, _⟩
  ·exact rh a1 (by omega) (by omega)
  ·omega
 refine av h ?_
 refine ⟨fun d vs M' => ∃ i : Nat, vs = [.int .i64 (i : Int)] ∧ d = lo.length - i ∧ i ≤ lo.length ∧ alike lo ro i ∧ M' = M, ⟨_, 0, rfl, rfl, by omega, fun t ht => absurd ht (by omega), rfl⟩, ?_⟩
 rintro d _ ii M' ⟨i, he, hd, hi, DA, rfl⟩
 simp only [List.cons.injEq, Value.int.injEq, and_true, true_and] at he
 subst he
 refine aH.2 ⟨fun hlt => ?_, fun hge => k1 ⟨q0, q1, q2, rh DA (by omega) (by omega), q5⟩ _ h.gk⟩
 obtain ⟨a, ha⟩ := aL (l := lo) (i := i) (by omega)
 obtain ⟨b, hb⟩ := aL (l := ro) (i := i) (by omega)
 obtain ⟨b1, o1, rfl⟩ := S8.src.fa h (by omega) (by decide)
 obtain ⟨b2, o2, rfl⟩ := S9.src.fa h (by omega) (by decide)
 refine ⟨by omega, hlt, aS ?_⟩
 simp only [Int.toNat_natCast]
 refine aW (S8.src.at h (j := 0) ha rfl (by simp [bq])) ?_
 refine av h ⟨by omega, by omega, aS ?_⟩
 refine aW (S9.src.at h (j := 0) hb rfl (by simp [bq])) ?_
 refine bM.2 ⟨fun hne => k2 (fun e => hne (by rw [e.2.2.2.1, hb] at ha; exact Option.some.inj ha)) _ h.gk, fun heq => ?_⟩
 exact ⟨lo.length - (i + 1), by omega, i + 1, by rw [aV (by omega)], rfl, by omega, iM DA (by rw [ha, hb, heq]), trivial⟩
theorem wm (h : Hp R L M) (S8 : RS bq R Ao co lo) (S9 : RS bq R Bo cb ro) (hA : RS iU R A cA l) (hB : RS iU R B cB r) (h1 : l.length ≤ 1000) (h2 : r.length ≤ 1000) (h3 : lo.length ≤ 1000) (h4 : ro.length ≤ 1000)
  (k1 : um s0 s1 s2 t0 t1 t2 lo ro l r → ∀ M', Hp R L M' → K (.int .i64 0) M') (k2 : ¬ um s0 s1 s2 t0 t1 t2 lo ro l r → ∀ M', Hp R L M' → K (.int .i64 (-1)) M') :
  aa Tryz.prog 49 #[F0 s0 s1 s2 Ao lo.length co A l.length cA e0 u0 u1 u2 u3 u4, .agg #[.int .i64 t0, .int .i64 t1, .int .i64 t2, .slice Bo ro.length cb, .slice B r.length cB]] M K Kp := by
 refine pg ?_
 refine aj h ?_
 clear h
 intro kb1 M h
 refine aj h ?_
 clear h
 intro kb3 M h
 refine ae h (ae h (bM.2 ⟨fun hne => k2 (fun e => hne e.1) _ h.gk, fun q0 => ?_⟩))
 refine ae h (ae h (bM.2 ⟨fun hne => k2 (fun e => hne e.2.1) _ h.gk, fun q1 => ?_⟩))
 refine ae h (ae h (bM.2 ⟨fun hne => k2 (fun e => hne e.2.2.1) _ h.gk, fun q2 => ?_⟩))
 refine av h (av h ?_)
 refine BJ h S8 S9 h3 h4 (fun q3 M h => ?_) (fun hne M h => bU (eu (by decide) (k2 (fun e => hne e.2.2.2.1) _ h.gk)))
 refine bU (lW (by decide) ?_)
 refine av h (av h (bM.2 ⟨fun hne => k2 (fun e => hne (by rw [e.2.2.2.2])) _ h.gk, fun q4 => ?_⟩))
 refine av h ?_
 refine ⟨fun d vs M' => ∃ i : Nat, vs = [.int .i64 (i : Int)] ∧ d = r.length - i ∧ i ≤ r.length ∧ alike l r i ∧ M' = M, ⟨_, 0, rfl, rfl, by omega, fun t ht => absurd ht (by omega), rfl⟩, ?_⟩
 rintro d _ ii M' ⟨i, he, hd, hi, DA, rfl⟩
 simp only [List.cons.injEq, Value.int.injEq, and_true, true_and] at he
 subst he
 refine aH.2 ⟨fun hlt => ?_, fun hge => k1 ⟨q0, q1, q2, q3, rh DA (by omega) (by omega)⟩ _ h.gk⟩
 obtain ⟨a, ha⟩ := aL (l := l) (i := i) (by omega)
 obtain ⟨b, hb⟩ := aL (l := r) (i := i) (by omega)
 obtain ⟨b1, o1, rfl⟩ := hA.src.fa h (by omega) (by decide)
 obtain ⟨b2, o2, rfl⟩ := hB.src.fa h (by omega) (by decide)
 refine ⟨by omega, hlt, aS ?_⟩
 simp only [Int.toNat_natCast]
 refine aW (hB.src.at h (j := 0) hb rfl (by simp [iU])) ?_
 refine av h ⟨by omega, by omega, aS ?_⟩
 refine aW (hA.src.at h (j := 0) ha rfl (by simp [iU])) ?_
 refine bM.2 ⟨fun hne => k2 (fun e => hne (by rw [e.2.2.2.2, hb] at ha; exact (Option.some.inj ha).symm)) _ h.gk, fun heq => ?_⟩
 exact ⟨r.length - (i + 1), by omega, i + 1, by rw [aV (by omega)], rfl, by omega, iM DA (by rw [ha, hb, heq]), trivial⟩
theorem Jh {m n c d : Nat} (h : Hp R L M) (h1 : m ≤ c) (h2 : n ≤ d)
  (k : ∀ M', Hp R L M' → K (F0 s0 s1 s2 (iO A 0 c 1) (min 9 m) (c - 0) (iO B 0 d 1) (min 20 n) (d - 0) 0 0 0 0 0 0) M') :
  aa Tryz.prog 48 #[.agg #[.int .i64 s0, .int .i64 s1, .int .i64 s2, .slice A m c, .slice B n d]] M K Kp := by
 refine gV ?_
 refine aj h ?_
 clear h
 intro k1 M h
 refine aj h ?_
 clear h
 intro k3 M h
 have e9 : Int.toNat (if (9 : Int) < ((m : Nat) : Int) then 9 else ((m : Nat) : Int)) - 0 = min 9 m := by split <;> omega
 have e20 : Int.toNat (if (20 : Int) < ((n : Nat) : Int) then 20 else ((n : Nat) : Int)) - 0 = min 20 n := by split <;> omega
 refine ae h (ae h (ae h (av h (av h ⟨by omega, by omega, by split <;> omega, by split <;> omega, by omega, by split <;> omega, ?_⟩))))
 refine av h (av h ⟨by omega, by omega, by split <;> omega, by split <;> omega, by omega, by split <;> omega, ?_⟩)
 simp only [e9, e20, Int.toNat_natCast]
 repeat (refine ak h ?_; clear h; intro M h)
 refine ae h (ae h (ae h (av h (av h (ae h (ae h (ae h (ae h (ae h (ae h ?_))))))))))
 exact k M (h.sub bG)
end
end Go.Proofs
