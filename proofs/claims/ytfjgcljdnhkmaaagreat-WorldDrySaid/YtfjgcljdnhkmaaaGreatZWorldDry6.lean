/- A part of proofs about one program. -/
import Derived.Test.YtfjgcljdnhkmaaaGreatZWorldDry5
set_option linter.unusedVariables false
namespace Go.Proofs
open Go.AF
set_option maxRecDepth 100000
set_option maxHeartbeats 1000000
attribute [local irreducible] bG dF ff dP aF fa aE b7 aO bk bJ aM
attribute [local irreducible] zm dO
section
variable {R : Mem} {L L' : List HP} {M : Mem} {K : Value → Mem → Prop} {Kp : List PanicEntry → Mem → Prop} {a : Av} {p : cy} {x : Wd} {g : Int} {i : bZ} {d : Int}
def Wd.E5 (p : cy) (x : Wd) (g : Int) (i : bZ) : Wd := if (x.nU p i.a (aK x g i.b)).2 = true then (x.nU p i.a (aK x g i.b)).1
 else (x.bg i.a { aX x.av i.a with snd := (aX x.av i.a).snd ++ [⟨g, 0, aK x g i.b⟩] }).mM g 2 i
def Wd.E6 (x : Wd) (g : Int) (i : bZ) : Wd := if (x.jZ i.a).2.2.2 = true then ((x.jZ i.a).1.aW g i.b (x.jZ i.a).2.1).aW g i.c (x.jZ i.a).2.2.1
 else (x.bg i.a { aX x.av i.a with cH := (aX x.av i.a).cH ++ [⟨g, 0, 0⟩] }).mM g 2 i
theorem Hf (h : Hp R L M) (hw : eM R a p x) (hg : aT x g) (hs : x.Sm) (hop : i.op = 13) (hb : aR i.b) (j0 : 0 ≤ i.a) (j1 : i.a < x.av.length) (hput : E1 p x i.a (aK x g i.b))
  (k : ∀ R' a' M', R.le R' → eM R' a' p (x.E5 p g i) → Hp R' L M' → K (gG a' p (x.E5 p g i)) M') :
  ae Tryz.prog 113 #[gG a p x, .int .i64 g, .agg #[.int .i64 i.op, .int .i64 i.a, .int .i64 i.b, .int .i64 i.c], .int .i64 d] M K Kp := by
 refine bn ?_
 obtain ⟨rs, bx, dQ⟩ := hw.gs
 obtain ⟨g0, g1, g2, g3⟩ := id hg
 have hn := hs.2.2.1
 have qZ := hs.2.1
 refine ai h ?_
 clear h
 intro q1 M h
 refine ai h ?_
 clear h
 intro q3 M h
 refine ai h ?_
 clear h
 intro q5 M h
 obtain ⟨⟨oV, rA, rn, rc, AU⟩, hr, e1, e2, e3, e4⟩ := dQ.at (bM g0 g1)
 dsimp only at e1 e2 e3 e4
 subst e1; subst e2; subst e4
 obtain ⟨b, o, jG⟩ := bx.some (by rw [dQ.1]; omega) (by decide)
 rw [jG] at bx
 obtain ⟨bf, of, qK⟩ := e3.some (by omega) (by decide)
 subst qK
 refine ax h ⟨g0, g1, bq jG ?_⟩
 refine aj (Src.at bx.src h hr (j := 0) rfl (by simp [tS])) ?_
 refine bu (Src.at bx.src h hr (j := 1) rfl rfl) ?_
 refine aj (Src.at bx.src h hr (j := 2) rfl rfl) ?_
 refine aj (Src.at bx.src h hr (j := 3) rfl rfl) ?_
 refine aj (Src.at bx.src h hr (j := 4) rfl rfl) ?_
 refine aj (Src.at bx.src h hr (j := 5) rfl rfl) ?_
 refine ai h ?_
 clear h
 intro zh M h
 repeat (refine ak h ?_; clear h; intro M h)
 refine ax h (ax h ?_)
 dsimp only
 rw [cK g2 (by omega)]
 refine ⟨by omega, by omega, aV ?_⟩
 rw [Int.toNat_natCast]
 have ht := bR g2
 refine aj (Src.at e3.src h ht (j := 0) rfl rfl) ?_
 refine aj (Src.at e3.src h ht (j := 1) rfl rfl) ?_
 refine aj (Src.at e3.src h ht (j := 2) rfl rfl) ?_
 refine aj (Src.at e3.src h ht (j := 3) rfl rfl) ?_
 refine aj (Src.at e3.src h ht (j := 4) rfl rfl) ?_
 refine aj (Src.at e3.src h ht (j := 5) rfl rfl) ?_
 refine aj (Src.at e3.src h ht (j := 6) rfl rfl) ?_
 refine aj (Src.at e3.src h ht (j := 7) rfl rfl) ?_
 refine aj (Src.at e3.src h ht (j := 8) rfl rfl) ?_
 refine aj (Src.at e3.src h ht (j := 9) rfl rfl) ?_
 refine aj (Src.at e3.src h ht (j := 10) rfl rfl) ?_
 refine ai h ?_
 clear h
 intro yc M h
 repeat (refine ak h ?_; clear h; intro M h)
 replace h : Hp R (pt yc (gJ (aa x g).top) tF :: pt zh [.int .i64 (aa x g).st, .slice (some ⟨bf, of, none⟩) (aa x g).fs.length rc, .int .i64 (aa x g).wt.op, .int .i64 (aa x g).wt.a, .int .i64 (aa x g).wt.b, .int .i64 (aa x g).wt.c] tG :: pt q5 gC tW :: pt q3 [.int .i64 i.op, .int .i64 i.a, .int .i64 i.b, .int .i64 i.c] tI :: pt q1 (ke a p x) tW :: L) M := h.sub bz
 refine az h ?_
 refine aD (by simp [hop]) ?_
 refine aD (by simp [hop]) ?_
 refine aD (by simp [hop]) ?_
 refine bY (by simp [hop]) ?_
 refine aI h rfl (az h (az h ⟨hb.1, hb.2, ?_⟩))
 refine aj (bQ (j := 2 + i.b.toNat) h (dL hb.1 hb.2)) ⟨trivial, ?_⟩
 unfold Wd.E5 at k
 refine EU (v := aK x g i.b) h hw j0 j1 hs hput.1 hput.2 ?_
 clear h; intro R1 a1 M l1 RH h
 generalize (x.nU p i.a (aK x g i.b)).2 = tb at k ⊢
 generalize (x.nU p i.a (aK x g i.b)).1 = y at k RH h ⊢
 refine ⟨ke a1 p y, rfl, tb, rfl, ?_⟩
 refine ai h ?_
 clear h
 intro q280 M h
 refine bl h rfl rfl rfl ?_
 clear h; intro M h
 cases tb with
 | true =>
  rw [if_pos rfl] at k
  refine bY rfl ?_
  refine aI h rfl ?_
  refine bl h rfl rfl rfl ?_
  clear h; intro M h
  refine aI h rfl ?_
  exact k _ _ _ l1 RH (h.sub bz)
 | false =>
  rw [if_neg (by decide)] at k
  refine aD rfl ?_
  obtain ⟨rch, wE, GQ⟩ := hw.av
  obtain ⟨r, NG, hrc⟩ := GQ.at (iu j0 j1)
  have rK := hs.1 _ (List.mem_of_getElem? (iu j0 j1))
  generalize QK : aX x.av i.a = cc at hrc rK k
  obtain ⟨sm1, sm2, sm3⟩ := rK
  obtain ⟨A, ca, B, cb, D, cd, rfl, w1, w2, w3⟩ := hrc.eq
  obtain ⟨bc, oc, hbc⟩ := wE.some (by rw [GQ.1]; omega) (by decide)
  rw [hbc] at wE
  refine ax h (az h ⟨j0, j1, bq hbc ?_⟩)
  refine aj (Src.at (wE.le l1).src h NG (j := 0) rfl (by simp [yb])) ?_
  refine bu (Src.at (wE.le l1).src h NG (j := 1) rfl rfl) ?_
  refine bu (Src.at (wE.le l1).src h NG (j := 2) rfl rfl) ?_
  refine bu (Src.at (wE.le l1).src h NG (j := 3) rfl rfl) ?_
  refine u9 (Src.at (wE.le l1).src h NG (j := 4) rfl rfl) ?_
  refine ai h ?_
  clear h
  intro q303 M h
  repeat (refine ak h ?_; clear h; intro M h)
  refine ax h (az h ⟨hb.1, hb.2, ?_⟩)
  refine aj (bQ (j := 2 + i.b.toNat) h (dL hb.1 hb.2)) ?_
  refine ai h ?_
  clear h
  intro q315 M h
  refine ⟨trivial, ?_⟩
  refine h.b6 cC hU cc.snd (w2.le l1).src rfl (by omega) ?_
  clear h; intro A' c' M h
  refine aY ⟨bQ (j := 2 + i.b.toNat) h (dL hb.1 hb.2), cv h, ?_⟩
  refine ai h ?_
  clear h
  intro q322 M h
  refine h.be (A := A') hU [(⟨g, 0, aK x g i.b⟩ : Wt)] rfl rfl (by simp only [List.length_singleton]; omega) ?_
  clear h; intro A2 c2 M h
  refine aY ⟨bQ (j := 2 + i.b.toNat) h (dL hb.1 hb.2), cv h, ?_⟩
  refine ak h ?_
  clear h
  intro M h
  refine ⟨bQ (j := 2 + i.b.toNat) h (dL hb.1 hb.2), cv h, ?_⟩
  obtain ⟨R2, l2, r2, h2⟩ := h.bB A2
  clear h
  refine aI h2 rfl (az h2 (az h2 (ax h2 (ax h2 (ax h2 (m6 h2 (az h2 (az h2 (az h2 (az h2 ?_))))))))))
  have w1' := w1.le (Mem.le_trans l1 l2)
  have w2' := w2.le (Mem.le_trans l1 l2)
  have w3' := w3.le (Mem.le_trans l1 l2)
  refine ja (r := ⟨cc.room, A, cc.buf.length, ca, A2, (cc.snd ++ [(⟨g, 0, aK x g i.b⟩ : Wt)]).length, c2, D, cc.cH.length, cd, cc.closed⟩) (c := { cc with snd := cc.snd ++ [⟨g, 0, aK x g i.b⟩] }) h2 (hw.le (Mem.le_trans l1 l2)) ⟨_, _, _, _, _, _, rfl, w1', r2, w3'⟩ j0 j1 (by omega) ?_
  clear h2; intro R3 a3 M l3 nT h
  refine ⟨_, _, _, _, _, _, _, _, _, _, _, _, _, _, rfl, fA h rfl, ?_⟩
  refine gD (i := i) (s := 2) h nT g0 g1 (by show x.gs.length ≤ _; omega) ?_
  clear h; intro R4 a4 M l4 Q9 h
  refine ⟨_, _, _, _, _, _, _, _, _, _, _, _, _, _, rfl, fA h rfl, ?_⟩
  refine bl h rfl rfl rfl ?_
  clear h; intro M h
  refine ⟨fA h rfl, ?_⟩
  refine aI h rfl ?_
  exact k _ _ _ (Mem.le_trans l1 (Mem.le_trans l2 (Mem.le_trans l3 l4))) Q9 (h.sub bz)
theorem Hg (h : Hp R L M) (hw : eM R a p x) (hg : aT x g) (hs : x.Sm) (hop : i.op = 14) (hb : aR i.b) (hc : aR i.c) (j0 : 0 ≤ i.a) (j1 : i.a < x.av.length) (DQ : E2 x i.a)
  (k : ∀ R' a' M', R.le R' → eM R' a' p (x.E6 g i) → Hp R' L M' → K (gG a' p (x.E6 g i)) M') :
  ae Tryz.prog 113 #[gG a p x, .int .i64 g, .agg #[.int .i64 i.op, .int .i64 i.a, .int .i64 i.b, .int .i64 i.c], .int .i64 d] M K Kp := by
 refine bn ?_
 obtain ⟨rs, bx, dQ⟩ := hw.gs
 obtain ⟨g0, g1, g2, g3⟩ := id hg
 have hn := hs.2.2.1
 have qZ := hs.2.1
 refine ai h ?_
 clear h
 intro q1 M h
 refine ai h ?_
 clear h
 intro q3 M h
 refine ai h ?_
 clear h
 intro q5 M h
 obtain ⟨⟨oV, rA, rn, rc, AU⟩, hr, e1, e2, e3, e4⟩ := dQ.at (bM g0 g1)
 dsimp only at e1 e2 e3 e4
 subst e1; subst e2; subst e4
 obtain ⟨b, o, jG⟩ := bx.some (by rw [dQ.1]; omega) (by decide)
 rw [jG] at bx
 obtain ⟨bf, of, qK⟩ := e3.some (by omega) (by decide)
 subst qK
 refine ax h ⟨g0, g1, bq jG ?_⟩
 refine aj (Src.at bx.src h hr (j := 0) rfl (by simp [tS])) ?_
 refine bu (Src.at bx.src h hr (j := 1) rfl rfl) ?_
 refine aj (Src.at bx.src h hr (j := 2) rfl rfl) ?_
 refine aj (Src.at bx.src h hr (j := 3) rfl rfl) ?_
 refine aj (Src.at bx.src h hr (j := 4) rfl rfl) ?_
 refine aj (Src.at bx.src h hr (j := 5) rfl rfl) ?_
 refine ai h ?_
 clear h
 intro zh M h
 repeat (refine ak h ?_; clear h; intro M h)
 refine ax h (ax h ?_)
 dsimp only
 rw [cK g2 (by omega)]
 refine ⟨by omega, by omega, aV ?_⟩
 rw [Int.toNat_natCast]
 have ht := bR g2
 refine aj (Src.at e3.src h ht (j := 0) rfl rfl) ?_
 refine aj (Src.at e3.src h ht (j := 1) rfl rfl) ?_
 refine aj (Src.at e3.src h ht (j := 2) rfl rfl) ?_
 refine aj (Src.at e3.src h ht (j := 3) rfl rfl) ?_
 refine aj (Src.at e3.src h ht (j := 4) rfl rfl) ?_
 refine aj (Src.at e3.src h ht (j := 5) rfl rfl) ?_
 refine aj (Src.at e3.src h ht (j := 6) rfl rfl) ?_
 refine aj (Src.at e3.src h ht (j := 7) rfl rfl) ?_
 refine aj (Src.at e3.src h ht (j := 8) rfl rfl) ?_
 refine aj (Src.at e3.src h ht (j := 9) rfl rfl) ?_
 refine aj (Src.at e3.src h ht (j := 10) rfl rfl) ?_
 refine ai h ?_
 clear h
 intro yc M h
 repeat (refine ak h ?_; clear h; intro M h)
 replace h : Hp R (pt yc (gJ (aa x g).top) tF :: pt zh [.int .i64 (aa x g).st, .slice (some ⟨bf, of, none⟩) (aa x g).fs.length rc, .int .i64 (aa x g).wt.op, .int .i64 (aa x g).wt.a, .int .i64 (aa x g).wt.b, .int .i64 (aa x g).wt.c] tG :: pt q5 gC tW :: pt q3 [.int .i64 i.op, .int .i64 i.a, .int .i64 i.b, .int .i64 i.c] tI :: pt q1 (ke a p x) tW :: L) M := h.sub bz
 refine az h ?_
 refine aD (by simp [hop]) ?_
 refine aD (by simp [hop]) ?_
 refine aD (by simp [hop]) ?_
 refine aD (by simp [hop]) ?_
 refine bY (by simp [hop]) ?_
 refine aI h rfl (az h ?_)
 unfold Wd.E6 at k
 refine EV h hw j0 j1 hs DQ.1 DQ.2 ?_
 have NQ : bT x (x.jZ i.a).1 := bT.jZ
 clear h; intro R1 a1 M l1 RH h
 generalize (x.jZ i.a).2.1 = n1 at k ⊢
 generalize (x.jZ i.a).2.2.1 = n2 at k ⊢
 generalize (x.jZ i.a).2.2.2 = tb at k ⊢
 generalize (x.jZ i.a).1 = y at k RH h NQ ⊢
 refine ⟨ke a1 p y, rfl, n1, n2, tb, rfl, ?_⟩
 refine ai h ?_
 clear h
 intro q389 M h
 refine bl h rfl rfl rfl ?_
 clear h; intro M h
 cases tb with
 | true =>
  rw [if_pos rfl] at k
  refine bY rfl ?_
  refine aI h rfl (az h (az h ?_))
  refine fG h RH (NQ.ok hg) (by rw [NQ.1]; omega) hb ?_
  clear h; intro R2 a2 M l2 cu h
  refine ⟨_, _, _, _, _, _, _, _, _, _, _, _, _, _, rfl, cv h, ?_⟩
  refine fG h cu ((NQ.trans bT.bH).ok hg) (by rw [(NQ.trans bT.bH).1]; omega) hc ?_
  clear h; intro R3 a3 M l3 nT h
  refine ⟨_, _, _, _, _, _, _, _, _, _, _, _, _, _, rfl, cv h, ?_⟩
  refine bl h rfl rfl rfl ?_
  clear h; intro M h
  refine ⟨cv h, ?_⟩
  refine aI h rfl ?_
  exact k _ _ _ (Mem.le_trans l1 (Mem.le_trans l2 l3)) nT (h.sub bz)
 | false =>
  rw [if_neg (by decide)] at k
  refine aD rfl ?_
  obtain ⟨rch, wE, GQ⟩ := hw.av
  obtain ⟨r, NG, hrc⟩ := GQ.at (iu j0 j1)
  have rK := hs.1 _ (List.mem_of_getElem? (iu j0 j1))
  generalize QK : aX x.av i.a = cc at hrc rK k
  obtain ⟨sm1, sm2, sm3⟩ := rK
  obtain ⟨A, ca, B, cb, D, cd, rfl, w1, w2, w3⟩ := hrc.eq
  obtain ⟨bc, oc, hbc⟩ := wE.some (by rw [GQ.1]; omega) (by decide)
  rw [hbc] at wE
  refine ax h (az h ⟨j0, j1, bq hbc ?_⟩)
  refine aj (Src.at (wE.le l1).src h NG (j := 0) rfl (by simp [yb])) ?_
  refine bu (Src.at (wE.le l1).src h NG (j := 1) rfl rfl) ?_
  refine bu (Src.at (wE.le l1).src h NG (j := 2) rfl rfl) ?_
  refine bu (Src.at (wE.le l1).src h NG (j := 3) rfl rfl) ?_
  refine u9 (Src.at (wE.le l1).src h NG (j := 4) rfl rfl) ?_
  refine ai h ?_
  clear h
  intro q303 M h
  repeat (refine ak h ?_; clear h; intro M h)
  refine ai h ?_
  clear h
  intro q453 M h
  refine ax h ?_
  refine h.b6 cC hU cc.cH (w3.le l1).src rfl (by omega) ?_
  clear h; intro A' c' M h
  refine aY ?_
  refine ai h ?_
  clear h
  intro q463 M h
  refine h.be (A := A') hU [(⟨g, 0, 0⟩ : Wt)] rfl rfl (by simp only [List.length_singleton]; omega) ?_
  clear h; intro A2 c2 M h
  refine aY ?_
  refine ak h ?_
  clear h
  intro M h
  obtain ⟨R2, l2, r2, h2⟩ := h.bB A2
  clear h
  refine aI h2 rfl (az h2 (az h2 (ax h2 (ax h2 (ax h2 (m6 h2 (az h2 (az h2 (az h2 (az h2 ?_))))))))))
  have w1' := w1.le (Mem.le_trans l1 l2)
  have w2' := w2.le (Mem.le_trans l1 l2)
  have w3' := w3.le (Mem.le_trans l1 l2)
  refine ja (r := ⟨cc.room, A, cc.buf.length, ca, B, cc.snd.length, cb, A2, (cc.cH ++ [(⟨g, 0, 0⟩ : Wt)]).length, c2, cc.closed⟩) (c := { cc with cH := cc.cH ++ [⟨g, 0, 0⟩] }) h2 (hw.le (Mem.le_trans l1 l2)) ⟨_, _, _, _, _, _, rfl, w1', w2', r2⟩ j0 j1 (by omega) ?_
  clear h2; intro R3 a3 M l3 nT h
  refine ⟨_, _, _, _, _, _, _, _, _, _, _, _, _, _, rfl, fA h rfl, ?_⟩
  refine gD (i := i) (s := 2) h nT g0 g1 (by show x.gs.length ≤ _; omega) ?_
  clear h; intro R4 a4 M l4 Q9 h
  refine ⟨_, _, _, _, _, _, _, _, _, _, _, _, _, _, rfl, fA h rfl, ?_⟩
  refine bl h rfl rfl rfl ?_
  clear h; intro M h
  refine ⟨fA h rfl, ?_⟩
  refine aI h rfl ?_
  exact k _ _ _ (Mem.le_trans l1 (Mem.le_trans l2 (Mem.le_trans l3 l4))) Q9 (h.sub bz)
end
section
variable {R : Mem} {L L' : List HP} {M : Mem} {K : Value → Mem → Prop} {Kp : List PanicEntry → Mem → Prop} {a : Av} {p : cy} {x : Wd} {g : Int} {i : bZ} {d : Int}
def Wd.CK (x : Wd) (f v : Int) : Wd := { x with gs := x.gs ++ [⟨0, [eH.begin f v], .zero⟩] }
def Wd.zi (x : Wd) (g : Int) (i : bZ) : Wd := if 100 ≤ x.gs.length then x.iJ (-5) else
 ((x.CK i.a (aK x g i.b)).eZ (x.gs.length : Int)).aW g i.c (x.gs.length : Int)
def zj (l : Lk) (g : Int) : Lk := (l.take g).1
def Wd.E7 (x : Wd) (g : Int) (i : bZ) : Wd := if (cQ x i.a).owner = -1 then x.da i.a (zj (cQ x i.a) g) else (x.da i.a (zj (cQ x i.a) g)).mM g 2 i
def Wd.tV (x : Wd) (g : Int) (i : bZ) : Wd :=
 if ((cQ x i.a).gU g).2.2 ≠ 0 then x.iJ (-3)
 else if 0 ≤ ((cQ x i.a).gU g).2.1 then (x.da i.a ((cQ x i.a).gU g).1).eZ ((cQ x i.a).gU g).2.1 else x.da i.a ((cQ x i.a).gU g).1
theorem Y5 {f v q : Int} (h1 : q.toNat < x.gs.length) : aa (x.CK f v) q = aa x q := by
 unfold aa Wd.CK
 rw [List.getD_eq_getElem?_getD, List.getD_eq_getElem?_getD, List.getElem?_append_left h1]
theorem VV {l : Lk} {g : Int} (hg : g ≠ -1) (hl : l.owner = -1 → l.waits = []) : wC (zj l g) = wC l ++ [g] := by
 unfold zj Lk.take wC
 by_cases h : l.owner = -1
 ·simp [h, hg, hl h]
 ·simp [h]
theorem CL {j : Int} (h0 : 0 ≤ j) (h1 : j < x.aC.length) : x.aC[j.toNat]? = some (cQ x j) := by
 unfold cQ
 rw [List.getD_eq_getElem?_getD, List.getElem?_eq_getElem (by omega)]; rfl
def CM (l : Lk) : Prop := (l.owner = -1 → l.waits = []) ∧ (∀ w ∈ l.waits, w ≠ -1) ∧ l.waits.length ≤ 100000
theorem O0 {l : Lk} : (wC l).length ≤ l.waits.length + 1 := by
 unfold wC; split <;> simp
theorem VW {l : Lk} : (((wC l).length : Int) == 0) = decide (l.owner = -1) := by
 unfold wC; split
 ·rename_i h; simp [h]
 ·rename_i h; simp [h]; omega
theorem Hh (h : Hp R L M) (hw : eM R a p x) (hg : aT x g) (hs : x.Sm) (hop : i.op = 11) (hb : aR i.b) (hc : aR i.c)
  (k : ∀ R' a' M', R.le R' → eM R' a' p (x.zi g i) → Hp R' L M' → K (gG a' p (x.zi g i)) M') :
  ae Tryz.prog 113 #[gG a p x, .int .i64 g, .agg #[.int .i64 i.op, .int .i64 i.a, .int .i64 i.b, .int .i64 i.c], .int .i64 d] M K Kp := by
 refine bn ?_
 obtain ⟨rs, bx, dQ⟩ := hw.gs
 obtain ⟨g0, g1, g2, g3⟩ := id hg
 have hn := hs.2.2.1
 have qZ := hs.2.1
 refine ai h ?_
 clear h
 intro q1 M h
 refine ai h ?_
 clear h
 intro q3 M h
 refine ai h ?_
 clear h
 intro q5 M h
 obtain ⟨⟨oV, rA, rn, rc, AU⟩, hr, e1, e2, e3, e4⟩ := dQ.at (bM g0 g1)
 dsimp only at e1 e2 e3 e4
 subst e1; subst e2; subst e4
 obtain ⟨b, o, jG⟩ := bx.some (by rw [dQ.1]; omega) (by decide)
 rw [jG] at bx
 obtain ⟨bf, of, qK⟩ := e3.some (by omega) (by decide)
 subst qK
 refine ax h ⟨g0, g1, bq jG ?_⟩
 refine aj (Src.at bx.src h hr (j := 0) rfl (by simp [tS])) ?_
 refine bu (Src.at bx.src h hr (j := 1) rfl rfl) ?_
 refine aj (Src.at bx.src h hr (j := 2) rfl rfl) ?_
 refine aj (Src.at bx.src h hr (j := 3) rfl rfl) ?_
 refine aj (Src.at bx.src h hr (j := 4) rfl rfl) ?_
 refine aj (Src.at bx.src h hr (j := 5) rfl rfl) ?_
 refine ai h ?_
 clear h
 intro zh M h
 repeat (refine ak h ?_; clear h; intro M h)
 refine ax h (ax h ?_)
 dsimp only
 rw [cK g2 (by omega)]
 refine ⟨by omega, by omega, aV ?_⟩
 rw [Int.toNat_natCast]
 have ht := bR g2
 refine aj (Src.at e3.src h ht (j := 0) rfl rfl) ?_
 refine aj (Src.at e3.src h ht (j := 1) rfl rfl) ?_
 refine aj (Src.at e3.src h ht (j := 2) rfl rfl) ?_
 refine aj (Src.at e3.src h ht (j := 3) rfl rfl) ?_
 refine aj (Src.at e3.src h ht (j := 4) rfl rfl) ?_
 refine aj (Src.at e3.src h ht (j := 5) rfl rfl) ?_
 refine aj (Src.at e3.src h ht (j := 6) rfl rfl) ?_
 refine aj (Src.at e3.src h ht (j := 7) rfl rfl) ?_
 refine aj (Src.at e3.src h ht (j := 8) rfl rfl) ?_
 refine aj (Src.at e3.src h ht (j := 9) rfl rfl) ?_
 refine aj (Src.at e3.src h ht (j := 10) rfl rfl) ?_
 refine ai h ?_
 clear h
 intro yc M h
 repeat (refine ak h ?_; clear h; intro M h)
 replace h : Hp R (pt yc (gJ (aa x g).top) tF :: pt zh [.int .i64 (aa x g).st, .slice (some ⟨bf, of, none⟩) (aa x g).fs.length rc, .int .i64 (aa x g).wt.op, .int .i64 (aa x g).wt.a, .int .i64 (aa x g).wt.b, .int .i64 (aa x g).wt.c] tG :: pt q5 gC tW :: pt q3 [.int .i64 i.op, .int .i64 i.a, .int .i64 i.b, .int .i64 i.c] tI :: pt q1 (ke a p x) tW :: L) M := h.sub bz
 refine az h ?_
 refine aD (by simp [hop]) ?_
 refine aD (by simp [hop]) ?_
 refine bY (by simp [hop]) ?_
 unfold Wd.zi at k
 refine ax h ?_
 refine aH.2 ⟨fun hp => ?_, fun hp => ?_⟩
 ·rw [if_pos (by omega)] at k
  refine aI h rfl ?_
  refine gE h hw ?_
  clear h; intro M cu h
  refine ⟨_, _, _, _, _, _, _, _, _, _, _, _, _, _, rfl, ?_⟩
  refine bl h rfl rfl rfl ?_
  clear h; intro M h
  refine aI h rfl ?_
  exact k _ _ _ (Mem.le_refl R) cu (h.sub bz)
 ·rw [if_neg (by omega)] at k
  have Hi := bx
  refine ax h (ax h (az h (az h ⟨hb.1, hb.2, ?_⟩)))
  refine aj (bQ (j := 2 + i.b.toNat) h (dL hb.1 hb.2)) ?_
  refine ai h ?_
  clear h
  intro q216 M h
  refine h.b6 tS VS rs (B := a.ag) (by rw [jG]; exact bx.src) dQ.1.symm (by rw [dQ.1]; omega) ?_
  clear h; intro A' c' M h
  refine aY ⟨bQ (j := 2 + i.b.toNat) h (dL hb.1 hb.2), cv h, cv h, ?_⟩
  refine sY h ?_
  clear h; intro R1 B cB M l1 rB h
  refine aY ⟨bQ (j := 2 + i.b.toNat) h (dL hb.1 hb.2), cv h, cv h, ?_⟩
  refine ai h ?_
  clear h
  intro q228 M h
  refine h.be (A := A') VS [(⟨0, B, 1, cB, .zero⟩ : RG)] rfl rfl (by simp only [List.length_singleton, dQ.1]; omega) ?_
  clear h; intro A2 c2 M h
  refine aY ⟨bQ (j := 2 + i.b.toNat) h (dL hb.1 hb.2), cv h, cv h, ?_⟩
  refine ak h ?_
  clear h
  intro M h
  refine ⟨bQ (j := 2 + i.b.toNat) h (dL hb.1 hb.2), cv h, cv h, ?_⟩
  obtain ⟨R2, l2, r2, h2⟩ := h.bB A2
  clear h
  have cu := hw.le (Mem.le_trans l1 l2)
  have hz : eM R2 { a with ag := A2, cg := c2 } p (x.CK i.a (aK x g i.b)) := ⟨cu.AT, cu.dB, ⟨_, r2, (dQ.le Au.le (Mem.le_trans l1 l2)).snoc ⟨rfl, rfl, rB.le l2, rfl⟩⟩, cu.av, cu.aC, cu.hl, cu.out, cu.ready⟩
  have el : (rs ++ [(⟨0, B, 1, cB, .zero⟩ : RG)]).length = (x.CK i.a (aK x g i.b)).gs.length := by simp [Wd.CK, dQ.1]
  rw [el] at h2
  have OY : (x.CK i.a (aK x g i.b)).gs.length = x.gs.length + 1 := by simp [Wd.CK]
  have zO : aT (x.CK i.a (aK x g i.b)) g := by
   refine ⟨g0, by rw [OY]; omega, ?_, ?_⟩ <;> rw [Y5 (by omega)] <;> assumption
  have hrd := hs.2.2.2.1
  generalize AO : x.CK i.a (aK x g i.b) = x1 at k hz h2 OY zO
  have hrd1 : x1.ready.length ≤ 1000000 := by subst AO; exact hrd
  have h3 : Hp R2 (pt q1 (ke { a with ag := A2, cg := c2 } p x1) tW :: pt q3 [.int .i64 i.op, .int .i64 i.a, .int .i64 i.b, .int .i64 i.c] tI :: pt q5 gC tW :: L) M := by subst AO; exact h2.sub bz
  clear h2
  refine aI h3 rfl (az h3 ?_)
  refine jq h3 hz (by omega) (by rw [OY]; omega) (by rw [OY]; omega) hrd1 ?_
  clear h3; intro R3 a3 M l3 nT h
  refine ⟨_, _, _, _, _, _, _, _, _, _, _, _, _, _, rfl, cv h, ?_⟩
  refine fG h nT (bT.eZ.ok zO) (by rw [J0, OY]; omega) hc ?_
  clear h; intro R4 a4 M l4 Q9 h
  refine ⟨_, _, _, _, _, _, _, _, _, _, _, _, _, _, rfl, cv h, ?_⟩
  refine bl h rfl rfl rfl ?_
  clear h; intro M h
  refine ⟨cv h, ?_⟩
  refine aI h rfl ?_
  exact k _ _ _ (Mem.le_trans l1 (Mem.le_trans l2 (Mem.le_trans l3 l4))) Q9 (h.sub bz)
end
section
variable {R : Mem} {L L' : List HP} {M : Mem} {K : Value → Mem → Prop} {Kp : List PanicEntry → Mem → Prop} {a : Av} {p : cy} {x : Wd} {g : Int} {i : bZ} {d : Int}
theorem NR {R R1 R2 : Mem} {ls : List (Option Addr × Nat × Nat)} {A2 : Option Addr} {c2 : Nat} {j : Int} {t : Option Addr × Nat × Nat} {l : Lk} (hw : eM R a p x) (RI : JY Q7 R ls x.aC) (l1 : R.le R1) (l2 : R1.le R2)
  (r2 : RS tL R2 A2 c2 (ls.set j.toNat t)) (ht : Q7 R1 t l) : eM R2 { a with al := A2, cl := c2 } p (x.da j l) := by
 have cu := hw.le (Mem.le_trans l1 l2)
 exact ⟨cu.AT, cu.dB, cu.gs, cu.av, ⟨_, r2, ((RI.le Q7.le (Mem.le_trans l1 l2)).set _ (Q7.le _ _ _ _ l2 ht))⟩, cu.hl, cu.out, cu.ready⟩
theorem Y6 {l : Lk} {g : Int} (h : ∀ us, wC l ≠ g :: us) : (l.gU g).2.2 ≠ 0 := by
 unfold Lk.gU
 split
 ·show (5 : Int) ≠ 0; decide
 ·rename_i hn
  exfalso
  refine h l.waits ?_
  unfold wC
  rw [if_neg (fun e => hn (.inl e))]
  rw [show l.owner = g from Classical.byContradiction fun e => hn (.inr e)]
theorem J4 {l : Lk} {g : Int} {us : List Int} (hg : g ≠ -1) (h : wC l = g :: us) : l.gU g = (⟨us.headD (-1), us.tail⟩, us.headD (-1), 0) ∧ l.waits = us := by
 unfold wC at h
 split at h
 ·cases h
 ·rename_i ho
  simp only [List.cons.injEq] at h
  obtain ⟨h1, h2⟩ := h
  unfold Lk.gU
  rw [if_neg (by rintro (e | e); exact ho e; exact e h1), h2]
  exact ⟨rfl, rfl⟩
theorem Hj (h : Hp R L M) (hw : eM R a p x) (hg : aT x g) (hs : x.Sm) (hop : i.op = 18) (j0 : 0 ≤ i.a) (j1 : i.a < x.aC.length) (hlg : CM (cQ x i.a))
  (k : ∀ R' a' M', R.le R' → eM R' a' p (x.E7 g i) → Hp R' L M' → K (gG a' p (x.E7 g i)) M') :
  ae Tryz.prog 113 #[gG a p x, .int .i64 g, .agg #[.int .i64 i.op, .int .i64 i.a, .int .i64 i.b, .int .i64 i.c], .int .i64 d] M K Kp := by
 refine bn ?_
 obtain ⟨rs, bx, dQ⟩ := hw.gs
 obtain ⟨g0, g1, g2, g3⟩ := id hg
 have hn := hs.2.2.1
 have qZ := hs.2.1
 refine ai h ?_
 clear h
 intro q1 M h
 refine ai h ?_
 clear h
 intro q3 M h
 refine ai h ?_
 clear h
 intro q5 M h
 obtain ⟨⟨oV, rA, rn, rc, AU⟩, hr, e1, e2, e3, e4⟩ := dQ.at (bM g0 g1)
 dsimp only at e1 e2 e3 e4
 subst e1; subst e2; subst e4
 obtain ⟨b, o, jG⟩ := bx.some (by rw [dQ.1]; omega) (by decide)
 rw [jG] at bx
 obtain ⟨bf, of, qK⟩ := e3.some (by omega) (by decide)
 subst qK
 refine ax h ⟨g0, g1, bq jG ?_⟩
 refine aj (Src.at bx.src h hr (j := 0) rfl (by simp [tS])) ?_
 refine bu (Src.at bx.src h hr (j := 1) rfl rfl) ?_
 refine aj (Src.at bx.src h hr (j := 2) rfl rfl) ?_
 refine aj (Src.at bx.src h hr (j := 3) rfl rfl) ?_
 refine aj (Src.at bx.src h hr (j := 4) rfl rfl) ?_
 refine aj (Src.at bx.src h hr (j := 5) rfl rfl) ?_
 refine ai h ?_
 clear h
 intro zh M h
 repeat (refine ak h ?_; clear h; intro M h)
 refine ax h (ax h ?_)
 dsimp only
 rw [cK g2 (by omega)]
 refine ⟨by omega, by omega, aV ?_⟩
 rw [Int.toNat_natCast]
 have ht := bR g2
 refine aj (Src.at e3.src h ht (j := 0) rfl rfl) ?_
 refine aj (Src.at e3.src h ht (j := 1) rfl rfl) ?_
 refine aj (Src.at e3.src h ht (j := 2) rfl rfl) ?_
 refine aj (Src.at e3.src h ht (j := 3) rfl rfl) ?_
 refine aj (Src.at e3.src h ht (j := 4) rfl rfl) ?_
 refine aj (Src.at e3.src h ht (j := 5) rfl rfl) ?_
 refine aj (Src.at e3.src h ht (j := 6) rfl rfl) ?_
 refine aj (Src.at e3.src h ht (j := 7) rfl rfl) ?_
 refine aj (Src.at e3.src h ht (j := 8) rfl rfl) ?_
 refine aj (Src.at e3.src h ht (j := 9) rfl rfl) ?_
 refine aj (Src.at e3.src h ht (j := 10) rfl rfl) ?_
 refine ai h ?_
 clear h
 intro yc M h
 repeat (refine ak h ?_; clear h; intro M h)
 replace h : Hp R (pt yc (gJ (aa x g).top) tF :: pt zh [.int .i64 (aa x g).st, .slice (some ⟨bf, of, none⟩) (aa x g).fs.length rc, .int .i64 (aa x g).wt.op, .int .i64 (aa x g).wt.a, .int .i64 (aa x g).wt.b, .int .i64 (aa x g).wt.c] tG :: pt q5 gC tW :: pt q3 [.int .i64 i.op, .int .i64 i.a, .int .i64 i.b, .int .i64 i.c] tI :: pt q1 (ke a p x) tW :: L) M := h.sub bz
 refine az h ?_
 refine aD (by simp [hop]) ?_
 refine aD (by simp [hop]) ?_
 refine aD (by simp [hop]) ?_
 refine aD (by simp [hop]) ?_
 refine aD (by simp [hop]) ?_
 refine aD (by simp [hop]) ?_
 refine aD (by simp [hop]) ?_
 refine aD (by simp [hop]) ?_
 refine bY (by simp [hop]) ?_
 unfold Wd.E7 at k
 obtain ⟨ls, hls, RI⟩ := hw.aC
 obtain ⟨⟨A, n, c⟩, C8, hn3, mU⟩ := RI.at (CL j0 j1)
 dsimp only at hn3 mU
 have hrow : Q7 R (A, n, c) (cQ x i.a) := ⟨hn3, mU⟩
 obtain ⟨b1, o1, lg⟩ := hls.some (by rw [RI.1]; omega) (by decide)
 have Y7 := hls
 rw [lg] at hls
 have u0 : ls.length = x.aC.length := RI.1
 have hlb := hs.2.2.2.2.2.2.1
 generalize hll0 : cQ x i.a = l0 at hrow mU hn3 hlg k
 have hlen := O0 (l := l0)
 obtain ⟨lg1, lg2, lg3⟩ := hlg
 refine ax h (az h ⟨j0, j1, bq lg ?_⟩)
 refine bu (Src.at hls.src h C8 (j := 0) rfl (by show _ = o1 + (_ * 1 + 0); omega)) ?_
 refine NK (l := l0) (t := (A, n, c)) h hrow (by omega) ?_
 clear h; intro R1 A' c' M l1 r1 h
 refine ⟨_, _, _, _, rfl, ?_⟩
 rw [VW]
 refine ai h ?_
 clear h
 intro q617 M h
 refine ak h ?_
 clear h
 intro M h
 have Y8 := VV (l := l0) (g := g) (by omega) lg1
 generalize WL : zj l0 g = zk at k Y8
 rw [← Y8] at r1 h
 refine ai h ?_
 clear h
 intro q620 M h
 refine ax h ?_
 refine h.b6 tL G0 ls (Y7.le l1).src u0.symm (by rw [u0]; omega) ?_
 clear h; intro A2 c2 M h
 refine aY ?_
 refine ak h ?_
 clear h
 intro M h
 refine ax h (az h (ax h ⟨j0, by rw [u0]; exact j1, ?_⟩))
 obtain ⟨qr, rfl⟩ := h.bU (A := A2) (by rw [u0]; omega) (by decide)
 refine aV ?_
 refine g9 i.a.toNat 0 h C8 (by decide) (a' := (A', (wC zk).length, c')) rfl (by show _ = i.a.toNat * 1 + 0; omega) ?_
 clear h; intro M h
 obtain ⟨R2, l2, r2, h2⟩ := h.bB (some ⟨qr, 0, none⟩)
 clear h
 have hz := NR (j := i.a) (l := zk) hw RI l1 l2 r2 ⟨rfl, r1⟩
 have el : (ls).length = (x.da i.a zk).aC.length := by simp [Wd.da, u0]
 rw [el] at h2
 have h3 : Hp R2 (pt q1 (ke { a with al := some ⟨qr, 0, none⟩, cl := c2 } p (x.da i.a zk)) tW :: pt q3 [.int .i64 i.op, .int .i64 i.a, .int .i64 i.b, .int .i64 i.c] tI :: pt q5 gC tW :: L) M := h2.sub bz
 clear h2
 by_cases hf : l0.owner = -1
 ·rw [if_pos hf] at k
  refine aD (by simp [hf]) ?_
  refine aI h3 rfl ?_
  refine bl h3 rfl rfl rfl ?_
  clear h3; intro M h
  refine aI h rfl ?_
  exact k _ _ _ (Mem.le_trans l1 l2) hz (h.sub bz)
 ·rw [if_neg hf] at k
  refine bY (by simp [hf]) ?_
  refine aI h3 rfl (az h3 (az h3 (az h3 (az h3 ?_))))
  refine gD (i := i) (s := 2) h3 hz g0 g1 (by show x.gs.length ≤ _; omega) ?_
  clear h3; intro R3 a3 M l3 nT h
  refine ⟨_, _, _, _, _, _, _, _, _, _, _, _, _, _, rfl, ?_⟩
  refine bl h rfl rfl rfl ?_
  clear h; intro M h
  refine aI h rfl ?_
  exact k _ _ _ (Mem.le_trans l1 (Mem.le_trans l2 l3)) nT (h.sub bz)
theorem Hl (h : Hp R L M) (hw : eM R a p x) (hg : aT x g) (hs : x.Sm) (hop : i.op = 19) (j0 : 0 ≤ i.a) (j1 : i.a < x.aC.length) (hlg : CM (cQ x i.a)) (hwk : ∀ w ∈ (cQ x i.a).waits, 0 ≤ w ∧ w < x.gs.length)
  (k : ∀ R' a' M', R.le R' → eM R' a' p (x.tV g i) → Hp R' L M' → K (gG a' p (x.tV g i)) M') :
  ae Tryz.prog 113 #[gG a p x, .int .i64 g, .agg #[.int .i64 i.op, .int .i64 i.a, .int .i64 i.b, .int .i64 i.c], .int .i64 d] M K Kp := by
 refine bn ?_
 obtain ⟨rs, bx, dQ⟩ := hw.gs
 obtain ⟨g0, g1, g2, g3⟩ := id hg
 have hn := hs.2.2.1
 have qZ := hs.2.1
 refine ai h ?_
 clear h
 intro q1 M h
 refine ai h ?_
 clear h
 intro q3 M h
 refine ai h ?_
 clear h
 intro q5 M h
 obtain ⟨⟨oV, rA, rn, rc, AU⟩, hr, e1, e2, e3, e4⟩ := dQ.at (bM g0 g1)
 dsimp only at e1 e2 e3 e4
 subst e1; subst e2; subst e4
 obtain ⟨b, o, jG⟩ := bx.some (by rw [dQ.1]; omega) (by decide)
 rw [jG] at bx
 obtain ⟨bf, of, qK⟩ := e3.some (by omega) (by decide)
 subst qK
 refine ax h ⟨g0, g1, bq jG ?_⟩
 refine aj (Src.at bx.src h hr (j := 0) rfl (by simp [tS])) ?_
 refine bu (Src.at bx.src h hr (j := 1) rfl rfl) ?_
 refine aj (Src.at bx.src h hr (j := 2) rfl rfl) ?_
 refine aj (Src.at bx.src h hr (j := 3) rfl rfl) ?_
 refine aj (Src.at bx.src h hr (j := 4) rfl rfl) ?_
 refine aj (Src.at bx.src h hr (j := 5) rfl rfl) ?_
 refine ai h ?_
 clear h
 intro zh M h
 repeat (refine ak h ?_; clear h; intro M h)
 refine ax h (ax h ?_)
 dsimp only
 rw [cK g2 (by omega)]
 refine ⟨by omega, by omega, aV ?_⟩
 rw [Int.toNat_natCast]
 have ht := bR g2
 refine aj (Src.at e3.src h ht (j := 0) rfl rfl) ?_
 refine aj (Src.at e3.src h ht (j := 1) rfl rfl) ?_
 refine aj (Src.at e3.src h ht (j := 2) rfl rfl) ?_
 refine aj (Src.at e3.src h ht (j := 3) rfl rfl) ?_
 refine aj (Src.at e3.src h ht (j := 4) rfl rfl) ?_
 refine aj (Src.at e3.src h ht (j := 5) rfl rfl) ?_
 refine aj (Src.at e3.src h ht (j := 6) rfl rfl) ?_
 refine aj (Src.at e3.src h ht (j := 7) rfl rfl) ?_
 refine aj (Src.at e3.src h ht (j := 8) rfl rfl) ?_
 refine aj (Src.at e3.src h ht (j := 9) rfl rfl) ?_
 refine aj (Src.at e3.src h ht (j := 10) rfl rfl) ?_
 refine ai h ?_
 clear h
 intro yc M h
 repeat (refine ak h ?_; clear h; intro M h)
 replace h : Hp R (pt yc (gJ (aa x g).top) tF :: pt zh [.int .i64 (aa x g).st, .slice (some ⟨bf, of, none⟩) (aa x g).fs.length rc, .int .i64 (aa x g).wt.op, .int .i64 (aa x g).wt.a, .int .i64 (aa x g).wt.b, .int .i64 (aa x g).wt.c] tG :: pt q5 gC tW :: pt q3 [.int .i64 i.op, .int .i64 i.a, .int .i64 i.b, .int .i64 i.c] tI :: pt q1 (ke a p x) tW :: L) M := h.sub bz
 refine az h ?_
 refine aD (by simp [hop]) ?_
 refine aD (by simp [hop]) ?_
 refine aD (by simp [hop]) ?_
 refine aD (by simp [hop]) ?_
 refine aD (by simp [hop]) ?_
 refine aD (by simp [hop]) ?_
 refine aD (by simp [hop]) ?_
 refine aD (by simp [hop]) ?_
 refine aD (by simp [hop]) ?_
 refine bY (by simp [hop]) ?_
 unfold Wd.tV at k
 obtain ⟨ls, hls, RI⟩ := hw.aC
 obtain ⟨⟨A, n, c⟩, C8, hn3, mU⟩ := RI.at (CL j0 j1)
 dsimp only at hn3 mU
 have hrow : Q7 R (A, n, c) (cQ x i.a) := ⟨hn3, mU⟩
 obtain ⟨b1, o1, lg⟩ := hls.some (by rw [RI.1]; omega) (by decide)
 have Y7 := hls
 rw [lg] at hls
 have u0 : ls.length = x.aC.length := RI.1
 have hlb := hs.2.2.2.2.2.2.1
 generalize hll0 : cQ x i.a = l0 at hrow mU hn3 hlg hwk k
 have hlen := O0 (l := l0)
 obtain ⟨lg1, lg2, lg3⟩ := hlg
 refine ax h (az h ⟨j0, j1, bq lg ?_⟩)
 refine bu (Src.at hls.src h C8 (j := 0) rfl (by show _ = o1 + (_ * 1 + 0); omega)) ?_
 refine NL (l := l0) (t := (A, n, c)) h hrow (by omega) (fun hno => ?_) (fun h1 => ?_) (fun u us h1 => ?_)
 ·rw [if_pos (Y6 hno)] at k
  clear h; intro M h
  refine ⟨_, _, _, _, _, rfl, ?_⟩
  refine ai h ?_
  clear h
  intro q683 M h
  refine ak h ?_
  clear h
  intro M h
  refine bY (by decide) ?_
  refine aI h rfl ?_
  refine gE h hw ?_
  clear h; intro M cu h
  refine ⟨_, _, _, _, _, _, _, _, _, _, _, _, _, _, rfl, ?_⟩
  refine bl h rfl rfl rfl ?_
  clear h; intro M h
  refine aI h rfl ?_
  exact k _ _ _ (Mem.le_refl R) cu (h.sub bz)
 ·obtain ⟨eg, ew⟩ := J4 (by omega) h1
  rw [eg] at k
  have l1 := Mem.le_refl R
  clear h; intro M h
  refine ⟨_, _, _, _, _, rfl, ?_⟩
  refine ai h ?_
  clear h
  intro q683 M h
  refine ak h ?_
  clear h
  intro M h
  refine aD (by decide) ?_
  simp only [List.headD_nil, List.tail_nil] at k
  rw [if_neg (by decide)] at k
  have Y8 : wC (⟨-1, []⟩ : Lk) = [] := rfl
  generalize WL : (⟨-1, []⟩ : Lk) = zk at k Y8
  refine ai h ?_
  clear h
  intro q620 M h
  refine ax h ?_
  refine h.b6 tL G0 ls (Y7.le l1).src u0.symm (by rw [u0]; omega) ?_
  clear h; intro A2 c2 M h
  refine aY ?_
  refine ak h ?_
  clear h
  intro M h
  refine ax h (az h (ax h ⟨j0, by rw [u0]; exact j1, ?_⟩))
  obtain ⟨qr, rfl⟩ := h.bU (A := A2) (by rw [u0]; omega) (by decide)
  refine aV ?_
  refine g9 i.a.toNat 0 h C8 (by decide) (a' := (none, 0, 0)) rfl (by show _ = i.a.toNat * 1 + 0; omega) ?_
  clear h; intro M h
  obtain ⟨R2, l2, r2, h2⟩ := h.bB (some ⟨qr, 0, none⟩)
  clear h
  have hz := NR (j := i.a) (l := zk) hw RI l1 l2 r2 ⟨by rw [Y8]; rfl, by rw [Y8]; exact RS.nil _ _⟩
  have el : (ls).length = (x.da i.a zk).aC.length := by simp [Wd.da, u0]
  rw [el] at h2
  have h3 : Hp R2 (pt q1 (ke { a with al := some ⟨qr, 0, none⟩, cl := c2 } p (x.da i.a zk)) tW :: pt q3 [.int .i64 i.op, .int .i64 i.a, .int .i64 i.b, .int .i64 i.c] tI :: pt q5 gC tW :: L) M := h2.sub bz
  clear h2
  refine aD (by decide) ?_
  refine aI h3 rfl ?_
  refine bl h3 rfl rfl rfl ?_
  clear h3; intro M h
  refine aI h rfl ?_
  exact k _ _ _ (Mem.le_trans l1 l2) hz (h.sub bz)
 ·obtain ⟨eg, ew⟩ := J4 (by omega) h1
  rw [eg] at k
  clear h; intro R1 A' c' M l1 r1 h
  refine ⟨_, _, _, _, _, rfl, ?_⟩
  refine ai h ?_
  clear h
  intro q683 M h
  refine ak h ?_
  clear h
  intro M h
  refine aD (by decide) ?_
  simp only [List.headD_cons, List.tail_cons] at k
  have hu := hwk u (by rw [ew]; simp)
  simp only [ne_eq, not_true_eq_false, if_false, hu.1, if_true] at k
  have Y8 : wC ⟨u, us⟩ = u :: us := by unfold wC; rw [if_neg (by show ¬ u = -1; omega)]
  generalize WL : (⟨u, us⟩ : Lk) = zk at k Y8
  rw [← Y8] at r1 h
  refine ai h ?_
  clear h
  intro q620 M h
  refine ax h ?_
  refine h.b6 tL G0 ls (Y7.le l1).src u0.symm (by rw [u0]; omega) ?_
  clear h; intro A2 c2 M h
  refine aY ?_
  refine ak h ?_
  clear h
  intro M h
  refine ax h (az h (ax h ⟨j0, by rw [u0]; exact j1, ?_⟩))
  obtain ⟨qr, rfl⟩ := h.bU (A := A2) (by rw [u0]; omega) (by decide)
  refine aV ?_
  refine g9 i.a.toNat 0 h C8 (by decide) (a' := (A', (wC zk).length, c')) rfl (by show _ = i.a.toNat * 1 + 0; omega) ?_
  clear h; intro M h
  obtain ⟨R2, l2, r2, h2⟩ := h.bB (some ⟨qr, 0, none⟩)
  clear h
  have hz := NR (j := i.a) (l := zk) hw RI l1 l2 r2 ⟨rfl, r1⟩
  have el : (ls).length = (x.da i.a zk).aC.length := by simp [Wd.da, u0]
  rw [el] at h2
  have h3 : Hp R2 (pt q1 (ke { a with al := some ⟨qr, 0, none⟩, cl := c2 } p (x.da i.a zk)) tW :: pt q3 [.int .i64 i.op, .int .i64 i.a, .int .i64 i.b, .int .i64 i.c] tI :: pt q5 gC tW :: L) M := h2.sub bz
  clear h2
  refine bY (by simp; omega) ?_
  refine aI h3 rfl ?_
  refine jq h3 hz hu.1 hu.2 (by show x.gs.length ≤ _; omega) hs.2.2.2.1 ?_
  clear h3; intro R3 a3 M l3 nT h
  refine ⟨_, _, _, _, _, _, _, _, _, _, _, _, _, _, rfl, ?_⟩
  refine bl h rfl rfl rfl ?_
  clear h; intro M h
  refine aI h rfl ?_
  exact k _ _ _ (Mem.le_trans l1 (Mem.le_trans l2 l3)) nT (h.sub bz)
end
section
variable {R : Mem} {L L' : List HP} {M : Mem} {K : Value → Mem → Prop} {Kp : List PanicEntry → Mem → Prop} {a : Av} {p : cy} {x : Wd} {g : Int} {i : bZ} {d : Int}
theorem CN (h : Hp R L M) (hw : eM R a p x) (hg : aT x g) (hs : x.Sm) (he : x.end_ = 0) (h1 : (aa x g).st = 1) {fl : List bZ} (f0 : 0 ≤ (aa x g).top.fn) (hf : p.funcs[(aa x g).top.fn.toNat]? = some fl) (ZA : (fl.length : Int) ≤ (aa x g).top.pc)
  (k : ∀ R' a' M', R.le R' → eM R' a' p (Wd.iJ { x with ready := [] } (-7)) → Hp R' L M' → K (.tuple #[gG a' p (Wd.iJ { x with ready := [] } (-7)), .bool false]) M') :
  ae Tryz.prog 78 #[gG a p x, .int .i64 g, .int .i64 d] M K Kp := by
 refine fR ?_
 obtain ⟨rs, bx, dQ⟩ := hw.gs
 obtain ⟨g0, g1, g2, g3⟩ := id hg
 have hn := hs.2.2.1
 refine ai h ?_
 clear h
 intro q1 M h
 refine ai h ?_
 clear h
 intro q3 M h
 refine ak h ?_
 clear h
 intro M h
 obtain ⟨⟨oV, rA, rn, rc, AU⟩, hr, e1, e2, e3, e4⟩ := dQ.at (bM g0 g1)
 dsimp only at e1 e2 e3 e4
 subst e1; subst e2; subst e4
 obtain ⟨b, o, jG⟩ := bx.some (by rw [dQ.1]; omega) (by decide)
 rw [jG] at bx
 obtain ⟨bf, of, qK⟩ := e3.some (by omega) (by decide)
 subst qK
 refine aD (by simp; omega) ?_
 refine ax h ?_
 refine aD (by simp; omega) ?_
 refine az h ?_
 refine aD (by simp [he]) ?_
 refine ax h ⟨g0, g1, bq jG ?_⟩
 refine aj (Src.at bx.src h hr (j := 0) rfl (by simp [tS])) ?_
 refine aD (by simp [h1]) ?_
 refine ax h ⟨g0, g1, bq jG ?_⟩
 refine bu (Src.at bx.src h hr (j := 1) rfl rfl) ?_
 dsimp only
 rw [cK g2 (by omega)]
 refine ⟨by omega, by omega, aV ?_⟩
 rw [Int.toNat_natCast]
 have ht := bR g2
 refine aj (Src.at e3.src h ht (j := 0) rfl rfl) ?_
 refine aj (Src.at e3.src h ht (j := 1) rfl rfl) ?_
 refine aj (Src.at e3.src h ht (j := 2) rfl rfl) ?_
 refine aj (Src.at e3.src h ht (j := 3) rfl rfl) ?_
 refine aj (Src.at e3.src h ht (j := 4) rfl rfl) ?_
 refine aj (Src.at e3.src h ht (j := 5) rfl rfl) ?_
 refine aj (Src.at e3.src h ht (j := 6) rfl rfl) ?_
 refine aj (Src.at e3.src h ht (j := 7) rfl rfl) ?_
 refine aj (Src.at e3.src h ht (j := 8) rfl rfl) ?_
 refine aj (Src.at e3.src h ht (j := 9) rfl rfl) ?_
 refine aj (Src.at e3.src h ht (j := 10) rfl rfl) ?_
 refine ai h ?_
 clear h
 intro q49 M h
 repeat (refine ak h ?_; clear h; intro M h)
 generalize hx0 : ({ x with ready := [] } : Wd) = x0 at k
 have Jj : eM R { a with ar := none, cr := 0 } p x0 := by subst hx0; exact ⟨hw.AT, hw.dB, hw.gs, hw.av, hw.aC, hw.hl, hw.out, RS.nil _ _⟩
 have hg0 : aT x0 g := by subst hx0; exact hg
 have ea : aa x0 g = aa x g := by subst hx0; rfl
 have en : x0.gs.length = x.gs.length := by subst hx0; rfl
 replace h : Hp R (pt q49 (gJ (aa x g).top) tF :: pt q1 (ke { a with ar := none, cr := 0 } p x0) tW :: pt q3 gC tW :: L) M := by subst hx0; exact h.sub bz
 obtain ⟨ts, hts, htl, htf⟩ := hw.AT.funcs
 obtain ⟨t, C8⟩ := aJ (l := ts) (i := (aa x g).top.fn.toNat) (by have := (List.getElem?_eq_some_iff.1 hf).1; omega)
 obtain ⟨gL, htn⟩ := htf _ _ _ C8 hf
 have hflt := (List.getElem?_eq_some_iff.1 hf).1
 obtain ⟨bt, ot, NS⟩ := hts.some (by omega) (by decide)
 rw [NS] at hts
 refine aj (bQ h (j := 1) rfl) ?_
 refine ax h ?_
 refine aj (bQ h (j := 0) rfl) ?_
 refine ⟨f0, by show (aa x g).top.fn < (p.funcs.length : Int); omega, bq NS ?_⟩
 refine bu (Src.at hts.src h C8 (j := 0) rfl (by show _ = ot + ((aa x g).top.fn.toNat * 1 + 0); omega)) ?_
 refine bY (by simp; show (t.2.1 : Int) ≤ (aa x g).top.pc; omega) ?_
 refine aI h rfl ?_
 refine gE h Jj ?_
 clear h; intro M cu h
 refine ⟨_, _, _, _, _, _, _, _, _, _, _, _, _, _, rfl, ?_⟩
 refine bl h rfl rfl rfl ?_
 clear h; intro M h
 refine aI h rfl ?_
 exact k _ _ _ (Mem.le_refl R) cu (h.sub bz)
theorem Aw (h : Hp R L M) (hw : eM R a p x) (hg : aT x g) (hs : x.Sm) (he : x.end_ = 0) (h1 : (aa x g).st = 1) {fl : List bZ} (f0 : 0 ≤ (aa x g).top.fn) (hf : p.funcs[(aa x g).top.fn.toNat]? = some fl) (pc0 : 0 ≤ (aa x g).top.pc) (hi : fl[(aa x g).top.pc.toNat]? = some i) (hokp : i.cO) (hop0 : 0 ≤ i.op) (sS : 0 ≤ (aa x g).top.pc ∧ (aa x g).top.pc < 1000000000) (h8' : i.op ≤ 8)
  (k : ∀ R' a' M', R.le R' → eM R' a' p (Wd.bp { x with ready := [] } g ((aa x g).bW ((aa x g).top.next.pure i))) → Hp R' L M' → K (.tuple #[gG a' p (Wd.bp { x with ready := [] } g ((aa x g).bW ((aa x g).top.next.pure i))), .bool true]) M') :
  ae Tryz.prog 78 #[gG a p x, .int .i64 g, .int .i64 d] M K Kp := by
 refine fR ?_
 obtain ⟨rs, bx, dQ⟩ := hw.gs
 obtain ⟨g0, g1, g2, g3⟩ := id hg
 have hn := hs.2.2.1
 refine ai h ?_
 clear h
 intro q1 M h
 refine ai h ?_
 clear h
 intro q3 M h
 refine ak h ?_
 clear h
 intro M h
 obtain ⟨⟨oV, rA, rn, rc, AU⟩, hr, e1, e2, e3, e4⟩ := dQ.at (bM g0 g1)
 dsimp only at e1 e2 e3 e4
 subst e1; subst e2; subst e4
 obtain ⟨b, o, jG⟩ := bx.some (by rw [dQ.1]; omega) (by decide)
 rw [jG] at bx
 obtain ⟨bf, of, qK⟩ := e3.some (by omega) (by decide)
 subst qK
 refine aD (by simp; omega) ?_
 refine ax h ?_
 refine aD (by simp; omega) ?_
 refine az h ?_
 refine aD (by simp [he]) ?_
 refine ax h ⟨g0, g1, bq jG ?_⟩
 refine aj (Src.at bx.src h hr (j := 0) rfl (by simp [tS])) ?_
 refine aD (by simp [h1]) ?_
 refine ax h ⟨g0, g1, bq jG ?_⟩
 refine bu (Src.at bx.src h hr (j := 1) rfl rfl) ?_
 dsimp only
 rw [cK g2 (by omega)]
 refine ⟨by omega, by omega, aV ?_⟩
 rw [Int.toNat_natCast]
 have ht := bR g2
 refine aj (Src.at e3.src h ht (j := 0) rfl rfl) ?_
 refine aj (Src.at e3.src h ht (j := 1) rfl rfl) ?_
 refine aj (Src.at e3.src h ht (j := 2) rfl rfl) ?_
 refine aj (Src.at e3.src h ht (j := 3) rfl rfl) ?_
 refine aj (Src.at e3.src h ht (j := 4) rfl rfl) ?_
 refine aj (Src.at e3.src h ht (j := 5) rfl rfl) ?_
 refine aj (Src.at e3.src h ht (j := 6) rfl rfl) ?_
 refine aj (Src.at e3.src h ht (j := 7) rfl rfl) ?_
 refine aj (Src.at e3.src h ht (j := 8) rfl rfl) ?_
 refine aj (Src.at e3.src h ht (j := 9) rfl rfl) ?_
 refine aj (Src.at e3.src h ht (j := 10) rfl rfl) ?_
 refine ai h ?_
 clear h
 intro q49 M h
 repeat (refine ak h ?_; clear h; intro M h)
 generalize hx0 : ({ x with ready := [] } : Wd) = x0 at k
 have Jj : eM R { a with ar := none, cr := 0 } p x0 := by subst hx0; exact ⟨hw.AT, hw.dB, hw.gs, hw.av, hw.aC, hw.hl, hw.out, RS.nil _ _⟩
 have hg0 : aT x0 g := by subst hx0; exact hg
 have ea : aa x0 g = aa x g := by subst hx0; rfl
 have en : x0.gs.length = x.gs.length := by subst hx0; rfl
 replace h : Hp R (pt q49 (gJ (aa x g).top) tF :: pt q1 (ke { a with ar := none, cr := 0 } p x0) tW :: pt q3 gC tW :: L) M := by subst hx0; exact h.sub bz
 obtain ⟨ts, hts, htl, htf⟩ := hw.AT.funcs
 obtain ⟨t, C8⟩ := aJ (l := ts) (i := (aa x g).top.fn.toNat) (by have := (List.getElem?_eq_some_iff.1 hf).1; omega)
 obtain ⟨gL, htn⟩ := htf _ _ _ C8 hf
 have hflt := (List.getElem?_eq_some_iff.1 hf).1
 obtain ⟨bt, ot, NS⟩ := hts.some (by omega) (by decide)
 rw [NS] at hts
 refine aj (bQ h (j := 1) rfl) ?_
 refine ax h ?_
 refine aj (bQ h (j := 0) rfl) ?_
 refine ⟨f0, by show (aa x g).top.fn < (p.funcs.length : Int); omega, bq NS ?_⟩
 refine bu (Src.at hts.src h C8 (j := 0) rfl (by show _ = ot + ((aa x g).top.fn.toNat * 1 + 0); omega)) ?_
 have hilt := (List.getElem?_eq_some_iff.1 hi).1
 refine aD (by simp; show (aa x g).top.pc < (t.2.1 : Int); omega) ?_
 refine ax h (aj (bQ h (j := 0) rfl) ⟨f0, by show (aa x g).top.fn < (p.funcs.length : Int); omega, bq NS ?_⟩)
 refine bu (Src.at hts.src h C8 (j := 0) rfl (by show _ = ot + ((aa x g).top.fn.toNat * 1 + 0); omega)) ?_
 obtain ⟨bi, oi, Y9⟩ := gL.some (by omega) (by decide)
 rw [Y9] at gL
 refine aj (bQ h (j := 1) rfl) ⟨pc0, by show (aa x g).top.pc < (t.2.1 : Int); omega, bq Y9 ?_⟩
 refine aj (Src.at gL.src h hi (j := 0) rfl (by show _ = oi + ((aa x g).top.pc.toNat * 4 + 0); rfl)) ?_
 refine aj (Src.at gL.src h hi (j := 1) rfl rfl) ?_
 refine aj (Src.at gL.src h hi (j := 2) rfl rfl) ?_
 refine aj (Src.at gL.src h hi (j := 3) rfl rfl) ?_
 refine ai h ?_
 clear h
 intro q107 M h
 repeat (refine ak h ?_; clear h; intro M h)
 refine aj (bQ h (j := 0) rfl) ?_
 refine aj (bQ h (j := 1) rfl) ?_
 refine aj (bQ h (j := 2) rfl) ?_
 refine aj (bQ h (j := 3) rfl) ?_
 refine aj (bQ h (j := 4) rfl) ?_
 refine aj (bQ h (j := 5) rfl) ?_
 refine aj (bQ h (j := 6) rfl) ?_
 refine aj (bQ h (j := 7) rfl) ?_
 refine aj (bQ h (j := 8) rfl) ?_
 refine aj (bQ h (j := 9) rfl) ?_
 refine aj (bQ h (j := 10) rfl) ?_
 refine az h (az h (az h (az h ?_)))
 refine CJ (f := (aa x g).top) (x := i) h hokp hop0 sS (fun h8 => ?_) (fun h8 => ?_)
 ·clear h; intro M h
  apply Exists.intro; (repeat apply Exists.intro); refine And.intro rfl ?_
  refine ai h ?_
  clear h
  intro q142 M h
  repeat (refine ak h ?_; clear h; intro M h)
  refine bY rfl ?_
  replace h : Hp R (pt q142 (gJ ((aa x g).top.next.pure i)) tF :: pt q1 (ke { a with ar := none, cr := 0 } p x0) tW :: pt q3 gC tW :: L) M := h.sub bz
  obtain ⟨rs0, Hi, hl0⟩ := Jj.gs
  have CV := hl0.at (bM (x := x0) g0 (by rw [en]; exact g1))
  rw [ea] at CV
  obtain ⟨⟨st0, A0, n0, c0, wt0⟩, CV, y1, y2, y3, y4⟩ := CV
  dsimp only at y1 y2 y3 y4
  subst y1; subst y2; subst y4
  have hb0 := jG
  obtain ⟨b0, o0, hb0⟩ := Hi.some (by rw [hl0.1, en]; omega) (by decide)
  rw [hb0] at Hi
  refine ax h ⟨g0, by rw [en]; exact g1, bq hb0 ?_⟩
  refine aj (Src.at Hi.src h CV (j := 0) rfl (by simp [tS])) ?_
  refine bu (Src.at Hi.src h CV (j := 1) rfl rfl) ?_
  refine aj (Src.at Hi.src h CV (j := 2) rfl rfl) ?_
  refine aj (Src.at Hi.src h CV (j := 3) rfl rfl) ?_
  refine aj (Src.at Hi.src h CV (j := 4) rfl rfl) ?_
  refine aj (Src.at Hi.src h CV (j := 5) rfl rfl) ?_
  refine ai h ?_
  clear h
  intro q168 M h
  repeat (refine ak h ?_; clear h; intro M h)
  have hcap := e3.2
  refine ⟨by omega, by omega, by omega, by omega, by omega, by omega, ?_⟩
  refine aj (bQ h (j := 0) rfl) ?_
  refine aj (bQ h (j := 1) rfl) ?_
  refine aj (bQ h (j := 2) rfl) ?_
  refine aj (bQ h (j := 3) rfl) ?_
  refine aj (bQ h (j := 4) rfl) ?_
  refine aj (bQ h (j := 5) rfl) ?_
  refine aj (bQ h (j := 6) rfl) ?_
  refine aj (bQ h (j := 7) rfl) ?_
  refine aj (bQ h (j := 8) rfl) ?_
  refine aj (bQ h (j := 9) rfl) ?_
  refine aj (bQ h (j := 10) rfl) ?_
  refine ai h ?_
  clear h
  intro q187 M h
  refine ⟨trivial, ?_⟩
  refine h.b6 fZ pX ((aa x g).fs.take ((aa x g).fs.length - 1)) (B := jt (some ⟨bf, of, none⟩) 0 rc 11) (RS.cut e3 ((aa x g).fs.length - 1)).src (by rw [List.length_take]; simp <;> omega) (by rw [List.length_take]; omega) ?_
  clear h; intro A2 c2 M h
  refine aY ⟨fA h rfl, ?_⟩
  refine ai h ?_
  clear h
  intro q194 M h
  refine h.be (A := A2) pX [(aa x g).top.next.pure i] rfl rfl (by simp only [List.length_singleton, List.length_take]; omega) ?_
  clear h; intro A3 c3 M h
  refine aY ⟨fA h rfl, ?_⟩
  refine ak h ?_
  clear h
  intro M h
  refine ⟨fA h rfl, ?_⟩
  have efs : (aa x g).fs.take ((aa x g).fs.length - 1) ++ [(aa x g).top.next.pure i] = ((aa x g).bW ((aa x g).top.next.pure i)).fs := by
   unfold gK.bW
   rw [List.set_eq_take_append_cons_drop, if_pos (by omega), List.drop_eq_nil_of_le (by omega)]
  rw [efs] at h
  obtain ⟨R2, l2, r2, h2⟩ := h.bB A3
  clear h
  refine aI h2 rfl (az h2 (ax h2 (az h2 (az h2 (az h2 (az h2 ?_))))))
  refine kI (r := ⟨(aa x g).st, A3, _, c3, (aa x g).wt⟩) (y := (aa x g).bW ((aa x g).top.next.pure i)) h2 (Jj.le l2) ⟨rfl, rfl, r2, rfl⟩ g0 (by rw [en]; exact g1) (by rw [en]; omega) ?_
  clear h2; intro R3 a3 M l3 nT h
  refine ⟨_, _, _, _, _, _, _, _, _, _, _, _, _, _, rfl, ?_⟩
  refine bl h rfl rfl rfl ?_
  clear h; intro M h
  refine aI h rfl ?_
  exact k _ _ _ (Mem.le_trans l2 l3) nT (h.sub bz)
 ·omega
theorem Ax (h : Hp R L M) (hw : eM R a p x) (hg : aT x g) (hs : x.Sm) (he : x.end_ = 0) (h1 : (aa x g).st = 1) {fl : List bZ} (f0 : 0 ≤ (aa x g).top.fn) (hf : p.funcs[(aa x g).top.fn.toNat]? = some fl) (pc0 : 0 ≤ (aa x g).top.pc) (hi : fl[(aa x g).top.pc.toNat]? = some i) (hokp : i.cO) (hop0 : 0 ≤ i.op) (sS : 0 ≤ (aa x g).top.pc ∧ (aa x g).top.pc < 1000000000) (h8' : 8 < i.op) {z : Wd} (zg : g < z.gs.length)
  (hdeed : ∀ (R1 : Mem) (a1 : Av) (L1 : List HP) (M1 : Mem) (K1 : Value → Mem → Prop), Hp R1 L1 M1 → eM R1 a1 p (Wd.next { x with ready := [] } g) → (∀ R' a' M', R1.le R' → eM R' a' p z → Hp R' L1 M' → K1 (gG a' p z) M') →
   ae Tryz.prog 113 #[gG a1 p (Wd.next { x with ready := [] } g), .int .i64 g, .agg #[.int .i64 i.op, .int .i64 i.a, .int .i64 i.b, .int .i64 i.c], .int .i64 d] M1 K1 Kp)
  (k : ∀ R' a' M', R.le R' → eM R' a' p z → Hp R' L M' → K (.tuple #[gG a' p z, .bool (decide (z.end_ = 0 ∧ (aa z g).st = 1 ∧ i.op ≠ 12 ∧ i.op ≠ 17))]) M') :
  ae Tryz.prog 78 #[gG a p x, .int .i64 g, .int .i64 d] M K Kp := by
 refine fR ?_
 obtain ⟨rs, bx, dQ⟩ := hw.gs
 obtain ⟨g0, g1, g2, g3⟩ := id hg
 have hn := hs.2.2.1
 refine ai h ?_
 clear h
 intro q1 M h
 refine ai h ?_
 clear h
 intro q3 M h
 refine ak h ?_
 clear h
 intro M h
 obtain ⟨⟨oV, rA, rn, rc, AU⟩, hr, e1, e2, e3, e4⟩ := dQ.at (bM g0 g1)
 dsimp only at e1 e2 e3 e4
 subst e1; subst e2; subst e4
 obtain ⟨b, o, jG⟩ := bx.some (by rw [dQ.1]; omega) (by decide)
 rw [jG] at bx
 obtain ⟨bf, of, qK⟩ := e3.some (by omega) (by decide)
 subst qK
 refine aD (by simp; omega) ?_
 refine ax h ?_
 refine aD (by simp; omega) ?_
 refine az h ?_
 refine aD (by simp [he]) ?_
 refine ax h ⟨g0, g1, bq jG ?_⟩
 refine aj (Src.at bx.src h hr (j := 0) rfl (by simp [tS])) ?_
 refine aD (by simp [h1]) ?_
 refine ax h ⟨g0, g1, bq jG ?_⟩
 refine bu (Src.at bx.src h hr (j := 1) rfl rfl) ?_
 dsimp only
 rw [cK g2 (by omega)]
 refine ⟨by omega, by omega, aV ?_⟩
 rw [Int.toNat_natCast]
 have ht := bR g2
 refine aj (Src.at e3.src h ht (j := 0) rfl rfl) ?_
 refine aj (Src.at e3.src h ht (j := 1) rfl rfl) ?_
 refine aj (Src.at e3.src h ht (j := 2) rfl rfl) ?_
 refine aj (Src.at e3.src h ht (j := 3) rfl rfl) ?_
 refine aj (Src.at e3.src h ht (j := 4) rfl rfl) ?_
 refine aj (Src.at e3.src h ht (j := 5) rfl rfl) ?_
 refine aj (Src.at e3.src h ht (j := 6) rfl rfl) ?_
 refine aj (Src.at e3.src h ht (j := 7) rfl rfl) ?_
 refine aj (Src.at e3.src h ht (j := 8) rfl rfl) ?_
 refine aj (Src.at e3.src h ht (j := 9) rfl rfl) ?_
 refine aj (Src.at e3.src h ht (j := 10) rfl rfl) ?_
 refine ai h ?_
 clear h
 intro q49 M h
 repeat (refine ak h ?_; clear h; intro M h)
 generalize hx0 : ({ x with ready := [] } : Wd) = x0 at hdeed
 have Jj : eM R { a with ar := none, cr := 0 } p x0 := by subst hx0; exact ⟨hw.AT, hw.dB, hw.gs, hw.av, hw.aC, hw.hl, hw.out, RS.nil _ _⟩
 have hg0 : aT x0 g := by subst hx0; exact hg
 have ea : aa x0 g = aa x g := by subst hx0; rfl
 have en : x0.gs.length = x.gs.length := by subst hx0; rfl
 replace h : Hp R (pt q49 (gJ (aa x g).top) tF :: pt q1 (ke { a with ar := none, cr := 0 } p x0) tW :: pt q3 gC tW :: L) M := by subst hx0; exact h.sub bz
 obtain ⟨ts, hts, htl, htf⟩ := hw.AT.funcs
 obtain ⟨t, C8⟩ := aJ (l := ts) (i := (aa x g).top.fn.toNat) (by have := (List.getElem?_eq_some_iff.1 hf).1; omega)
 obtain ⟨gL, htn⟩ := htf _ _ _ C8 hf
 have hflt := (List.getElem?_eq_some_iff.1 hf).1
 obtain ⟨bt, ot, NS⟩ := hts.some (by omega) (by decide)
 rw [NS] at hts
 refine aj (bQ h (j := 1) rfl) ?_
 refine ax h ?_
 refine aj (bQ h (j := 0) rfl) ?_
 refine ⟨f0, by show (aa x g).top.fn < (p.funcs.length : Int); omega, bq NS ?_⟩
 refine bu (Src.at hts.src h C8 (j := 0) rfl (by show _ = ot + ((aa x g).top.fn.toNat * 1 + 0); omega)) ?_
 have hilt := (List.getElem?_eq_some_iff.1 hi).1
 refine aD (by simp; show (aa x g).top.pc < (t.2.1 : Int); omega) ?_
 refine ax h (aj (bQ h (j := 0) rfl) ⟨f0, by show (aa x g).top.fn < (p.funcs.length : Int); omega, bq NS ?_⟩)
 refine bu (Src.at hts.src h C8 (j := 0) rfl (by show _ = ot + ((aa x g).top.fn.toNat * 1 + 0); omega)) ?_
 obtain ⟨bi, oi, Y9⟩ := gL.some (by omega) (by decide)
 rw [Y9] at gL
 refine aj (bQ h (j := 1) rfl) ⟨pc0, by show (aa x g).top.pc < (t.2.1 : Int); omega, bq Y9 ?_⟩
 refine aj (Src.at gL.src h hi (j := 0) rfl (by show _ = oi + ((aa x g).top.pc.toNat * 4 + 0); rfl)) ?_
 refine aj (Src.at gL.src h hi (j := 1) rfl rfl) ?_
 refine aj (Src.at gL.src h hi (j := 2) rfl rfl) ?_
 refine aj (Src.at gL.src h hi (j := 3) rfl rfl) ?_
 refine ai h ?_
 clear h
 intro q107 M h
 repeat (refine ak h ?_; clear h; intro M h)
 refine aj (bQ h (j := 0) rfl) ?_
 refine aj (bQ h (j := 1) rfl) ?_
 refine aj (bQ h (j := 2) rfl) ?_
 refine aj (bQ h (j := 3) rfl) ?_
 refine aj (bQ h (j := 4) rfl) ?_
 refine aj (bQ h (j := 5) rfl) ?_
 refine aj (bQ h (j := 6) rfl) ?_
 refine aj (bQ h (j := 7) rfl) ?_
 refine aj (bQ h (j := 8) rfl) ?_
 refine aj (bQ h (j := 9) rfl) ?_
 refine aj (bQ h (j := 10) rfl) ?_
 refine az h (az h (az h (az h ?_)))
 refine CJ (f := (aa x g).top) (x := i) h hokp hop0 sS (fun h8 => ?_) (fun h8 => ?_)
 ·omega
 ·clear h; intro M h
  apply Exists.intro; (repeat apply Exists.intro); refine And.intro rfl ?_
  refine ai h ?_
  clear h
  intro q142 M h
  repeat (refine ak h ?_; clear h; intro M h)
  refine aD rfl ?_
  replace h : Hp R (pt q107 [.int .i64 i.op, .int .i64 i.a, .int .i64 i.b, .int .i64 i.c] tI :: pt q1 (ke { a with ar := none, cr := 0 } p x0) tW :: pt q3 gC tW :: L) M := h.sub bz
  refine aI h rfl (az h (az h (az h (az h ?_))))
  refine NH h Jj hg0 (by rw [en]; omega) (by rw [ea]; exact sS) ?_
  clear h; intro R1 a1 M l1 mT h
  refine ⟨_, _, _, _, _, _, _, _, _, _, _, _, _, _, rfl, fA h rfl, ?_⟩
  refine hdeed R1 a1 _ M _ h mT ?_
  clear h; intro R2 a2 M l2 cu h
  refine ⟨_, _, _, _, _, _, _, _, _, _, _, _, _, _, rfl, fA h rfl, ?_⟩
  refine bl h rfl rfl rfl ?_
  clear h; intro M h
  refine ⟨fA h rfl, ?_⟩
  refine aI h rfl (az h ?_)
  have le2 := Mem.le_trans l1 l2
  refine bh.2 ⟨fun z0 => ?_, fun z0 => ?_⟩
  ·obtain ⟨rsz, hrsz, hlz⟩ := cu.gs
   obtain ⟨⟨sz, Az, nz, cz, wz⟩, hrz, y1, y2, y3, y4⟩ := hlz.at (bM (x := z) g0 zg)
   dsimp only at y1 y2 y3 y4
   subst y1
   obtain ⟨b0, o0, hb0⟩ := hrsz.some (by rw [hlz.1]; omega) (by decide)
   rw [hb0] at hrsz
   refine ax h ⟨g0, zg, bq hb0 ?_⟩
   refine aj (Src.at hrsz.src h hrz (j := 0) rfl (by simp [tS])) ?_
   refine bh.2 ⟨fun z1 => ?_, fun z1 => ?_⟩
   ·refine az h ?_
    refine cY.2 ⟨fun h12 => ?_, fun h12 => ?_⟩
    ·refine az h ?_
     refine bl h rfl rfl rfl ?_
     clear h; intro M h
     refine ⟨cv h, ?_⟩
     refine aI h rfl ?_
     have hk := k R2 a2 M le2 cu (h.sub bz)
     have eb : decide (z.end_ = 0 ∧ (aa z g).st = 1 ∧ i.op ≠ 12 ∧ i.op ≠ 17) = (i.op != 17) := by
      rw [Bool.eq_iff_iff, decide_eq_true_iff, bne_iff_ne]
      exact ⟨fun hh => hh.2.2.2, fun hh => ⟨z0, z1, h12, hh⟩⟩
     rw [eb] at hk
     exact hk
    ·refine bl h rfl rfl rfl ?_
     clear h; intro M h
     refine aI h rfl ?_
     have hk := k R2 a2 M le2 cu (h.sub bz)
     rw [decide_eq_false (fun hh => hh.2.2.1 h12)] at hk
     exact hk
   ·refine bl h rfl rfl rfl ?_
    clear h; intro M h
    refine aI h rfl ?_
    have hk := k R2 a2 M le2 cu (h.sub bz)
    rw [decide_eq_false (fun hh => z1 hh.2.1)] at hk
    exact hk
  ·refine bl h rfl rfl rfl ?_
   clear h; intro M h
   refine aI h rfl ?_
   have hk := k R2 a2 M le2 cu (h.sub bz)
   rw [decide_eq_false (fun hh => z0 hh.1)] at hk
   exact hk
end
section
variable {R : Mem} {L L' : List HP} {M : Mem} {K : Value → Mem → Prop} {Kp : List PanicEntry → Mem → Prop} {a : Av} {p : cy} {x : Wd} {g : Int} {i : bZ} {d : Int}
theorem DW (h : Hp R L M) (hw : eM R a p x) (hs : x.Sm) (hno : g < 0 ∨ (x.gs.length : Int) ≤ g ∨ x.end_ ≠ 0 ∨ (aa x g).st ≠ 1)
  (k : ∀ R' a' M', R.le R' → eM R' a' p { x with ready := [] } → Hp R' L M' → K (.tuple #[gG a' p { x with ready := [] }, .bool false]) M') :
  ae Tryz.prog 78 #[gG a p x, .int .i64 g, .int .i64 d] M K Kp := by
 refine fR ?_
 have Jj : eM R { a with ar := none, cr := 0 } p { x with ready := [] } := ⟨hw.AT, hw.dB, hw.gs, hw.av, hw.aC, hw.hl, hw.out, RS.nil _ _⟩
 have hn := hs.2.2.1
 refine ai h ?_
 clear h
 intro q1 M h
 refine ai h ?_
 clear h
 intro q3 M h
 refine ak h ?_
 clear h
 intro M h
 refine aH.2 ⟨fun c1 => ?_, fun c1 => ?_⟩
 ·refine aI h rfl ?_
  refine bl h rfl rfl rfl ?_
  clear h; intro M h
  refine aI h rfl ?_
  exact k _ _ _ (Mem.le_refl R) Jj (h.sub bz)
 refine ax h ?_
 refine aH.2 ⟨fun c2 => ?_, fun c2 => ?_⟩
 ·refine aI h rfl ?_
  refine bl h rfl rfl rfl ?_
  clear h; intro M h
  refine aI h rfl ?_
  exact k _ _ _ (Mem.le_refl R) Jj (h.sub bz)
 refine az h ?_
 refine cY.2 ⟨fun c3 => ?_, fun c3 => ?_⟩
 ·refine aI h rfl ?_
  refine bl h rfl rfl rfl ?_
  clear h; intro M h
  refine aI h rfl ?_
  exact k _ _ _ (Mem.le_refl R) Jj (h.sub bz)
 have g0 : 0 ≤ g := by omega
 have g1 : g < x.gs.length := by omega
 obtain ⟨rs, bx, dQ⟩ := hw.gs
 obtain ⟨⟨oV, rA, rn, rc, AU⟩, hr, e1, e2, e3, e4⟩ := dQ.at (bM g0 g1)
 dsimp only at e1 e2 e3 e4
 subst e1
 obtain ⟨b, o, jG⟩ := bx.some (by rw [dQ.1]; omega) (by decide)
 rw [jG] at bx
 refine ax h ⟨g0, g1, bq jG ?_⟩
 refine aj (Src.at bx.src h hr (j := 0) rfl (by simp [tS])) ?_
 refine cY.2 ⟨fun c4 => ?_, fun c4 => ?_⟩
 ·refine aI h rfl ?_
  refine bl h rfl rfl rfl ?_
  clear h; intro M h
  refine aI h rfl ?_
  exact k _ _ _ (Mem.le_refl R) Jj (h.sub bz)
 ·exfalso
  rcases hno with c | c | c | c
  ·omega
  ·omega
  ·exact c c3
  ·exact c c4
end
end Go.Proofs
namespace Go.Proofs
open Go.AF
set_option maxRecDepth 100000
set_option maxHeartbeats 1000000
attribute [local irreducible] bG dF ff dP aF fa aE b7 aO bk bJ aM
def jr (y : gK) : gK := if y.st = 2 then y else { y with wt := .zero }
def Wd.abs (x : Wd) (hs : List aN) : Wd := { x with gs := x.gs.map jr, hl := hs }
section
variable {p : cy} {x : Wd} {g : Int} {hs : List aN} {i : bZ}
theorem kN {y : gK} : (jr y).st = y.st := by unfold jr; split <;> rfl
theorem jc {y : gK} : (jr y).fs = y.fs := by unfold jr; split <;> rfl
theorem mN {y : gK} : (jr y).top = y.top := by unfold gK.top; rw [jc]
theorem pZ {y : gK} (h : y.st = 2) : jr y = y := by unfold jr; rw [if_pos h]
theorem AV {st : Int} {fs : List eH} {wt : bZ} (h : st ≠ 2) : jr ⟨st, fs, wt⟩ = ⟨st, fs, .zero⟩ := by unfold jr; rw [if_neg h]
theorem Za {fs : List eH} {wt : bZ} : jr ⟨2, fs, wt⟩ = ⟨2, fs, wt⟩ := by unfold jr; rw [if_pos rfl]
theorem sZ {y : gK} {f : eH} : jr (y.bW f) = (jr y).bW f := by
 unfold jr gK.bW
 dsimp only
 split <;> rfl
theorem cL : aa (x.abs hs) g = jr (aa x g) := by
 unfold aa Wd.abs
 dsimp only
 rw [List.getD_eq_getElem?_getD, List.getD_eq_getElem?_getD, List.getElem?_map]
 cases x.gs[g.toNat]? with
 | some y => rfl
 | none => rfl
theorem kZ {y : gK} : (x.bp g y).abs hs = (x.abs hs).bp g (jr y) := by
 unfold Wd.bp Wd.abs
 simp only [List.map_set]
theorem eK {q v : Int} : (x.aW g q v).abs hs = (x.abs hs).aW g q v := by
 unfold Wd.aW
 rw [kZ, cL, mN, sZ]
theorem VX : (x.next g).abs hs = (x.abs hs).next g := by
 unfold Wd.next
 rw [kZ, cL, mN, sZ]
theorem tX : (x.abs hs).gs.length = x.gs.length := by simp [Wd.abs]
theorem js {q : Int} : aK (x.abs hs) g q = aK x g q := by unfold aK; rw [cL, mN]
theorem s9 : (x.eV g).abs hs = (x.abs hs).eZ g := by
 unfold Wd.eV Wd.eZ
 have h : ({ aa (x.abs hs) g with st := 1, wt := .zero } : gK) = jr { aa x g with st := 1 } := by
  show (⟨1, (aa (x.abs hs) g).fs, .zero⟩ : gK) = jr ⟨1, (aa x g).fs, (aa x g).wt⟩
  rw [cL, jc, AV (by decide)]
 rw [h, ← kZ]
 rfl
theorem E8 : ∀ (l : List Int) (x : Wd), (l.foldl Wd.eV x).abs hs = l.foldl Wd.eZ (x.abs hs)
 | [], x => rfl
 | g :: l, x => by rw [List.foldl_cons, List.foldl_cons, E8 l, s9]
theorem tY : (x.block g i).abs hs = (x.abs hs).mM g 2 i := by
 unfold Wd.block Wd.mM
 rw [kZ, cL]
 congr 1
 show jr ⟨2, (aa x g).fs, i⟩ = ⟨2, (jr (aa x g)).fs, i⟩
 rw [Za, jc]
theorem Rb : (x.leave g).abs hs = (x.abs hs).leave g := rfl
theorem tZ {k : Int} {c : Lk} : (x.da k c).abs hs = (x.abs hs).da k c := rfl
theorem CO {k : Int} (h2 : (aa x g).st = 2) : (x.cU g k).abs hs = (x.abs hs).cU g k := by
 unfold Wd.cU
 rw [Rb, eK, cL, pZ h2]
theorem reg_at (h0 : 0 ≤ g) (hg : g < x.gs.length) {q n m : Int} : (aa (x.aW g q n) m).st = (aa x m).st ∧ (aa (x.aW g q n) m).wt = (aa x m).wt :=
 ⟨(tN h0 hg).1, (tN h0 hg).2.1⟩
theorem xR {v : Wt} {s : Int} (h0 : 0 ≤ v.g) (hg : v.g < x.gs.length) (h2 : (aa x v.g).st = 2) : (x.received p v s).abs hs = (x.abs hs).dY p v s := by
 unfold Wd.received Wd.dY
 dsimp only
 rw [s9, cL, pZ h2]
 split
 ·rw [CO (by rw [(reg_at h0 hg).1]; exact h2), eK]
 ·rw [eK, eK]
theorem VY {v : Wt} (h2 : (aa x v.g).st = 2) : (x.sent v).abs hs = (x.abs hs).oT v := by
 unfold Wd.sent Wd.oT
 rw [s9, cL, pZ h2]
 split
 ·rw [CO h2]
 ·rfl
theorem O1 {k v : Int} (hr : ((aX x.av k).send v).2.2.1 = true → At x ((aX x.av k).send v).2.1.g 2) :
  match x.put p k v with
  | .on (y, b) => (x.abs hs).nU p k v = (y.abs hs, b)
  | .dg n y => n = -1 ∧ (x.abs hs).nU p k v = ((x.abs hs).iJ (-1), true)
  | .fF _ _ => False := by
 unfold Wd.put Wd.nU
 have e : (x.abs hs).av = x.av := rfl
 rw [e]
 dsimp only
 by_cases KC : ((aX x.av k).send v).2.2.2 = 10
 ·rw [if_pos KC, if_pos KC]; exact ⟨rfl, rfl⟩
 ·rw [if_neg KC, if_neg KC]
  dsimp only
  by_cases ho : ((aX x.av k).send v).2.2.1 = true
  ·rw [if_pos ho, if_pos ho]
   obtain ⟨a0, a1, a2⟩ := hr ho
   rw [xR (x := x.bg k _) a0 a1 a2]; rfl
  ·rw [if_neg ho, if_neg ho]; rfl
theorem O2 {k : Int} (hr : (aX x.av k).recv.2.2.2.2.1 = true → At x (aX x.av k).recv.2.2.2.1.g 2) :
  (x.abs hs).jZ k = ((x.get k).1.abs hs, (x.get k).2) := by
 unfold Wd.get Wd.jZ
 have e : (x.abs hs).av = x.av := rfl
 rw [e]
 dsimp only
 have hy : (if (aX x.av k).recv.2.2.2.2.1 = true then ((x.abs hs).bg k (aX x.av k).recv.1).oT (aX x.av k).recv.2.2.2.1 else (x.abs hs).bg k (aX x.av k).recv.1) =
   Wd.abs (if (aX x.av k).recv.2.2.2.2.1 = true then (x.bg k (aX x.av k).recv.1).sent (aX x.av k).recv.2.2.2.1 else x.bg k (aX x.av k).recv.1) hs := by
  split
  ·rename_i ho
   obtain ⟨a0, a1, a2⟩ := hr ho
   rw [VY (x := x.bg k _) a2]; rfl
  ·rfl
 rw [hy]
 by_cases hso : (aX x.av k).recv.2.2.1 = true
 ·rw [if_pos hso, if_pos hso]
 ·rw [if_neg hso, if_neg hso]
theorem VZ (h : (aa x g).fs.length < 16) : ∀ y, x.call g i = .on y → y.abs hs = (x.abs hs).zU g i := by
 intro y hy
 unfold Wd.call at hy
 rw [if_neg (by omega)] at hy
 cases hy
 unfold Wd.zU
 rw [cL, jc, if_neg (by omega), kZ, js]
 congr 1
 unfold jr; dsimp only
 split <;> rfl
theorem V0 : (x.back g i).abs hs = (x.abs hs).E3 g i := by
 unfold Wd.back Wd.E3
 rw [cL, jc]
 split
 ·rw [kZ, js]
  congr 1
  unfold jr gK.back CH DV gK.top; dsimp only
  split <;> rfl
 ·have h4 : (x.bp g { aa x g with st := 4 }).abs hs = (x.abs hs).mM g 4 .zero := by
   unfold Wd.mM
   rw [kZ, cL]
   congr 1
   show jr ⟨4, (aa x g).fs, (aa x g).wt⟩ = ⟨4, (jr (aa x g)).fs, .zero⟩
   rw [AV (by decide), jc]
  split
  ·rw [← h4]; rfl
  ·exact h4
end
def gh (hs : List aN) : Out Wd → Wd → Prop
 | .on y, z => z = y.abs hs
 | .dg n y, z => z = (y.abs hs).iJ n
 | .fF _ _, _ => False
section
variable {p : cy} {x : Wd} {g : Int} {hs : List aN} {i : bZ}
theorem mO {k : Int} (h0 : 0 ≤ k) (h1 : k < x.av.length) : x.bg k (aX x.av k) = x := by
 have : x.av.set k.toNat (aX x.av k) = x.av := by
  unfold aX
  rw [List.getD_eq_getElem?_getD, List.getElem?_eq_getElem (by omega)]
  simp
 unfold Wd.bg
 rw [this]
theorem NT {k : Int} (h0 : 0 ≤ k) (h1 : k < x.aC.length) : x.da k (cQ x k) = x := by
 have : x.aC.set k.toNat (cQ x k) = x.aC := by
  unfold cQ
  rw [List.getD_eq_getElem?_getD, List.getElem?_eq_getElem (by omega)]
  simp
 unfold Wd.da
 rw [this]
theorem AW {c : aQ} {v : Int} (h : (c.send v).2.2.2 ≠ 0) : (c.send v).1 = c ∧ (c.send v).2.2.1 = false := by
 obtain ⟨room, buf, snd, cH, closed⟩ := c
 cases closed with
 | true => exact ⟨rfl, rfl⟩
 | false =>
  cases cH with
  | cons w r => exact absurd rfl h
  | nil =>
   by_cases hb : buf.length < room
   ·exact absurd (by simp [aQ.send, hb]) h
   ·simp [aQ.send, hb]
theorem Zb {c : aQ} (h : c.recv.2.2.1 = false) (h2 : c.recv.2.2.2.2.2 ≠ 0) : c.recv.1 = c ∧ c.recv.2.2.2.2.1 = false := by
 obtain ⟨room, buf, snd, cH, closed⟩ := c
 unfold aQ.recv at *
 dsimp only at *
 repeat (first | split at h | split)
 all_goals first | exact ⟨rfl, rfl⟩ | (exfalso; exact h2 rfl) | cases h | skip
theorem V1 {c : aQ} (h : c.close.2.2.2 ≠ 0) : c.close.1 = c := by
 obtain ⟨room, buf, snd, cH, closed⟩ := c
 cases closed with
 | true => rfl
 | false => exact absurd rfl h
theorem V2 : gh hs (x.emit g i) ((x.abs hs).E4 g i) := by
 unfold Wd.emit Wd.E4
 have e : (x.abs hs).out = x.out := rfl
 rw [e, js]
 by_cases h : 1000 ≤ x.out.length
 ·rw [if_pos h, if_pos (by omega)]; rfl
 ·rw [if_neg h, if_neg (by omega)]; rfl
theorem Rc : gh hs (x.spawn g i) ((x.abs hs).zi g i) := by
 unfold Wd.spawn Wd.zi
 rw [tX]
 by_cases h : 100 ≤ x.gs.length
 ·rw [if_pos h, if_pos (by omega)]; rfl
 ·rw [if_neg h, if_neg (by omega)]
  show _ = _
  rw [eK, s9, js]
  congr 2
  unfold Wd.CK Wd.abs
  simp only [List.map_append, List.map_cons, List.map_nil]
  rw [show jr ⟨0, [eH.begin i.a (aK x g i.b)], .zero⟩ = ⟨0, [eH.begin i.a (aK x g i.b)], .zero⟩ from AV (by decide)]
theorem V3 (h0 : 0 ≤ i.a) (h1 : i.a < x.av.length) (hr : ((aX x.av i.a).send (aK x g i.b)).2.2.1 = true → At x ((aX x.av i.a).send (aK x g i.b)).2.1.g 2) :
  gh hs (x.send p g i) ((x.abs hs).E5 p g i) := by
 have hp := O1 (p := p) (hs := hs) (k := i.a) (v := aK x g i.b) hr
 unfold Wd.send Wd.E5
 rw [js]
 cases hx : x.put p i.a (aK x g i.b) with
 | fF l y => rw [hx] at hp; exact hp
 | dg n y =>
  rw [hx] at hp
  obtain ⟨rfl, hp⟩ := hp
  rw [hp, if_pos rfl]
  show _ = _
  unfold Wd.put at hx
  dsimp only at hx
  split at hx
  ·rename_i Qk
   cases hx
   rw [(AW (by rw [Qk]; decide)).1, mO h0 h1]
  ·cases hx
 | on r =>
  obtain ⟨y, b⟩ := r
  rw [hx] at hp
  rw [hp]
  dsimp only
  cases b with
  | true => rw [if_pos rfl]; rfl
  | false =>
   rw [if_neg (by decide)]
   show _ = _
   have hy : y = x := by
    unfold Wd.put at hx
    dsimp only at hx
    split at hx
    ·cases hx
    ·injection hx with hx
     injection hx with h2 h3
     have hne : ((aX x.av i.a).send (aK x g i.b)).2.2.2 ≠ 0 := fun e => by rw [e] at h3; cases h3
     rw [(AW hne).2, (AW hne).1] at h2
     simp only [Bool.false_eq_true, if_false] at h2
     rw [mO h0 h1] at h2
     exact h2.symm
   subst hy
   rw [tY]
   rfl
end
section
variable {p : cy} {x : Wd} {g : Int} {hs : List aN} {i : bZ}
theorem V4 (h0 : 0 ≤ i.a) (h1 : i.a < x.av.length) (hr : (aX x.av i.a).recv.2.2.2.2.1 = true → At x (aX x.av i.a).recv.2.2.2.1.g 2) :
  (x.recv g i).abs hs = (x.abs hs).E6 g i := by
 have hg := O2 (hs := hs) hr
 unfold Wd.recv Wd.E6
 rw [hg]
 dsimp only
 by_cases hb : (x.get i.a).2.2.2 = true
 ·rw [if_pos hb, if_pos hb, eK, eK]
 ·rw [if_neg hb, if_neg hb]
  have hy : (x.get i.a).1 = x := by
   unfold Wd.get at hb ⊢
   dsimp only at hb ⊢
   by_cases hso : (aX x.av i.a).recv.2.2.1 = true
   ·rw [if_pos hso] at hb; exact absurd rfl hb
   ·rw [if_neg hso] at hb ⊢
    have hne : (aX x.av i.a).recv.2.2.2.2.2 ≠ 0 := fun e => hb (by simp [e])
    obtain ⟨r1, r2⟩ := Zb (by simpa using hso) hne
    rw [r2, r1]
    simp only [Bool.false_eq_true, if_false]
    exact mO h0 h1
  rw [hy, tY]
  rfl
theorem V5 : (x.lock g i).abs hs = (x.abs hs).E7 g i := by
 unfold Wd.lock Wd.E7 zj
 have e : cQ (x.abs hs) i.a = cQ x i.a := rfl
 rw [e]
 by_cases ho : (cQ x i.a).owner = -1
 ·have : ((cQ x i.a).take g).2 = true := by unfold Lk.take; rw [if_pos ho]
  rw [if_pos this, if_pos ho, tZ]
 ·have : ((cQ x i.a).take g).2 ≠ true := by unfold Lk.take; rw [if_neg ho]; show (false : Bool) ≠ true; decide
  rw [if_neg this, if_neg ho, tY, tZ]
theorem NU (h0 : 0 ≤ i.a) (h1 : i.a < x.aC.length) (hw : ∀ w ∈ (cQ x i.a).waits, 0 ≤ w) : gh hs (x.unlock g i) ((x.abs hs).tV g i) := by
 unfold Wd.unlock Wd.tV
 have e : cQ (x.abs hs) i.a = cQ x i.a := rfl
 rw [e]
 by_cases h5 : ((cQ x i.a).gU g).2.2 ≠ 0
 ·rw [if_pos h5, if_pos h5]
  show _ = _
  have : ((cQ x i.a).gU g).1 = cQ x i.a := by
   unfold Lk.gU at h5 ⊢
   split at h5
   ·rename_i hc; rw [if_pos hc]
   ·exact absurd rfl h5
  rw [this, NT h0 h1]
 ·rw [if_neg h5, if_neg h5]
  have hv : ((cQ x i.a).gU g).2.1 ≠ -1 ↔ 0 ≤ ((cQ x i.a).gU g).2.1 := by
   unfold Lk.gU
   split
   ·show (-1 : Int) ≠ -1 ↔ 0 ≤ (-1 : Int); decide
   ·show (cQ x i.a).waits.headD (-1) ≠ -1 ↔ 0 ≤ (cQ x i.a).waits.headD (-1)
    cases hq : (cQ x i.a).waits with
    | nil => decide
    | cons a l =>
     have := hw a (by rw [hq]; simp)
     simp only [List.headD_cons]
     omega
  by_cases hp : 0 ≤ ((cQ x i.a).gU g).2.1
  ·rw [if_pos (hv.2 hp), if_pos hp]
   show _ = _
   rw [s9, tZ]
  ·rw [if_neg (fun e => hp (hv.1 e)), if_neg hp]
   show _ = _
   rw [tZ]
theorem zl : ∀ (l : List Wt) (x : Wd), (∀ v ∈ l, 0 ≤ v.g ∧ v.g < x.gs.length) → (l.foldl (cJ p) x).abs hs = l.foldl (dy p) (x.abs hs)
 | [], x, _ => rfl
 | v :: l, x, h => by
  obtain ⟨v0, v1⟩ := h v (by simp)
  have e : (cJ p x v).abs hs = dy p (x.abs hs) v ∧ (cJ p x v).gs.length = x.gs.length := by
   unfold cJ dy
   rw [cL, kN]
   by_cases h2 : (aa x v.g).st = 2
   ·rw [if_pos h2, if_pos h2]
    exact ⟨xR (v := { v with v := 0 }) v0 v1 h2, pU⟩
   ·rw [if_neg h2, if_neg h2]; exact ⟨rfl, rfl⟩
  rw [List.foldl_cons, List.foldl_cons, zl l _ (fun w hw => by rw [e.2]; exact h w (by simp [hw])), e.1]
theorem V6 (h0 : 0 ≤ i.a) (h1 : i.a < x.av.length) (hv : ∀ v ∈ (aX x.av i.a).close.2.1, 0 ≤ v.g ∧ v.g < x.gs.length) : gh hs (x.shut p i) ((x.abs hs).zT p i.a) := by
 unfold Wd.shut Wd.zT
 have e : (x.abs hs).av = x.av := rfl
 rw [e]
 dsimp only
 by_cases hc : (aX x.av i.a).close.2.2.2 ≠ 0
 ·rw [if_pos hc, if_pos hc]
  show _ = _
  rw [V1 hc, mO h0 h1]
 ·rw [if_neg hc, if_neg hc]
  by_cases hp : 0 < (aX x.av i.a).close.2.2.1.length
  ·rw [if_pos hp, if_pos hp]; rfl
  ·rw [if_neg hp, if_neg hp]
   show _ = _
   rw [zl _ (x.bg i.a _) hv]
   rfl
theorem Ho {v : Wt} {s : Int} : (x.received p v s).end_ = x.end_ := by
 unfold Wd.received; dsimp only
 split <;> rfl
theorem Zc {k v : Int} : ∀ y b, x.put p k v = .on (y, b) → y.end_ = x.end_ := by
 intro y b h
 unfold Wd.put at h
 dsimp only at h
 split at h
 ·cases h
 ·injection h with h
  injection h with h2 h3
  rw [← h2]
  split
  ·exact Ho
  ·rfl
theorem J5 {k v : Int} (h0 : 0 ≤ k) (h1 : k < x.av.length) : ∀ n y, x.put p k v = .dg n y → n = -1 ∧ y = x := by
 intro n y h
 unfold Wd.put at h
 dsimp only at h
 split at h
 ·rename_i Qk
  cases h
  exact ⟨rfl, by rw [(AW (by rw [Qk]; decide)).1, mO h0 h1]⟩
 ·cases h
end
section
variable {p : cy} {x : Wd} {g : Int} {hs : List aN} {i : bZ}
theorem CP : (x.kF p g i).abs hs = ((x.next g).abs hs).nA p g i := by
 unfold Wd.kF Wd.nA
 dsimp only
 cases els (aB p i) with
 | some k => dsimp only; rw [eK]
 | none =>
  dsimp only
  rw [tY, cL, mN]
  rfl
theorem Hq {k : Int} (he : x.end_ = 0) (h0 : 0 ≤ ((aB p i).getD k.toNat ⟨0, 0, 0⟩).ch) (h1 : ((aB p i).getD k.toNat ⟨0, 0, 0⟩).ch < x.av.length)
  (qM : ∀ v, ((aX x.av ((aB p i).getD k.toNat ⟨0, 0, 0⟩).ch).send v).2.2.1 = true → At (x.next g) ((aX x.av ((aB p i).getD k.toNat ⟨0, 0, 0⟩).ch).send v).2.1.g 2)
  (hs2 : (aX x.av ((aB p i).getD k.toNat ⟨0, 0, 0⟩).ch).recv.2.2.2.2.1 = true → At (x.next g) (aX x.av ((aB p i).getD k.toNat ⟨0, 0, 0⟩).ch).recv.2.2.2.1.g 2) :
  gh hs (x.kX p g i k) (((x.next g).abs hs).tU p g i k) := by
 unfold Wd.kX Wd.tU
 generalize (aB p i).getD k.toNat ⟨0, 0, 0⟩ = c at h0 h1 qM hs2
 dsimp only
 by_cases hw : c.way = 1
 ·rw [if_pos hw, if_pos hw, js]
  have hp := O1 (p := p) (hs := hs) (x := x.next g) (k := c.ch) (v := aK (x.next g) g c.bH) (qM _)
  cases hx : (x.next g).put p c.ch (aK (x.next g) g c.bH) with
  | fF l y => rw [hx] at hp; exact hp
  | dg n y =>
   rw [hx] at hp
   obtain ⟨_, hp⟩ := hp
   obtain ⟨hn, hy⟩ := J5 (x := x.next g) h0 h1 n y hx
   rw [hp]
   dsimp only
   rw [if_pos (by show (2 : Int) ≠ 0; decide)]
   show _ = _
   rw [hy, hn]
  | on r =>
   obtain ⟨y, b⟩ := r
   rw [hx] at hp
   dsimp only at hp ⊢
   rw [hp]
   dsimp only
   have hye : y.end_ = 0 := by rw [Zc y b hx]; exact he
   rw [if_neg (by show ¬ y.end_ ≠ 0; rw [hye]; decide)]
   show _ = _
   rw [eK]
 ·rw [if_neg hw, if_neg hw]
  have hg := O2 (hs := hs) (x := x.next g) (k := c.ch) hs2
  rw [hg]
  dsimp only
  show _ = _
  rw [eK, eK]
end
theorem oU {a b c : aN} (h : a.before b = false) (h2 : b.before c = false) : a.before c = false := by
 unfold aN.before at *
 simp only [Bool.or_eq_false_iff, Bool.and_eq_false_iff, decide_eq_false_iff_not, beq_eq_false_iff_ne] at *
 omega
theorem V7 {a b : aN} (h : a.before b = true) : b.before a = false := by
 unfold aN.before at *
 simp only [Bool.or_eq_true, Bool.and_eq_true, decide_eq_true_iff, beq_iff_eq, Bool.or_eq_false_iff, Bool.and_eq_false_iff, decide_eq_false_iff_not, beq_eq_false_iff_ne] at *
 omega
theorem Hr (a : aN) : a.before a = false := by
 unfold aN.before
 simp
def j5 (l : List aN) : Prop := ∀ i, 0 < i → i < l.length → (fy l i).before (fy l ((i - 1) / 4)) = false
theorem j5.root {l : List aN} (h : j5 l) : ∀ i, i < l.length → (fy l i).before (fy l 0) = false := by
 intro i
 induction i using Nat.strongRecOn with
 | ind i ih =>
  intro hi
  by_cases h0 : i = 0
  ·subst h0; exact Hr _
  ·exact oU (h i (by omega) hi) (ih ((i - 1) / 4) (by omega) (by omega))
theorem CQ {l : List aN} {i j m : Nat} (hi : i < l.length) (hj : j < l.length) (hne : i ≠ j) : fy (dZ l i j) m = if m = i then fy l j else if m = j then fy l i else fy l m := by
 unfold dZ
 rw [fy, List.getD_eq_getElem?_getD, List.getElem?_set, List.length_set]
 by_cases h1 : j = m
 ·subst h1
  rw [if_pos rfl, if_pos hj, if_neg (fun e => hne e.symm), if_pos rfl]; rfl
 ·rw [if_neg h1, List.getElem?_set]
  by_cases h2 : i = m
  ·subst h2
   rw [if_pos rfl, if_pos hi, if_pos rfl]; rfl
  ·rw [if_neg h2, if_neg (fun e => h2 e.symm), if_neg (fun e => h1 e.symm), ← List.getD_eq_getElem?_getD]; rfl
def UpOk (l : List aN) (i : Nat) : Prop := (∀ j, 0 < j → j < l.length → j ≠ i → (fy l j).before (fy l ((j - 1) / 4)) = false) ∧
 (0 < i → ∀ j, 0 < j → j < l.length → (j - 1) / 4 = i → (fy l j).before (fy l ((i - 1) / 4)) = false)
theorem V8 : ∀ (f i : Nat) (l : List aN), i ≤ f → i < l.length → UpOk l i → j5 (OO f i l)
 | 0, i, l, hf, hi, h => by
  have : i = 0 := by omega
  subst this
  intro j j0 jl
  exact h.1 j j0 jl (by omega)
 | f + 1, i, l, hf, hi, h => by
  rw [Ct]
  by_cases hb : 0 < i ∧ (fy l i).before (fy l ((i - 1) / 4)) = true
  ·rw [if_pos hb]
   obtain ⟨i0, hb⟩ := hb
   have hpi : (i - 1) / 4 < i := by omega
   generalize hp : (i - 1) / 4 = q at hb hpi
   have hql : q < l.length := by omega
   have RJ : ∀ m, fy (dZ l i q) m = if m = i then fy l q else if m = q then fy l i else fy l m := fun m => CQ hi hql (by omega)
   refine V8 f q _ (by omega) (by rw [cP]; exact hql) ⟨fun j j0 jl jne => ?_, fun q0 j j0 jl je => ?_⟩
   ·rw [cP] at jl
    rw [RJ, RJ]
    by_cases e1 : j = i
    ·subst e1
     rw [if_pos rfl, hp, if_neg (by omega), if_pos rfl]
     exact V7 hb
    ·rw [if_neg e1, if_neg jne]
     by_cases e2 : (j - 1) / 4 = i
     ·rw [if_pos e2]
      have := h.2 i0 j j0 jl e2
      rw [hp] at this
      exact this
     ·rw [if_neg e2]
      by_cases e3 : (j - 1) / 4 = q
      ·rw [if_pos e3]
       have := h.1 j j0 jl e1
       rw [e3] at this
       exact oU this (V7 hb)
      ·rw [if_neg e3]
       exact h.1 j j0 jl e1
   ·rw [cP] at jl
    rw [RJ, RJ]
    have hq := h.1 q q0 hql (by omega)
    rw [if_neg (show ¬ (q - 1) / 4 = i by omega), if_neg (show ¬ (q - 1) / 4 = q by omega)]
    by_cases e1 : j = i
    ·rw [if_pos e1]; exact hq
    ·rw [if_neg e1, if_neg (show ¬ j = q by omega)]
     have := h.1 j j0 jl e1
     rw [je] at this
     exact oU this hq
  ·rw [if_neg hb]
   intro j j0 jl
   by_cases e : j = i
   ·subst e
    have : ¬ (fy l j).before (fy l ((j - 1) / 4)) = true := fun hh => hb ⟨j0, hh⟩
    simpa using this
   ·exact h.1 j j0 jl e
theorem J6 {l : List aN} {x : aN} (h : j5 l) : j5 (kY l x) := by
 unfold kY
 have ha : ∀ m, m < l.length → fy (l ++ [x]) m = fy l m := fun m hm => by
  unfold fy; rw [List.getD_eq_getElem?_getD, List.getElem?_append_left hm, ← List.getD_eq_getElem?_getD]
 refine V8 _ _ _ (Nat.le_refl _) (by simp) ⟨fun j j0 jl jne => ?_, fun i0 j j0 jl je => ?_⟩
 ·rw [List.length_append, List.length_singleton] at jl
  rw [ha j (by omega), ha _ (by omega)]
  exact h j j0 (by omega)
 ·rw [List.length_append, List.length_singleton] at jl
  omega
theorem nV {l : List aN} : ∀ (n k out : Nat), (∀ c, (c = out ∨ (k ≤ c ∧ c < k + n ∧ c < l.length)) → (fy l c).before (fy l (dX l n k out)) = false) ∧
  (dX l n k out = out ∨ (k ≤ dX l n k out ∧ dX l n k out < k + n ∧ dX l n k out < l.length))
 | 0, k, out => by
  refine ⟨fun c hc => ?_, .inl rfl⟩
  rcases hc with rfl | hc
  ·exact Hr _
  ·omega
 | n + 1, k, out => by
  rw [qi]
  by_cases hk : k < l.length
  ·rw [if_pos hk]
   by_cases hb : (fy l k).before (fy l out) = true
   ·rw [if_pos hb]
    obtain ⟨a, b⟩ := nV n (k + 1) k
    refine ⟨fun c hc => ?_, ?_⟩
    ·rcases hc with rfl | hc
     ·exact oU (V7 hb) (a k (.inl rfl))
     ·by_cases e : c = k
      ·exact a c (.inl e)
      ·exact a c (.inr (by omega))
    ·rcases b with b | b
     ·right; rw [b]; omega
     ·right; omega
   ·rw [if_neg hb]
    have hb' : (fy l k).before (fy l out) = false := by simpa using hb
    obtain ⟨a, b⟩ := nV n (k + 1) out
    refine ⟨fun c hc => ?_, ?_⟩
    ·rcases hc with rfl | hc
     ·exact a c (.inl rfl)
     ·by_cases e : c = k
      ·subst e; exact oU hb' (a out (.inl rfl))
      ·exact a c (.inr (by omega))
    ·rcases b with b | b
     ·left; exact b
     ·right; omega
  ·rw [if_neg hk]
   refine ⟨fun c hc => ?_, .inl rfl⟩
   rcases hc with rfl | hc
   ·exact Hr _
   ·omega
def DownOk (l : List aN) (i : Nat) : Prop := (∀ j, 0 < j → j < l.length → (j - 1) / 4 ≠ i → (fy l j).before (fy l ((j - 1) / 4)) = false) ∧
 (0 < i → ∀ j, 0 < j → j < l.length → (j - 1) / 4 = i → (fy l j).before (fy l ((i - 1) / 4)) = false)
theorem J7 : ∀ (f i : Nat) (l : List aN), l.length ≤ f + i → i < l.length → DownOk l i → j5 (nu f i l)
 | 0, i, l, hf, hi, h => by omega
 | f + 1, i, l, hf, hi, h => by
  rw [Cu]
  obtain ⟨la, lb⟩ := nV (l := l) 4 (4 * i + 1) i
  replace la : ∀ c, (c = i ∨ (4 * i + 1 ≤ c ∧ c < 4 * i + 1 + 4 ∧ c < l.length)) → (fy l c).before (fy l (fj l i)) = false := la
  replace lb : fj l i = i ∨ (4 * i + 1 ≤ fj l i ∧ fj l i < 4 * i + 1 + 4 ∧ fj l i < l.length) := lb
  by_cases hm : fj l i = i
  ·rw [if_pos hm]
   rw [hm] at la
   intro j j0 jl
   by_cases e : (j - 1) / 4 = i
   ·rw [e]; exact la j (.inr (by omega))
   ·exact h.1 j j0 jl e
  ·rw [if_neg hm]
   generalize fj l i = m at la lb hm
   have lb' : 4 * i + 1 ≤ m ∧ m < 4 * i + 1 + 4 ∧ m < l.length := by rcases lb with lb | lb; exact absurd lb hm; exact lb
   obtain ⟨m1, m2, m3⟩ := lb'
   have pm : (m - 1) / 4 = i := by omega
   have RJ : ∀ q, fy (dZ l i m) q = if q = i then fy l m else if q = m then fy l i else fy l q := fun q => CQ hi m3 (by omega)
   refine J7 f m _ (by rw [cP]; omega) (by rw [cP]; exact m3) ⟨fun j j0 jl jne => ?_, fun _ j j0 jl je => ?_⟩
   ·rw [cP] at jl
    rw [RJ, RJ]
    by_cases e1 : j = i
    ·subst e1
     rw [if_pos rfl, if_neg (show ¬ (j - 1) / 4 = j by omega), if_neg jne]
     exact h.2 j0 m (by omega) m3 pm
    ·rw [if_neg e1]
     by_cases e2 : j = m
     ·subst e2
      rw [if_pos rfl, if_pos pm]
      exact la i (.inl rfl)
     ·rw [if_neg e2]
      by_cases e3 : (j - 1) / 4 = i
      ·rw [if_pos e3]; exact la j (.inr (by omega))
      ·rw [if_neg e3, if_neg jne]; exact h.1 j j0 jl e3
   ·rw [cP] at jl
    rw [RJ, RJ, pm, if_pos rfl, if_neg (show ¬ j = i by omega), if_neg (show ¬ j = m by omega)]
    have := h.1 j j0 jl (by omega)
    rw [je] at this
    exact this
theorem CR {l : List aN} (h : j5 l) : j5 (cR l 0) := by
 unfold cR
 have ht : ∀ (l' : List aN) (n m : Nat), m < n → fy (l'.take n) m = fy l' m := fun l' n m hm => by
  unfold fy; rw [List.getD_eq_getElem?_getD, List.getElem?_take_of_lt hm, ← List.getD_eq_getElem?_getD]
 by_cases hl : 0 < l.length - 1
 ·rw [if_pos hl]
  show j5 (nu l.length 0 ((dZ l 0 (l.length - 1)).take (l.length - 1)))
  have RJ : ∀ q, fy (dZ l 0 (l.length - 1)) q = if q = 0 then fy l (l.length - 1) else if q = l.length - 1 then fy l 0 else fy l q := fun q => CQ (by omega) (by omega) (by omega)
  have hlen : ((dZ l 0 (l.length - 1)).take (l.length - 1)).length = l.length - 1 := by rw [List.length_take, cP]; omega
  refine J7 _ _ _ (by rw [hlen]; omega) (by rw [hlen]; exact hl) ⟨fun j j0 jl jne => ?_, fun i0 => by omega⟩
  rw [hlen] at jl
  rw [ht _ _ _ (by omega), ht _ _ _ (by omega), RJ, RJ, if_neg (by omega), if_neg (by omega), if_neg jne, if_neg (by omega)]
  exact h j j0 (by omega)
 ·rw [if_neg hl]
  intro j j0 jl
  rw [List.length_take, cP] at jl
  omega
theorem E9 (now : Int) : ∀ (f : Nat) (l : List aN), l.length ≤ f → (dM f l now).2 = (cn f l).takeWhile (pY now) ∧ cn (dM f l now).1.length (dM f l now).1 = (cn f l).dropWhile (pY now)
 | 0, l, h => by
  have : l = [] := List.length_eq_zero_iff.1 (by omega)
  subst this
  exact ⟨rfl, rfl⟩
 | f + 1, l, h => by
  rw [pS, iG]
  by_cases hl : 0 < l.length
  ·rw [if_pos hl]
   by_cases hd : (fy l 0).t ≤ now
   ·rw [if_pos ⟨hl, hd⟩]
    have hdb : pY now (fy l 0) = true := decide_eq_true hd
    obtain ⟨a, b⟩ := E9 now f (cR l 0) (by rw [jA]; omega)
    rw [List.takeWhile_cons, List.dropWhile_cons, if_pos hdb, if_pos hdb]
    exact ⟨by rw [← a], b⟩
   ·rw [if_neg (fun e => hd e.2)]
    have hdb : ¬ pY now (fy l 0) = true := by unfold pY; simpa using hd
    rw [List.takeWhile_cons, List.dropWhile_cons, if_neg hdb, if_neg hdb]
    refine ⟨rfl, ?_⟩
    have key : ∀ (n m : Nat) (l : List aN), l.length ≤ n → l.length ≤ m → cn n l = cn m l := by
     intro n
     induction n with
     | zero =>
      intro m l h1 _
      have : l = [] := List.length_eq_zero_iff.1 (by omega)
      subst this
      cases m with
      | zero => rfl
      | succ m => rfl
     | succ n ih =>
      intro m l h1 h2
      cases m with
      | zero =>
       have : l = [] := List.length_eq_zero_iff.1 (by omega)
       subst this; rfl
      | succ m =>
       rw [iG, iG]
       split
       ·rw [ih m _ (by rw [jA]; omega) (by rw [jA]; omega)]
       ·rfl
    rw [key l.length (f + 1) l (Nat.le_refl _) h, iG, if_pos hl]
  ·rw [if_neg (fun e => hl e.1), if_neg hl]
   have : l = [] := List.length_eq_zero_iff.1 (by omega)
   subst this
   exact ⟨rfl, rfl⟩
theorem mP : ∀ (n : Nat) (l : List aN), l.length ≤ n → j5 l → (cn n l).Perm l ∧ (cn n l).Pairwise (fun a b => b.before a = false)
 | 0, l, h, _ => by
  have : l = [] := List.length_eq_zero_iff.1 (by omega)
  subst this
  exact ⟨List.Perm.refl _, List.Pairwise.nil⟩
 | n + 1, l, h, ho => by
  rw [iG]
  by_cases hl : 0 < l.length
  ·rw [if_pos hl]
   obtain ⟨a, b⟩ := mP n (cR l 0) (by rw [jA]; omega) (CR ho)
   have hp := xP (l := l) hl
   refine ⟨(a.cons _).trans hp.symm, List.pairwise_cons.2 ⟨fun y hy => ?_, b⟩⟩
   have hm : y ∈ l := hp.mem_iff.2 (List.mem_cons_of_mem _ (a.mem_iff.1 hy))
   obtain ⟨j, hj, rfl⟩ := List.getElem_of_mem hm
   rw [← GW hj]
   exact ho.root j hj
  ·rw [if_neg hl]
   have : l = [] := List.length_eq_zero_iff.1 (by omega)
   subst this
   exact ⟨List.Perm.refl _, List.Pairwise.nil⟩
theorem wF (x : aN) : ∀ l, (iw x l).Perm (l ++ [x])
 | [] => List.Perm.refl _
 | y :: l => by
  unfold iw
  split
  ·exact (List.perm_append_singleton x (y :: l)).symm
  ·exact (wF x l).cons y
theorem Fa (x : aN) : ∀ l : List aN, l.Pairwise (fun a b => b.before a = false) → (∀ y ∈ l, y.seq < x.seq) → (iw x l).Pairwise (fun a b => b.before a = false)
 | [], _, _ => List.pairwise_singleton _ _
 | y :: l, hp, hs => by
  obtain ⟨h1, h2⟩ := List.pairwise_cons.1 hp
  have hy := hs y (by simp)
  unfold iw
  by_cases hlt : x.t < y.t
  ·rw [if_pos hlt]
   have hxy : y.before x = false := by
    unfold aN.before
    simp only [Bool.or_eq_false_iff, Bool.and_eq_false_iff, decide_eq_false_iff_not, beq_eq_false_iff_ne]
    omega
   refine List.pairwise_cons.2 ⟨fun z hz => ?_, hp⟩
   rcases List.mem_cons.1 hz with rfl | hz
   ·exact hxy
   ·exact oU (h1 z hz) hxy
  ·rw [if_neg hlt]
   refine List.pairwise_cons.2 ⟨fun z hz => ?_, Fa x l h2 (fun z hz => hs z (by simp [hz]))⟩
   rcases List.mem_append.1 ((wF x l).mem_iff.1 hz) with hz | hz
   ·exact h1 z hz
   ·rw [List.mem_singleton.1 hz]
    unfold aN.before
    simp only [Bool.or_eq_false_iff, Bool.and_eq_false_iff, decide_eq_false_iff_not, beq_eq_false_iff_ne]
    omega
theorem Rd {l : List aN} {x : aN} (ho : j5 l) (hd : l.Pairwise (fun a b => a.seq ≠ b.seq)) (hs : ∀ y ∈ l, y.seq < x.seq) :
  cn (kY l x).length (kY l x) = iw x (cn l.length l) := by
 obtain ⟨a1, b1⟩ := mP _ (kY l x) (Nat.le_refl _) (J6 ho)
 obtain ⟨a2, b2⟩ := mP _ l (Nat.le_refl _) ho
 have b3 := Fa x _ b2 (fun y hy => hs y (a2.mem_iff.1 hy))
 have p1 : (cn (kY l x).length (kY l x)).Perm (l ++ [x]) := a1.trans pW
 have p2 : (iw x (cn l.length l)).Perm (l ++ [x]) := (wF x _).trans (a2.append_right [x])
 have JM : (l ++ [x]).Pairwise (fun a b => a.seq ≠ b.seq) := by
  rw [List.pairwise_append]
  refine ⟨hd, List.pairwise_singleton _ _, fun a ha b hb => ?_⟩
  rw [List.mem_singleton.1 hb]
  have := hs a ha
  omega
 refine List.Perm.eq_of_pairwise (fun a b ha hb h1 h2 => ?_) b1 b3 (p1.trans p2.symm)
 have ha' := p1.mem_iff.1 ha
 have hb' := p2.mem_iff.1 hb
 have hsq : a.seq = b.seq := by
  unfold aN.before at h1 h2
  simp only [Bool.or_eq_false_iff, Bool.and_eq_false_iff, decide_eq_false_iff_not, beq_eq_false_iff_ne] at h1 h2
  omega
 by_cases e : a = b
 ·exact e
 ·exfalso
  obtain ⟨i, hi, rfl⟩ := List.getElem_of_mem ha'
  obtain ⟨j, hj, rfl⟩ := List.getElem_of_mem hb'
  have hij : i ≠ j := fun h => e (by subst h; rfl)
  rw [List.pairwise_iff_getElem] at JM
  rcases Nat.lt_or_gt_of_ne hij with h | h
  ·exact JM i j hi hj h hsq
  ·exact JM j i hj hi h hsq.symm
def jB (x : Wd) : List aN := cn x.hl.length x.hl
def Wd.doc (x : Wd) : Wd := x.abs (jB x)
structure u5 (x : Wd) : Prop where
 ok : j5 x.hl
 ne : x.hl.Pairwise (fun a b => a.seq ≠ b.seq)
 lt : ∀ y ∈ x.hl, 0 ≤ y.seq ∧ y.seq < x.dk
section
variable {p : cy} {x : Wd} {g : Int} {i : bZ}
theorem Re (h : u5 x) : (x.sleep g i).doc = x.doc.zf g i := by
 unfold Wd.sleep Wd.zf Wd.doc
 have e : gA (x.abs (jB x)) g i = gA x g i := by unfold gA; rw [js]
 rw [e]
 by_cases hp : 0 < gA x g i
 ·rw [if_pos hp, if_pos hp]
  have hs := Rd (l := x.hl) (x := ⟨IntKind.wrap .u64 (x.clock + IntKind.wrap .u64 (gA x g i)), x.dk, g⟩) h.ok h.ne (fun y hy => (h.lt y hy).2)
  unfold jB
  dsimp only [Wd.bp]
  rw [hs]
  unfold Wd.mM Wd.bp
  have hg : ∀ (z : Wd), z.gs = (x.abs (jB x)).gs → aa z g = jr (aa x g) := fun z hz => by
   have : aa z g = aa (x.abs (jB x)) g := by unfold aa; rw [hz]
   rw [this, cL]
  unfold Wd.abs
  simp only [List.map_set]
  congr 1
  congr 1
  show jr ⟨3, (aa x g).fs, (aa x g).wt⟩ = ⟨3, _, .zero⟩
  rw [AV (by decide)]
  congr 1
  exact (jc (y := aa x g)).symm.trans (congrArg gK.fs (hg _ rfl).symm)
 ·rw [if_neg hp, if_neg hp]
theorem V9 : (x.tick).doc = x.doc.EZ := by
 unfold Wd.tick Wd.EZ Wd.doc
 have e : (x.abs (jB x)).end_ = x.end_ := rfl
 rw [e]
 by_cases he : x.end_ ≠ 0
 ·rw [if_pos he, if_pos he]; rfl
 ·rw [if_neg he, if_neg he]
  have ec : (x.abs (jB x)).clock = x.clock := rfl
  have eh : (x.abs (jB x)).hl = cn x.hl.length x.hl := rfl
  rw [ec, eh]
  obtain ⟨a, b⟩ := E9 (IntKind.wrap .u64 (x.clock + 1)) x.hl.length x.hl (Nat.le_refl _)
  dsimp only
  rw [← a, ← b]
  generalize dM x.hl.length x.hl (IntKind.wrap .u64 (x.clock + 1)) = r
  have hh : ∀ (l : List Int) (y : Wd), (l.foldl Wd.eV y).hl = y.hl := by
   intro l
   induction l with
   | nil => intro y; rfl
   | cons g l ih => intro y; rw [List.foldl_cons, ih]; rfl
  unfold jB
  rw [hh, E8]
  rfl
theorem u5.same {y : Wd} (h : u5 x) (h1 : y.hl = x.hl) (h2 : y.dk = x.dk) : u5 y := ⟨by rw [h1]; exact h.ok, by rw [h1]; exact h.ne, by rw [h1, h2]; exact h.lt⟩
theorem u5.new (h : x.hl = []) : u5 x := ⟨by rw [h]; intro i _ hi; simp at hi, by rw [h]; exact List.Pairwise.nil, by rw [h]; intro y hy; cases hy⟩
theorem u5.sleep (h : u5 x) (h0 : 0 ≤ x.dk) (hs : x.dk + 1 < 18446744073709551616) : u5 (x.sleep g i) ∧ ((x.sleep g i).dk = x.dk ∨ (x.sleep g i).dk = x.dk + 1) := by
 unfold Wd.sleep
 by_cases hp : 0 < gA x g i
 ·rw [if_pos hp]
  have ew : IntKind.wrap .u64 (x.dk + 1) = x.dk + 1 := by
   show (x.dk + 1) % (2 ^ 64 : Int) = x.dk + 1
   exact Int.emod_eq_of_lt (by omega) (by omega)
  have hpm := pW (l := x.hl) (x := ⟨IntKind.wrap .u64 (x.clock + IntKind.wrap .u64 (gA x g i)), x.dk, g⟩)
  refine ⟨⟨J6 h.ok, ?_, ?_⟩, .inr ew⟩
  ·refine (List.Perm.pairwise_iff (fun hxy => fun e => hxy e.symm) hpm).2 ?_
   rw [List.pairwise_append]
   refine ⟨h.ne, List.pairwise_singleton _ _, fun a ha b hb => ?_⟩
   rw [List.mem_singleton.1 hb]
   have := (h.lt a ha).2
   show a.seq ≠ x.dk
   omega
  ·intro y hy
   show 0 ≤ y.seq ∧ y.seq < IntKind.wrap .u64 (x.dk + 1)
   rw [ew]
   rcases List.mem_append.1 (hpm.mem_iff.1 hy) with hy | hy
   ·have := h.lt y hy; omega
   ·rw [List.mem_singleton.1 hy]
    show 0 ≤ x.dk ∧ x.dk < x.dk + 1
    omega
 ·rw [if_neg hp]; exact ⟨h, .inl rfl⟩
theorem Ka : ∀ (f : Nat) (l : List aN) (now : Int), j5 l → j5 (dM f l now).1
 | 0, l, now, h => h
 | f + 1, l, now, h => by
  rw [pS]
  split
  ·exact Ka f _ now (CR h)
  ·exact h
theorem u5.tick (h : u5 x) : u5 x.tick ∧ x.tick.dk = x.dk := by
 unfold Wd.tick
 by_cases he : x.end_ ≠ 0
 ·rw [if_pos he]; exact ⟨h.same rfl rfl, rfl⟩
 ·rw [if_neg he]
  dsimp only
  have hp := wu x.hl.length x.hl (IntKind.wrap .u64 (x.clock + 1))
  have ho := Ka x.hl.length x.hl (IntKind.wrap .u64 (x.clock + 1)) h.ok
  generalize dM x.hl.length x.hl (IntKind.wrap .u64 (x.clock + 1)) = r at hp ho
  have hh : ∀ (l : List Int) (y : Wd), (l.foldl Wd.eV y).hl = y.hl ∧ (l.foldl Wd.eV y).dk = y.dk := by
   intro l
   induction l with
   | nil => intro y; exact ⟨rfl, rfl⟩
   | cons g l ih => intro y; rw [List.foldl_cons]; exact ⟨(ih _).1, (ih _).2⟩
  have h1 := hh (r.2.map (·.id)) { x with clock := IntKind.wrap .u64 (x.clock + 1), hl := r.1, ready := [] }
  have hn := (List.Perm.pairwise_iff (R := fun a b : aN => a.seq ≠ b.seq) (fun hxy => fun e => hxy e.symm) hp).1 h.ne
  rw [List.pairwise_append] at hn
  refine ⟨⟨by rw [h1.1]; exact ho, by rw [h1.1]; exact hn.2.1, ?_⟩, h1.2⟩
  rw [h1.1, h1.2]
  intro y hy
  exact h.lt y (hp.mem_iff.2 (List.mem_append_right _ hy))
end
def Wd.j6 (p : cy) (x : Wd) (g : Int) (i : bZ) (d : Int) : Wd :=
 if i.op = 9 then x.zU g i
 else if i.op = 10 then x.E3 g i
 else if i.op = 11 then x.zi g i
 else if i.op = 13 then x.E5 p g i
 else if i.op = 14 then x.E6 g i
 else if i.op = 15 then x.zT p i.a
 else if i.op = 16 then x.nB p g i d
 else if i.op = 17 then x.zf g i
 else if i.op = 18 then x.E7 g i
 else if i.op = 19 then x.tV g i
 else if i.op = 20 then x.E4 g i
 else if i.op = 21 then x.aW g i.a (d.tmod i.b)
 else if i.op = 22 then x.iJ i.a
 else x
section
variable {p : cy} {x : Wd} {g : Int} {i : bZ} {hs : List aN}
theorem zV {v : Wt} {s : Int} : (x.received p v s).hl = x.hl := by
 unfold Wd.received; dsimp only
 split <;> rfl
theorem Zd {v : Wt} : (x.sent v).hl = x.hl := by
 unfold Wd.sent
 split <;> rfl
theorem hl_put {k v : Int} : ∀ y b, x.put p k v = .on (y, b) → y.hl = x.hl := by
 intro y b h
 unfold Wd.put at h
 dsimp only at h
 split at h
 ·cases h
 ·injection h with h
  injection h with h2 h3
  rw [← h2]
  split
  ·exact zV
  ·rfl
theorem Wa {k : Int} : (x.get k).1.hl = x.hl := by
 have h : (if (aX x.av k).recv.2.2.2.2.1 = true then (x.bg k (aX x.av k).recv.1).sent (aX x.av k).recv.2.2.2.1 else x.bg k (aX x.av k).recv.1).hl = x.hl := by
  split
  ·exact Zd
  ·rfl
 unfold Wd.get; dsimp only
 split
 ·exact h
 ·exact h
theorem Kb : ∀ (l : List Wt) (x : Wd), (l.foldl (cJ p) x).hl = x.hl
 | [], x => rfl
 | v :: l, x => by
  rw [List.foldl_cons, Kb l]
  unfold cJ
  split
  ·exact zV
  ·rfl
end
end Go.Proofs
namespace Go.Proofs
open Go.AF
set_option maxRecDepth 100000
set_option maxHeartbeats 1000000
attribute [local irreducible] bG dF ff dP aF fa aE b7 aO bk bJ aM
attribute [local irreducible] zm dO
structure DeedR (p : cy) (x : Wd) (g : Int) (i : bZ) (d : Int) : Prop where
 b9 : i.op = 9 → aR i.b
 b10 : i.op = 10 → aR i.a ∧ (2 ≤ (aa x g).fs.length → aR (DV (aa x g).fs).mF)
 b11 : i.op = 11 → aR i.b ∧ aR i.c
 b13 : i.op = 13 → aR i.b ∧ 0 ≤ i.a ∧ i.a < x.av.length ∧ E1 p x i.a (aK x g i.b)
 b14 : i.op = 14 → aR i.b ∧ aR i.c ∧ 0 ≤ i.a ∧ i.a < x.av.length ∧ E2 x i.a
 b15 : i.op = 15 → 0 ≤ i.a ∧ i.a < x.av.length ∧ ((aX x.av i.a).close.2.2.2 = 0 → tT p (x.bg i.a (aX x.av i.a).close.1) (aX x.av i.a).close.2.1) ∧ (aX x.av i.a).close.2.1.length ≤ 1000000
 b16 : i.op = 16 → nt p i ∧ (∀ c ∈ aB p i, c.Ok x.av.length) ∧ aR i.c ∧ 0 ≤ d ∧ (∀ c ∈ aB p i, c.way = 1 → E1 p x c.ch (aK x g c.bH)) ∧ (∀ c ∈ aB p i, c.way = 0 → E2 x c.ch)
 b17 : i.op = 17 → aR i.a
 b18 : i.op = 18 → 0 ≤ i.a ∧ i.a < x.aC.length ∧ CM (cQ x i.a)
 b19 : i.op = 19 → 0 ≤ i.a ∧ i.a < x.aC.length ∧ CM (cQ x i.a) ∧ (∀ w ∈ (cQ x i.a).waits, 0 ≤ w ∧ w < x.gs.length)
 b20 : i.op = 20 → aR i.a
 b21 : i.op = 21 → aR i.a ∧ i.b ≠ 0
 b22 : i.op = 22 → True
section
variable {R : Mem} {L L' : List HP} {M : Mem} {K : Value → Mem → Prop} {Kp : List PanicEntry → Mem → Prop} {a : Av} {p : cy} {x : Wd} {g : Int} {i : bZ} {d : Int}
theorem Kc (h : Hp R L M) (hw : eM R a p x) (hg : aT x g) (hs : x.Sm) (hc : DeedR p x g i d)
  (k : ∀ R' a' M', R.le R' → eM R' a' p (x.j6 p g i d) → Hp R' L M' → K (gG a' p (x.j6 p g i d)) M') :
  ae Tryz.prog 113 #[gG a p x, .int .i64 g, .agg #[.int .i64 i.op, .int .i64 i.a, .int .i64 i.b, .int .i64 i.c], .int .i64 d] M K Kp := by
 unfold Wd.j6 at k
 by_cases e9 : i.op = 9
 ·have c := hc.b9 e9
  simp only [if_pos e9] at k
  exact J2 h hw hg hs e9 c k
 simp only [if_neg e9] at k
 by_cases Qk : i.op = 10
 ·have c := hc.b10 Qk
  simp only [if_pos Qk] at k
  exact G4 h hw hg hs Qk c.1 c.2 k
 simp only [if_neg Qk] at k
 by_cases e11 : i.op = 11
 ·have c := hc.b11 e11
  simp only [if_pos e11] at k
  exact Hh h hw hg hs e11 c.1 c.2 k
 simp only [if_neg e11] at k
 by_cases e13 : i.op = 13
 ·have c := hc.b13 e13
  simp only [if_pos e13] at k
  exact Hf h hw hg hs e13 c.1 c.2.1 c.2.2.1 c.2.2.2 k
 simp only [if_neg e13] at k
 by_cases e14 : i.op = 14
 ·have c := hc.b14 e14
  simp only [if_pos e14] at k
  exact Hg h hw hg hs e14 c.1 c.2.1 c.2.2.1 c.2.2.2.1 c.2.2.2.2 k
 simp only [if_neg e14] at k
 by_cases e15 : i.op = 15
 ·have c := hc.b15 e15
  simp only [if_pos e15] at k
  exact G5 h hw hg hs e15 c.1 c.2.1 c.2.2.1 c.2.2.2 k
 simp only [if_neg e15] at k
 by_cases C5 : i.op = 16
 ·have c := hc.b16 C5
  simp only [if_pos C5] at k
  exact G6 h hw hg hs C5 c.1 c.2.1 c.2.2.1 c.2.2.2.1 c.2.2.2.2.1 c.2.2.2.2.2 k
 simp only [if_neg C5] at k
 by_cases e17 : i.op = 17
 ·have c := hc.b17 e17
  simp only [if_pos e17] at k
  exact G7 h hw hg hs e17 c k
 simp only [if_neg e17] at k
 by_cases e18 : i.op = 18
 ·have c := hc.b18 e18
  simp only [if_pos e18] at k
  exact Hj h hw hg hs e18 c.1 c.2.1 c.2.2 k
 simp only [if_neg e18] at k
 by_cases e19 : i.op = 19
 ·have c := hc.b19 e19
  simp only [if_pos e19] at k
  exact Hl h hw hg hs e19 c.1 c.2.1 c.2.2.1 c.2.2.2 k
 simp only [if_neg e19] at k
 by_cases e20 : i.op = 20
 ·have c := hc.b20 e20
  simp only [if_pos e20] at k
  exact G8 h hw hg hs e20 c k
 simp only [if_neg e20] at k
 by_cases QG : i.op = 21
 ·have c := hc.b21 QG
  simp only [if_pos QG] at k
  exact G9 h hw hg hs QG c.1 c.2 k
 simp only [if_neg QG] at k
 by_cases e22 : i.op = 22
 ·have c := hc.b22 e22
  simp only [if_pos e22] at k
  exact He h hw hg hs e22  k
 simp only [if_neg e22] at k
 exact J3 h hw hg hs (by omega) k
end
end Go.Proofs
namespace Go.Proofs
open Go.AF
set_option maxRecDepth 100000
set_option maxHeartbeats 1000000
attribute [local irreducible] bG dF ff dP aF fa aE b7 aO bk bJ aM
def NV : Out Wd → Wd → Prop
 | .on y, z => z = y.doc
 | .dg n y, z => z = y.doc.iJ n
 | .fF _ _, _ => False
structure DeedC (x : Wd) (g : Int) (i : bZ) : Prop where
 ch : i.op = 13 ∨ i.op = 14 ∨ i.op = 15 → 0 ≤ i.a ∧ i.a < x.av.length
 snd : i.op = 13 → ((aX x.av i.a).send (aK x g i.b)).2.2.1 = true → At x ((aX x.av i.a).send (aK x g i.b)).2.1.g 2
 cH : i.op = 14 → (aX x.av i.a).recv.2.2.2.2.1 = true → At x (aX x.av i.a).recv.2.2.2.1.g 2
 shut : i.op = 15 → ∀ v ∈ (aX x.av i.a).close.2.1, 0 ≤ v.g ∧ v.g < x.gs.length
 lk : i.op = 19 → 0 ≤ i.a ∧ i.a < x.aC.length ∧ ∀ w ∈ (cQ x i.a).waits, 0 ≤ w
 hl : i.op = 17 → u5 x
section
variable {p : cy} {x z : Wd} {g d : Int} {i : bZ} {hs : List aN} {r : Out Wd}
theorem gh.doc (h : gh (jB x) r z) (hh : ∀ y, (r = .on y ∨ ∃ n, r = .dg n y) → y.hl = x.hl) : NV r z := by
 cases r with
 | on y =>
  have e : jB y = jB x := by unfold jB; rw [hh y (.inl rfl)]
  show z = y.abs (jB y)
  rw [e]; exact h
 | dg n y =>
  have e : jB y = jB x := by unfold jB; rw [hh y (.inr ⟨n, rfl⟩)]
  show z = (y.abs (jB y)).iJ n
  rw [e]; exact h
 | fF l y => exact h
theorem Rf : gh hs (x.call g i) ((x.abs hs).zU g i) := by
 by_cases h : (aa x g).fs.length < 16
 ·cases hc : x.call g i with
  | on y => exact (VZ h y hc).symm
  | dg n y => unfold Wd.call at hc; rw [if_neg (by omega)] at hc; cases hc
  | fF l y => unfold Wd.call at hc; rw [if_neg (by omega)] at hc; cases hc
 ·unfold Wd.call Wd.zU
  rw [cL, jc, if_pos (by omega), if_pos (by omega)]; rfl
theorem Ze : ∀ y, (x.call g i = .on y ∨ ∃ n, x.call g i = .dg n y) → y.hl = x.hl := by
 intro y h
 unfold Wd.call at h
 split at h
 ·rcases h with h | ⟨n, h⟩ <;> cases h; rfl
 ·rcases h with h | ⟨n, h⟩ <;> cases h; rfl
theorem Zf : (x.back g i).hl = x.hl := by
 unfold Wd.back
 split
 ·rfl
 ·split <;> rfl
theorem Wb : ∀ y, (x.spawn g i = .on y ∨ ∃ n, x.spawn g i = .dg n y) → y.hl = x.hl := by
 intro y h
 unfold Wd.spawn at h
 split at h
 ·rcases h with h | ⟨n, h⟩ <;> cases h; rfl
 ·rcases h with h | ⟨n, h⟩ <;> cases h; rfl
theorem Zg : ∀ y, (x.emit g i = .on y ∨ ∃ n, x.emit g i = .dg n y) → y.hl = x.hl := by
 intro y h
 unfold Wd.emit at h
 split at h
 ·rcases h with h | ⟨n, h⟩ <;> cases h; rfl
 ·rcases h with h | ⟨n, h⟩ <;> cases h; rfl
theorem Zh : (x.recv g i).hl = x.hl := by
 unfold Wd.recv
 split
 ·exact Wa
 ·exact Wa
theorem Zi : (x.lock g i).hl = x.hl := by
 unfold Wd.lock
 split <;> rfl
end
section
variable {p : cy} {x z : Wd} {g d : Int} {i : bZ} {hs : List aN} {r : Out Wd}
theorem Zj : ∀ y, (x.shut p i = .on y ∨ ∃ n, x.shut p i = .dg n y) → y.hl = x.hl := by
 intro y h
 unfold Wd.shut at h
 dsimp only at h
 split at h
 ·rcases h with h | ⟨n, h⟩ <;> cases h; rfl
 ·split at h
  ·rcases h with h | ⟨n, h⟩ <;> cases h; rfl
  ·rcases h with h | ⟨n, h⟩ <;> cases h; exact Kb _ _
theorem Rh : ∀ y, (x.unlock g i = .on y ∨ ∃ n, x.unlock g i = .dg n y) → y.hl = x.hl := by
 intro y h
 unfold Wd.unlock at h
 split at h
 ·rcases h with h | ⟨n, h⟩ <;> cases h; rfl
 ·split at h
  ·rcases h with h | ⟨n, h⟩ <;> cases h; rfl
  ·rcases h with h | ⟨n, h⟩ <;> cases h; rfl
theorem Zk (h0 : 0 ≤ i.a) (h1 : i.a < x.av.length) : ∀ y, (x.send p g i = .on y ∨ ∃ n, x.send p g i = .dg n y) → y.hl = x.hl := by
 intro y h
 unfold Wd.send at h
 cases hp : x.put p i.a (aK x g i.b) with
 | fF l w => rw [hp] at h; rcases h with h | ⟨n, h⟩ <;> cases h
 | dg m w =>
  rw [hp] at h
  rw [(J5 h0 h1 m w hp).2] at h
  rcases h with h | ⟨n, h⟩ <;> cases h
  rfl
 | on r =>
  obtain ⟨w, b⟩ := r
  have hw := hl_put w b hp
  rw [hp] at h
  cases b with
  | true => rcases h with h | ⟨n, h⟩ <;> cases h; exact hw
  | false => rcases h with h | ⟨n, h⟩ <;> cases h; exact hw
theorem Wc (h : j9 p x g i = some r) (c : DeedC x g i) : NV r (x.doc.j6 p g i d) := by
 unfold j9 at h
 have on_ : ∀ {y : Wd}, y.hl = x.hl → ∀ w, ((Out.on y : Out Wd) = .on w ∨ ∃ n, (Out.on y : Out Wd) = .dg n w) → w.hl = x.hl := by
  intro y hy w hw
  rcases hw with hw | ⟨n, hw⟩
  ·cases hw; exact hy
  ·cases hw
 by_cases e : i.op = 10
 ·rw [if_pos e] at h
  obtain ⟨hc, rfl⟩ := bO h
  unfold Wd.j6; rw [if_neg (by omega), if_pos e]
  exact gh.doc (r := .on _) (V0.symm) (on_ Zf)
 rw [if_neg e] at h; clear e
 by_cases e : i.op = 11
 ·rw [if_pos e] at h
  obtain ⟨hc, rfl⟩ := bO h
  unfold Wd.j6; rw [if_neg (by omega), if_neg (by omega), if_pos e]
  exact gh.doc Rc Wb
 rw [if_neg e] at h; clear e
 by_cases e : i.op = 13
 ·rw [if_pos e] at h
  obtain ⟨hc, rfl⟩ := bO h
  obtain ⟨c0, c1⟩ := c.ch (.inl e)
  unfold Wd.j6; rw [if_neg (by omega), if_neg (by omega), if_neg (by omega), if_pos e]
  exact gh.doc (V3 c0 c1 (c.snd e)) (Zk c0 c1)
 rw [if_neg e] at h; clear e
 by_cases e : i.op = 14
 ·rw [if_pos e] at h
  obtain ⟨hc, rfl⟩ := bO h
  obtain ⟨c0, c1⟩ := c.ch (.inr (.inl e))
  unfold Wd.j6; rw [if_neg (by omega), if_neg (by omega), if_neg (by omega), if_neg (by omega), if_pos e]
  exact gh.doc (r := .on _) (V4 c0 c1 (c.cH e)).symm (on_ Zh)
 rw [if_neg e] at h; clear e
 by_cases e : i.op = 15
 ·rw [if_pos e] at h
  obtain ⟨hc, rfl⟩ := bO h
  obtain ⟨c0, c1⟩ := c.ch (.inr (.inr e))
  unfold Wd.j6; rw [if_neg (by omega), if_neg (by omega), if_neg (by omega), if_neg (by omega), if_neg (by omega), if_pos e]
  exact gh.doc (V6 c0 c1 (c.shut e)) Zj
 rw [if_neg e] at h; clear e
 by_cases e : i.op = 20
 ·rw [if_pos e] at h
  obtain ⟨hc, rfl⟩ := bO h
  unfold Wd.j6; simp only [e]; rw [if_neg (by decide), if_neg (by decide), if_neg (by decide), if_neg (by decide), if_neg (by decide), if_neg (by decide), if_neg (by decide), if_neg (by decide), if_neg (by decide), if_neg (by decide)]
  rw [if_pos trivial]
  exact gh.doc V2 Zg
 rw [if_neg e] at h; clear e
 by_cases e : i.op = 9
 ·rw [if_pos e] at h
  obtain ⟨hc, rfl⟩ := bO h
  unfold Wd.j6; rw [if_pos e]
  exact gh.doc Rf Ze
 rw [if_neg e] at h; clear e
 by_cases e : i.op = 12
 ·rw [if_pos e] at h
  cases h
  unfold Wd.j6; simp only [e]
  rfl
 rw [if_neg e] at h; clear e
 by_cases e : i.op = 17
 ·rw [if_pos e] at h
  obtain ⟨hc, rfl⟩ := bO h
  unfold Wd.j6; rw [if_neg (by omega), if_neg (by omega), if_neg (by omega), if_neg (by omega), if_neg (by omega), if_neg (by omega), if_neg (by omega), if_pos e]
  exact (Re (c.hl e)).symm
 rw [if_neg e] at h; clear e
 by_cases e : i.op = 18
 ·rw [if_pos e] at h
  obtain ⟨hc, rfl⟩ := bO h
  unfold Wd.j6; rw [if_neg (by omega), if_neg (by omega), if_neg (by omega), if_neg (by omega), if_neg (by omega), if_neg (by omega), if_neg (by omega), if_neg (by omega), if_pos e]
  exact gh.doc (r := .on _) V5.symm (on_ Zi)
 rw [if_neg e] at h; clear e
 by_cases e : i.op = 19
 ·rw [if_pos e] at h
  obtain ⟨hc, rfl⟩ := bO h
  obtain ⟨c0, c1, c2⟩ := c.lk e
  unfold Wd.j6; rw [if_neg (by omega), if_neg (by omega), if_neg (by omega), if_neg (by omega), if_neg (by omega), if_neg (by omega), if_neg (by omega), if_neg (by omega), if_neg (by omega), if_pos e]
  exact gh.doc (NU c0 c1 c2) Rh
 rw [if_neg e] at h; clear e
 by_cases e : i.op = 22
 ·rw [if_pos e] at h
  cases h
  unfold Wd.j6; simp only [e]
  rfl
 rw [if_neg e] at h
 cases h
end
section
variable {p : cy} {x : Wd} {g v d : Int} {i : bZ} {hs : List aN}
def CaseC (p : cy) (x : Wd) (g : Int) (i : bZ) (k : Int) : Prop :=
 0 ≤ ((aB p i).getD k.toNat ⟨0, 0, 0⟩).ch ∧ ((aB p i).getD k.toNat ⟨0, 0, 0⟩).ch < x.av.length ∧
 (∀ v, ((aX x.av ((aB p i).getD k.toNat ⟨0, 0, 0⟩).ch).send v).2.2.1 = true → At (x.next g) ((aX x.av ((aB p i).getD k.toNat ⟨0, 0, 0⟩).ch).send v).2.1.g 2) ∧
 ((aX x.av ((aB p i).getD k.toNat ⟨0, 0, 0⟩).ch).recv.2.2.2.2.1 = true → At (x.next g) (aX x.av ((aB p i).getD k.toNat ⟨0, 0, 0⟩).ch).recv.2.2.2.1.g 2)
theorem NW (he : x.end_ = 0) (hv : enabled (aB p i) x.av ≠ [] → v = d.tmod (enabled (aB p i) x.av).length)
  (hc : enabled (aB p i) x.av ≠ [] → CaseC p x g i ((enabled (aB p i) x.av).getD v.toNat 0)) :
  gh hs (x.choose p g i (.num v)) (((x.next g).abs hs).nB p g i d) := by
 unfold Wd.choose Wd.nB
 have e : ((x.next g).abs hs).av = x.av := rfl
 rw [e]
 by_cases h : enabled (aB p i) x.av = []
 ·rw [if_pos h, if_pos h]
  exact CP.symm
 ·rw [if_neg h, if_neg h]
  obtain ⟨c0, c1, c2, c3⟩ := hc h
  rw [← hv h]
  exact Hq he c0 c1 c2 c3
end
def ta (x : Wd) : List aN × Int × List Lk := (x.hl, x.dk, x.aC)
section
variable {p : cy} {x y : Wd} {g d k v s : Int} {i : bZ} {w : Wt} {r : Out Wd}
theorem zW : ta (x.received p w s) = ta x := by
 unfold Wd.received; dsimp only
 split <;> rfl
theorem Zl : ta (x.sent w) = ta x := by
 unfold Wd.sent
 split <;> rfl
theorem We : match x.put p k v with
  | .on (y, _) => ta y = ta x
  | .dg _ y => ta y = ta x
  | .fF _ y => ta y = ta x := by
 unfold Wd.put
 dsimp only
 by_cases h : ((aX x.av k).send v).2.2.2 = 10
 ·rw [if_pos h]; rfl
 ·rw [if_neg h]
  show ta (if _ then _ else _) = _
  split
  ·exact zW
  ·rfl
theorem NX : ta (x.get k).1 = ta x := by
 have h : ta (if (aX x.av k).recv.2.2.2.2.1 = true then (x.bg k (aX x.av k).recv.1).sent (aX x.av k).recv.2.2.2.1 else x.bg k (aX x.av k).recv.1) = ta x := by
  split
  ·exact Zl
  ·rfl
 unfold Wd.get; dsimp only
 split
 ·exact h
 ·exact h
theorem Kd : ∀ (l : List Wt) (x : Wd), ta (l.foldl (cJ p) x) = ta x
 | [], x => rfl
 | v :: l, x => by
  rw [List.foldl_cons, Kd l]
  unfold cJ
  split
  ·exact zW
  ·rfl
theorem Zm : ta (x.send p g i).fin = ta x := by
 have h := We (p := p) (x := x) (k := i.a) (v := aK x g i.b)
 unfold Wd.send
 generalize x.put p i.a (aK x g i.b) = r at h
 match r, h with
 | .dg n y, h => exact h
 | .fF l y, h => exact h
 | .on (y, true), h => exact h
 | .on (y, false), h => exact h
theorem Zn : ta (x.recv g i) = ta x := by
 unfold Wd.recv
 split
 ·exact NX
 ·exact NX
theorem Zo : ta (x.shut p i).fin = ta x := by
 unfold Wd.shut
 dsimp only
 split
 ·rfl
 ·split
  ·rfl
  ·exact Kd _ _
theorem Zp : ta (x.back g i) = ta x := by
 unfold Wd.back
 split
 ·rfl
 ·split <;> rfl
theorem Zq (h : j9 p x g i = some r) (h17 : i.op ≠ 17) (RD : i.op ≠ 18) (h19 : i.op ≠ 19) : ta r.fin = ta x := by
 unfold j9 at h
 split at h
 ·obtain ⟨_, rfl⟩ := bO h; exact Zp
 split at h
 ·obtain ⟨_, rfl⟩ := bO h; unfold Wd.spawn; split <;> rfl
 split at h
 ·obtain ⟨_, rfl⟩ := bO h; exact Zm
 split at h
 ·obtain ⟨_, rfl⟩ := bO h; exact Zn
 split at h
 ·obtain ⟨_, rfl⟩ := bO h; exact Zo
 split at h
 ·obtain ⟨_, rfl⟩ := bO h; unfold Wd.emit; split <;> rfl
 split at h
 ·obtain ⟨_, rfl⟩ := bO h; unfold Wd.call; split <;> rfl
 split at h
 ·cases h; rfl
 split at h
 ·cases h; rfl
 ·cases h
theorem Fb {d : iZ} : ta (x.choose p g i d).fin = ta x := by
 unfold Wd.choose
 split
 ·unfold Wd.kF; dsimp only
  split <;> rfl
 ·cases d with
  | fF l => rfl
  | num v =>
   show ta (x.kX p g i _).fin = _
   generalize (enabled (aB p i) x.av).getD v.toNat 0 = k
   unfold Wd.kX
   dsimp only
   split
   ·rename_i hw
    generalize (aB p i).getD k.toNat ⟨0, 0, 0⟩ = c
    have h := We (p := p) (x := x.next g) (k := c.ch) (v := aK (x.next g) g c.bH)
    generalize (x.next g).put p c.ch (aK (x.next g) g c.bH) = r at h
    match r, h with
    | .dg n y, h => exact h
    | .fF l y, h => exact h
    | .on (y, _), h => exact h
   ·exact NX (x := x.next g)
theorem Zr {d : iZ} : ta (x.rand g i d).fin = ta x := by
 cases d <;> rfl
structure qj (p : cy) (N : Nat) (x : Wd) : Prop where
 wv : WV p x
 hl : u5 x
 hs : 0 ≤ x.dk ∧ x.dk ≤ N
 lk : ∀ l ∈ x.aC, l.owner = -1 → l.waits = []
theorem qj.same {N : Nat} (h : qj p N x) (hw : WV p y) (e : ta y = ta x) : qj p (N + 1) y := by
 unfold ta at e
 simp only [Prod.mk.injEq] at e
 obtain ⟨e1, e2, e3⟩ := e
 exact ⟨hw, h.hl.same e1 e2, by rw [e2]; have := h.hs; omega, by rw [e3]; exact h.lk⟩
theorem qj.mono {N N' : Nat} (h : qj p N x) (hn : N ≤ N') : qj p N' x := ⟨h.wv, h.hl, by have := h.hs; omega, h.lk⟩
theorem qj.ready {N : Nat} (h : qj p N x) {r : List Int} : qj p N { x with ready := r } := ⟨h.wv.ready, h.hl.same rfl rfl, h.hs, h.lk⟩
theorem qj.new (hp : eJ p) : qj p 0 (Wd.new p) := ⟨wv_new hp, u5.new rfl, by show (0 : Int) ≤ 0 ∧ (0 : Int) ≤ 0; decide, fun l hl _ => by
 have := List.eq_of_mem_replicate hl
 rw [this]⟩
theorem qj.tick {N : Nat} (h : qj p N x) : qj p N x.tick := by
 obtain ⟨t1, t2⟩ := h.hl.tick
 refine ⟨(OX h.wv).2.1, t1, by rw [t2]; exact h.hs, ?_⟩
 have hh : ∀ (l : List Int) (y : Wd), (l.foldl Wd.eV y).aC = y.aC := by
  intro l
  induction l with
  | nil => intro y; rfl
  | cons g l ih => intro y; rw [List.foldl_cons, ih]; rfl
 have e : x.tick.aC = x.aC := by
  unfold Wd.tick
  split
  ·rfl
  ·dsimp only; rw [hh]
 rw [e]; exact h.lk
theorem xS (h0 : 0 ≤ k) (h1 : k < x.aC.length) : cQ x k ∈ x.aC := List.mem_of_getElem? (CL h0 h1)
theorem Zs {l : Lk} (h : l.owner = -1 → l.waits = []) (hg : 0 ≤ g) : (l.take g).1.owner = -1 → (l.take g).1.waits = [] := by
 unfold Lk.take
 split
 ·intro e
  have e2 : g = -1 := e
  omega
 ·rename_i hn; intro e; exact absurd e hn
theorem Zt {l : Lk} (h : l.owner = -1 → l.waits = []) (hg : ∀ q ∈ l.waits, 0 ≤ q) : (l.gU g).1.owner = -1 → (l.gU g).1.waits = [] := by
 unfold Lk.gU
 split
 ·exact h
 ·cases hw : l.waits with
  | nil => intro _; rfl
  | cons a t =>
   intro e
   have e2 : a = -1 := e
   have := hg a (by rw [hw]; simp)
   omega
theorem O3 {k : Int} {c : Lk} (h : ∀ l ∈ x.aC, l.owner = -1 → l.waits = []) (hc : c.owner = -1 → c.waits = []) : ∀ l ∈ (x.da k c).aC, l.owner = -1 → l.waits = [] := by
 intro l hl
 rcases List.mem_or_eq_of_mem_set hl with hl | hl
 ·exact h l hl
 ·rw [hl]; exact hc
theorem qj.j9 {N : Nat} (h : qj p N x) (hg : At x g 1) (hN : N < 1000000000) (hd : j9 p x g i = some r) (hw : WV p r.fin) : qj p (N + 1) r.fin := by
 by_cases h17 : i.op = 17
 ·unfold Go.Proofs.j9 at hd
  simp only [h17] at hd
  repeat rw [if_neg (by decide)] at hd
  rw [if_pos (by decide)] at hd
  obtain ⟨_, rfl⟩ := bO hd
  have hs := h.hs
  obtain ⟨a, b⟩ := h.hl.sleep (g := g) (i := i) h.hs.1 (by omega)
  refine ⟨hw, a, by show 0 ≤ (x.sleep g i).dk ∧ (x.sleep g i).dk ≤ _; rcases b with b | b <;> rw [b] <;> omega, ?_⟩
  show ∀ l ∈ (x.sleep g i).aC, _
  have e : (x.sleep g i).aC = x.aC := by unfold Wd.sleep; split <;> rfl
  rw [e]; exact h.lk
 by_cases RD : i.op = 18
 ·unfold Go.Proofs.j9 at hd
  simp only [RD] at hd
  repeat rw [if_neg (by decide)] at hd
  rw [if_pos (by decide)] at hd
  obtain ⟨hc, rfl⟩ := bO hd
  have hl := Zs (g := g) (h.lk _ (xS hc.2.1.1 hc.2.1.2)) hg.1
  have e : ((x.lock g i).hl = x.hl ∧ (x.lock g i).dk = x.dk) ∧ (x.lock g i).aC = (x.da i.a ((cQ x i.a).take g).1).aC := by
   unfold Wd.lock; split <;> exact ⟨⟨rfl, rfl⟩, rfl⟩
  refine ⟨hw, h.hl.same e.1.1 e.1.2, by show 0 ≤ (x.lock g i).dk ∧ (x.lock g i).dk ≤ _; rw [e.1.2]; have := h.hs; omega, ?_⟩
  show ∀ l ∈ (x.lock g i).aC, _
  rw [e.2]
  exact O3 h.lk hl
 by_cases h19 : i.op = 19
 ·unfold Go.Proofs.j9 at hd
  simp only [h19] at hd
  repeat rw [if_neg (by decide)] at hd
  rw [if_pos (by decide)] at hd
  obtain ⟨hc, rfl⟩ := bO hd
  have hm := xS hc.1.1.1 hc.1.1.2
  have hl := Zt (g := g) (h.lk _ hm) (fun q hq => (h.wv.lw _ hm q hq).1.1)
  have e : ((x.unlock g i).fin.hl = x.hl ∧ (x.unlock g i).fin.dk = x.dk) ∧ (x.unlock g i).fin.aC = (x.da i.a ((cQ x i.a).gU g).1).aC := by
   unfold Wd.unlock; split
   ·exact ⟨⟨rfl, rfl⟩, rfl⟩
   ·split <;> exact ⟨⟨rfl, rfl⟩, rfl⟩
  exact ⟨hw, h.hl.same e.1.1 e.1.2, by rw [e.1.2]; have := h.hs; omega, by rw [e.2]; exact O3 h.lk hl⟩
 exact h.same hw (Zq hd h17 RD h19)
theorem gQ.wv (h : gQ p g x r) : WV p r.fin := by
 cases r with
 | on y => exact h.1
 | dg n y => exact h.1.fin
 | fF l y => exact h.elim
theorem qj.exec {N : Nat} {rest : Bool} {d : iZ} (h : qj p N x) (hp : eJ p) (hN : N < 1000000000) (he : lK p x g d = some (r, rest)) (hw : WV p r.fin) : qj p (N + 1) r.fin := by
 have h := h.ready (r := [])
 unfold lK at he
 dsimp only at he
 generalize hx : ({ x with ready := [] } : Wd) = x' at h he
 split at he
 ·rename_i oX
  have hg : At x' g 1 := ⟨oX.1, oX.2.1, oX.2.2.2⟩
  split at he
  ·split at he
   ·cases he
   ·rename_i code fC
    split at he
    ·cases he; exact h.same hw rfl
    ·rename_i i gL
     have hz := (h.wv.ij hg.1 hg.2.1).top
     obtain ⟨c1, c2, c3⟩ := hp.code code (List.mem_of_getElem? fC)
     have ZA := (List.getElem?_eq_some_iff.1 gL).1
     have sS : (aa x' g).top.pc + 1 ≤ 64 := by have := hz.2.2.1; omega
     split at he
     ·obtain ⟨_, e⟩ := bO he; cases e; exact h.same hw rfl
     ·split at he
      ·split at he
       ·split at he
        ·cases he; exact h.same hw Fb
        ·cases he
       ·cases he
      ·split at he
       ·split at he
        ·split at he
         ·cases he; exact h.same hw Zr
         ·cases he
        ·cases he
       ·split at he
        ·cases he
        ·rename_i r' HL
         obtain ⟨_, e⟩ := bO he
         cases e
         obtain ⟨n1, n2, n3, n4, n5⟩ := h.wv.next hg sS
         exact qj.j9 (x := x'.next g) ⟨n1, h.hl.same rfl rfl, h.hs, h.lk⟩ n2 hN HL hw
  ·cases he
 ·cases he; exact h.mono (by omega)
end
def vl (p : cy) (z0 : Wd) (g d : Int) : Wd :=
 let z := { z0 with ready := [] }
 if iI z g then
  match kq p z g with
  | none => z.iJ (-7)
  | some i => if i.op ≤ 8 then z.bp g ((aa z g).bW ((aa z g).top.next.pure i)) else (z.next g).j6 p g i d
 else z
section
variable {p : cy} {x y : Wd} {g d k v s : Int} {i : bZ} {w : Wt} {r : Out Wd} {f : List bZ} {N : Nat}
theorem Zu {c : aQ} {v : Int} (h : (c.send v).2.2.1 = true) : ∃ w ∈ c.cH, ((c.send v).2.1).g = w.g ∧ ((c.send v).2.1).cs = w.cs := by
 unfold aQ.send at h ⊢
 split at h
 ·cases h
 ·cases hr : c.cH with
  | nil => rw [hr] at h; dsimp only at h; split at h <;> cases h
  | cons a l => rename_i hc; rw [if_neg hc]; exact ⟨a, by simp, rfl, rfl⟩
theorem Zv {c : aQ} (h : c.recv.2.2.2.2.1 = true) : ∃ w ∈ c.snd, c.recv.2.2.2.1.g = w.g := by
 unfold aQ.recv at h ⊢
 cases iA : c.all with
 | nil => rw [iA] at h; cases h
 | cons v l =>
  rw [iA] at h
  cases hs : c.snd with
  | nil => rw [hs] at h; cases h
  | cons w t => exact ⟨w, by simp, rfl⟩
theorem WV.Wf (h : WV p x) (k0 : 0 ≤ k) (k1 : k < x.av.length) {v : Int} (e : ((aX x.av k).send v).2.2.1 = true) : At x ((aX x.av k).send v).2.1.g 2 := by
 obtain ⟨w, hw, e1, _⟩ := Zu e
 rw [e1]
 exact (h.cH _ (List.mem_of_getElem? (iu k0 k1)) w hw).1
theorem WV.Wg (h : WV p x) (k0 : 0 ≤ k) (k1 : k < x.av.length) (e : (aX x.av k).recv.2.2.2.2.1 = true) : At x (aX x.av k).recv.2.2.2.1.g 2 := by
 obtain ⟨w, hw, e1⟩ := Zv e
 rw [e1]
 exact (h.snd _ (List.mem_of_getElem? (iu k0 k1)) w hw).1
theorem WV.Wh (h : WV p x) (k0 : 0 ≤ k) (k1 : k < x.av.length) : ∀ v ∈ (aX x.av k).close.2.1, 0 ≤ v.g ∧ v.g < x.gs.length := by
 intro v hv
 have hm : v ∈ (aX x.av k).cH := by
  unfold aQ.close at hv
  split at hv
  ·cases hv
  ·exact hv
 have := (h.cH _ (List.mem_of_getElem? (iu k0 k1)) v hm).1
 exact ⟨this.1, this.2.1⟩
theorem qj.deedC (h : qj p N x) (hi : jY p f i) : DeedC x g i := by
 obtain ⟨_, _, _, _, _, _, _, i13, _, _, _, i18, _⟩ := hi
 have hk : i.op = 13 ∨ i.op = 14 ∨ i.op = 15 → 0 ≤ i.a ∧ i.a < x.av.length := fun e => by rw [h.wv.ch]; exact i13 e
 refine ⟨hk, fun e => h.wv.Wf (hk (.inl e)).1 (hk (.inl e)).2, fun e => h.wv.Wg (hk (.inr (.inl e))).1 (hk (.inr (.inl e))).2, fun e => h.wv.Wh (hk (.inr (.inr e))).1 (hk (.inr (.inr e))).2, fun e => ?_, fun _ => h.hl⟩
 obtain ⟨a, b⟩ := i18 (.inr e)
 have hl := h.wv.lk
 have b' : i.a < x.aC.length := by omega
 exact ⟨a, b', fun w hw => (h.wv.lw _ (xS a b') w hw).1.1⟩
theorem Fc : kq p x.doc g = kq p x g := by
 unfold kq Wd.doc
 rw [cL, mN]
theorem ua : iI x.doc g ↔ iI x g := by
 unfold iI Wd.doc
 rw [cL, kN, tX]
 exact Iff.rfl
theorem Fe {l : List Int} : ({ x with ready := l } : Wd).doc = { x.doc with ready := l } := rfl
theorem CS : (x.next g).doc = x.doc.next g := VX
theorem Wi {rest : Bool} (h : qj p N x) (hp : eJ p) (he : lK p x g (.num v) = some (r, rest))
  (hv : ∀ kd n, asks p { x with ready := [] } g = some (kd, n) → v = d.tmod n ∧ 0 ≤ v ∧ v < n) : NV r (vl p x.doc g d) := by
 have h := h.ready (r := [])
 unfold lK at he
 unfold vl
 dsimp only at he ⊢
 rw [← Fe]
 generalize hx : ({ x with ready := [] } : Wd) = x' at h he hv ⊢
 by_cases oX : iI x' g
 ·rw [if_pos oX] at he
  rw [if_pos (ua.2 oX), Fc]
  have hg : At x' g 1 := ⟨oX.1, oX.2.1, oX.2.2.2⟩
  have pT := hv
  unfold asks at pT
  rw [if_pos oX] at pT
  split at he
  ·rename_i zO
   cases fC : p.funcs[(aa x' g).top.fn.toNat]? with
   | none => rw [fC] at he; cases he
   | some code =>
    rw [fC] at he
    dsimp only at he
    have hin : kq p x' g = code[(aa x' g).top.pc.toNat]? := by unfold kq; rw [fC]
    rw [hin] at pT ⊢
    cases gL : code[(aa x' g).top.pc.toNat]? with
    | none => rw [gL] at he; dsimp only at he; cases he; exact rfl
    | some i =>
     rw [gL] at he pT
     dsimp only at he pT ⊢
     have hi : jY p code i := (hp.code code (List.mem_of_getElem? fC)).2.2 i (List.mem_of_getElem? gL)
     have hz := (h.wv.ij hg.1 hg.2.1).top
     have ZA := (List.getElem?_eq_some_iff.1 gL).1
     have sS : (aa x' g).top.pc + 1 ≤ 64 := by have := hz.2.2.1; have := (hp.code code (List.mem_of_getElem? fC)).2.1; omega
     obtain ⟨n1, n2, n3, n4, n5⟩ := h.wv.next hg sS
     by_cases h8 : i.op ≤ 8
     ·rw [if_pos h8]
      rw [if_pos ⟨hi.1, h8⟩] at he
      obtain ⟨_, e⟩ := bO he; cases e
      show _ = Wd.doc _
      unfold Wd.doc
      rw [cL, mN]
      show _ = (x'.bp g _).abs (jB x')
      rw [kZ, sZ]
     ·rw [if_neg h8, ← CS]
      rw [if_neg (by omega)] at he
      by_cases mh : i.op = 16
      ·rw [if_pos mh] at he
       rw [if_neg (by omega), if_pos mh] at pT
       split at he
       ·split at he
        ·cases he
         unfold Wd.j6
         simp only [mh]
         repeat rw [if_neg (by decide)]
         rw [if_pos trivial]
         have hen : (x'.next g).av = x'.av := rfl
         have hne : enabled (aB p i) x'.av ≠ [] → v = d.tmod (enabled (aB p i) x'.av).length ∧ 0 ≤ v ∧ v < (enabled (aB p i) x'.av).length := fun hne => by
          rw [if_neg hne] at pT
          exact pT _ _ rfl
         refine gh.doc (x := x'.next g) (NW oX.2.2.1 (fun hne' => (hne hne').1) fun hne' => ?_) ?_
         ·obtain ⟨_, v0, v1⟩ := hne hne'
          have hk : (enabled (aB p i) x'.av).getD v.toNat 0 ∈ enabled (aB p i) x'.av := by
           rw [List.getD_eq_getElem?_getD, List.getElem?_eq_getElem (by omega), Option.getD_some]
           exact List.getElem_mem _
          generalize (enabled (aB p i) x'.av).getD v.toNat 0 = k at hk
          obtain ⟨j, c, rfl, hj, wQ, hcan⟩ := zQ hk
          have hm : c ∈ aB p i := List.mem_of_getElem? wQ
          have ec : (aB p i).getD (j : Int).toNat ⟨0, 0, 0⟩ = c := by rw [Int.toNat_natCast, List.getD_eq_getElem?_getD, wQ]; rfl
          have hok := (hp.cas c (oS hm)).1
          have VK : c.way = 0 ∨ c.way = 1 := by
           unfold can at hcan
           split at hcan
           ·rename_i e; exact .inl e
           ·split at hcan
            ·rename_i e; exact .inr e
            ·cases hcan
          obtain ⟨k0, k1, _⟩ := hok.2.2 (by rcases VK with e | e <;> rw [e] <;> decide)
          unfold CaseC
          rw [ec]
          have k1' : c.ch < x'.av.length := by rw [h.wv.ch]; exact k1
          exact ⟨k0, k1', fun v e => n1.Wf (x := x'.next g) k0 k1' e, fun e => n1.Wg (x := x'.next g) k0 k1' e⟩
         ·intro y hy
          have hk := Fb (p := p) (x := x') (g := g) (i := i) (d := .num v)
          rcases hy with hy | ⟨n, hy⟩
          ·rw [hy] at hk; exact congrArg (fun q => q.1) hk
          ·rw [hy] at hk; exact congrArg (fun q => q.1) hk
        ·cases he
       ·cases he
      ·rw [if_neg mh] at he
       by_cases RB : i.op = 21
       ·rw [if_pos RB] at he
        rw [if_pos RB] at pT
        split at he
        ·split at he
         ·cases he
          unfold Wd.j6
          simp only [RB]
          repeat rw [if_neg (by decide)]
          rw [if_pos trivial]
          rw [← (pT _ _ rfl).1]
          exact (eK (x := x'.next g)).symm
         ·cases he
        ·cases he
       ·rw [if_neg RB] at he
        cases hd : j9 p (x'.next g) g i with
        | none => rw [hd] at he; cases he
        | some r' =>
         rw [hd] at he
         dsimp only at he
         obtain ⟨_, e⟩ := bO he
         cases e
         exact Wc hd (qj.deedC (x := x'.next g) (N := N) ⟨n1, h.hl.same rfl rfl, h.hs, h.lk⟩ hi)
  ·cases he
 ·rw [if_neg oX] at he
  rw [if_neg (fun e => oX (ua.1 e))]
  cases he; rfl
end
section
variable {p : cy} {x y : Wd} {g d k v s : Int} {i : bZ} {f : List bZ} {N : Nat} {hs : List aN}
theorem td : aa x.doc g = jr (aa x g) := cL
theorem nC : x.doc.gs.length = x.gs.length := tX
theorem At.doc (h : At x g s) : At x.doc g s := ⟨h.1, by rw [nC]; exact h.2.1, by rw [td, kN]; exact h.2.2⟩
theorem CT (h : WV p x) (ho : u5 x) : WV p x.doc := by
 have hp := (mP x.hl.length x.hl (Nat.le_refl _) ho.ok).1
 refine ⟨by rw [nC]; exact h.n1, by rw [nC]; exact h.n2, fun y hy => ?_, h.ch, h.lk, h.buf, fun c hc v hv => ?_, fun c hc v hv => ?_, fun l hl q hq => ?_, fun y hy => (h.hl y (hp.mem_iff.1 hy)).doc, fun q q0 mh => ?_, h.EG, fun q => ?_, h.out⟩
 ·obtain ⟨z, hz, rfl⟩ := List.mem_map.1 hy
  obtain ⟨a, b, c, e, f⟩ := h.HC z hz
  refine ⟨by rw [jc]; exact a, by rw [jc]; exact b, by rw [jc]; exact c, fun h2 => ?_, by rw [kN]; exact f⟩
  rw [kN] at h2
  rw [pZ h2]; exact e h2
 ·obtain ⟨a, b⟩ := h.cH c hc v hv
  exact ⟨a.doc, by rw [td, pZ a.2.2]; exact b⟩
 ·obtain ⟨a, b⟩ := h.snd c hc v hv
  exact ⟨a.doc, by rw [td, pZ a.2.2]; exact b⟩
 ·obtain ⟨a, b⟩ := h.lw l hl q hq
  exact ⟨a.doc, by rw [td, pZ a.2.2]; exact b⟩
 ·by_cases h2 : (aa x q).st = 2
  ·rw [td, pZ h2] at mh
   exact h.one q q0 mh
  ·have a : cD x.doc.av q = 0 := sW.2 fun c hc hg => h2 (h.VB hc hg).1.2.2
   have b : ig x.doc.aC q = 0 := xN.2 fun l hl hg => h2 (h.lw l hl q hg).1.2.2
   omega
 ·have := h.h1 q
  unfold DR at this ⊢
  exact Nat.le_trans (Nat.le_of_eq ((hp.map aN.id).count_eq q)) this
theorem Ke {c : aQ} (h : x.Sm) (hc : c.Small 1000000) : (x.bg k c).Sm := by
 refine ⟨fun e he => ?_, by simpa [Wd.bg] using h.2.1, h.2.2⟩
 rcases List.mem_or_eq_of_mem_set he with he | he
 ·exact h.1 e he
 ·rw [he]; exact hc
theorem WV.mI (h : WV p x) (hp : eJ p) (hs : x.Sm) (hk : nP x k) : E1 p x k v := by
 obtain ⟨_, a, b⟩ := (h.put (n := v) hp hk).1
 exact ⟨Ke hs b, a⟩
theorem WV.qh (h : WV p x) (hp : eJ p) (hs : x.Sm) (hk : nP x k) : E2 x k := by
 obtain ⟨_, a, b⟩ := (h.get hp hk).1
 exact ⟨Ke hs b, a⟩
theorem Kf (hl : hs.length ≤ 1000000) : ∀ (l : List Wt) (x : Wd), sR p x l → tT p (x.abs hs) l
 | [], x, _ => trivial
 | v :: l, x, h => by
  obtain ⟨a, b, c, e, f⟩ := h
  have es := zl (p := p) (hs := hs) [v] x (fun w hw => by rw [List.mem_singleton.1 hw]; exact ⟨b, c⟩)
  refine ⟨⟨a.1, a.2.1, by rw [tX]; exact a.2.2.1, a.2.2.2.1, a.2.2.2.2.1, a.2.2.2.2.2.1, a.2.2.2.2.2.2.1, hl⟩, b, by rw [tX]; exact c, fun h2 => ?_, ?_⟩
  ·rw [cL, kN] at h2
   have hr := e h2
   unfold lI aT at hr ⊢
   dsimp only at hr ⊢
   rw [cL, pZ h2, tX]
   exact hr
  ·have es2 : (cJ p x v).abs hs = dy p (x.abs hs) v := es
   rw [← es2]
   exact Kf hl l _ f
theorem WV.Zw (h : WV p x) (hp : eJ p) (hr : x.ready = []) (hk : nP x k) : (aX x.av k).close.2.2.2 = 0 → sR p (x.bg k (aX x.av k).close.1) (aX x.av k).close.2.1 := by
 obtain ⟨c, hc, ec⟩ := EM hk
 have hm := List.mem_of_getElem? hc
 obtain ⟨s1, s2, s3⟩ := oR h hm
 have hb := h.buf c hm
 have hrc := h.cH c hm
 rw [ec]
 obtain ⟨room, buf, snd, cH, closed⟩ := c
 cases closed with
 | true => intro e; simp [aQ.close] at e
 | false =>
  intro _
  have GQ : WV p (x.bg k ⟨room, buf, [], [], true⟩) := h.less hc hb (fun v hv => by cases hv) (fun v hv => by cases hv) (fun q => by simp [cX])
  simp only [aQ.close, Bool.false_eq_true, if_false]
  exact (tP hp cH (x.bg k ⟨room, buf, [], [], true⟩) GQ (by show x.ready.length + cH.length ≤ 1000000; rw [hr]; dsimp only [List.length_nil] at *; omega) (fun v hv => by
   obtain ⟨a, b⟩ := hrc v hv
   refine ⟨a.1, a.2.1, fun _ => ?_⟩
   rcases b with b | b
   ·refine .inl ⟨b, AR h hc a.1 a.2.2 (by rw [b]; decide) ?_⟩
    have : 0 < List.count v.g (cX ⟨room, buf, snd, cH, false⟩) := List.count_pos_iff.2 (List.mem_append_right _ (List.mem_map.2 ⟨v, hv, rfl⟩))
    show List.count v.g (cX ⟨room, buf, [], [], true⟩) + 1 ≤ _
    simp only [cX, List.map_nil, List.append_nil, List.count_nil] at *
    omega
   ·exact .inr b)).1
theorem Ri {c : aQ} : c.close.2.1.length ≤ c.cH.length := by
 unfold aQ.close
 split <;> simp
theorem qj.deedR (h : qj p N x) (hp : eJ p) (hg : At x g 1) (hi : jY p f i) (hd : 0 ≤ d) (hr : x.ready = []) : DeedR p x.doc g i d := by
 have hw := CT h.wv h.hl
 have hs := hw.sm hp (by show x.ready.length ≤ _; rw [hr]; decide)
 obtain ⟨_, _, _, _, _, i9, i10, i13, JL, i14, i16, i18, i21⟩ := hi
 have hk : i.op = 13 ∨ i.op = 14 ∨ i.op = 15 → nP x.doc i.a := fun e => by
  obtain ⟨a, b⟩ := i13 e
  exact ⟨a, by rw [hw.ch]; exact b⟩
 have hco : ∀ c ∈ aB p i, c.way = 0 ∨ c.way = 1 → nP x.doc c.ch := fun c hc e => by
  obtain ⟨k0, k1, _⟩ := (hp.cas c (oS hc)).1.2.2 (by rcases e with e | e <;> rw [e] <;> decide)
  exact ⟨k0, by rw [hw.ch]; exact k1⟩
 have hlk : i.op = 18 ∨ i.op = 19 → 0 ≤ i.a ∧ i.a < x.doc.aC.length := fun e => by
  obtain ⟨a, b⟩ := i18 e
  have := hw.lk
  exact ⟨a, by omega⟩
 have hgd : i.op = 18 ∨ i.op = 19 → CM (cQ x.doc i.a) ∧ (∀ w ∈ (cQ x.doc i.a).waits, 0 ≤ w ∧ w < x.doc.gs.length) := fun e => by
  obtain ⟨a, b⟩ := hlk e
  have hm := xS a b
  have hl := fun w Rl => (hw.lw _ hm w Rl).1
  exact ⟨⟨h.lk _ hm, fun w Rl => by have := (hl w Rl).1; omega, by have := hw.GV hm; omega⟩, fun w Rl => ⟨(hl w Rl).1, (hl w Rl).2.1⟩⟩
 refine ⟨fun e => (i9 (.inl e)).2.2.1, fun e => ⟨i10 (.inl e), fun _ => ?_⟩, fun e => ⟨(i9 (.inr e)).2.2.1, (i9 (.inr e)).2.2.2⟩, fun e => ⟨JL (.inl e), (hk (.inl e)).1, (hk (.inl e)).2, hw.mI hp hs (hk (.inl e))⟩,
  fun e => ⟨JL (.inr e), i14 (.inl e), (hk (.inr (.inl e))).1, (hk (.inr (.inl e))).2, hw.qh hp hs (hk (.inr (.inl e)))⟩, fun e => ?_, fun e => ?_, fun e => i10 (.inr (.inl e)), fun e => ⟨(hlk (.inl e)).1, (hlk (.inl e)).2, (hgd (.inl e)).1⟩, fun e => ⟨(hlk (.inr e)).1, (hlk (.inr e)).2, hgd (.inr e)⟩, fun e => i10 (.inr (.inr (.inl e))), fun e => ⟨i10 (.inr (.inr (.inr e))), by have := i21 e; omega⟩, fun _ => trivial⟩
 ·have hz := (hw.ij hg.1 (by rw [nC]; exact hg.2.1)).top
  exact hz.2.2.2.2
 ·have hk' := hk (.inr (.inr e))
  have hk2 : nP x i.a := hk'
  refine ⟨hk'.1, hk'.2, fun e0 => ?_, ?_⟩
  ·exact Kf (hs := jB x) hs.2.2.2.2.2.2.2 _ _ (h.wv.Zw hp hr hk2 e0)
  ·have := (hs.1 _ (List.mem_of_getElem? (iu hk'.1 hk'.2))).2.2
   have := Ri (c := aX x.doc.av i.a)
   omega
 ·obtain ⟨a0, b1, ab⟩ := i16 e
  have hcs := hp.cs
  exact ⟨⟨a0, by omega, ab, by omega⟩, fun c hc => by rw [hw.ch]; exact (hp.cas c (oS hc)).1, i14 (.inr e), hd, fun c hc e1 => hw.mI hp hs (hco c hc (.inr e1)), fun c hc e1 => hw.qh hp hs (hco c hc (.inl e1))⟩
end
section
variable {R : Mem} {L L' : List HP} {M : Mem} {K : Value → Mem → Prop} {Kp : List PanicEntry → Mem → Prop} {a : Av} {p : cy} {x : Wd} {g : Int} {i : bZ} {d : Int} {N : Nat}
theorem NY (h : Hp R L M) (hx : qj p N x) (hp : eJ p) (hw : eM R a p x.doc) (hd : 0 ≤ d) (hr : x.ready.length ≤ 1000000)
  (zg : iI { x with ready := [] } g → g < (vl p x.doc g d).gs.length)
  (k : ∀ R' a' b M', R.le R' → eM R' a' p (vl p x.doc g d) → Hp R' L M' → K (.tuple #[gG a' p (vl p x.doc g d), .bool b]) M') :
  ae Tryz.prog 78 #[gG a p x.doc, .int .i64 g, .int .i64 d] M K Kp := by
 have hv := CT hx.wv hx.hl
 have hs := hv.sm hp hr
 unfold vl at k zg
 dsimp only at k zg
 by_cases oX : iI { x.doc with ready := [] } g
 ·rw [if_pos oX] at k zg
  have Zx : iI { x with ready := [] } g := ua.1 oX
  have zg := zg Zx
  have hg : At x g 1 := ⟨Zx.1, Zx.2.1, Zx.2.2.2⟩
  have hgd := hg.doc
  have zO := hv.aT hgd.1 hgd.2.1
  have hz := (hv.ij hgd.1 hgd.2.1).top
  obtain ⟨t1, t2, t3, t4, t5⟩ := hz
  have he : x.doc.end_ = 0 := oX.2.2.1
  obtain ⟨code, fC⟩ := aJ (l := p.funcs) (i := (aa x.doc g).top.fn.toNat) (by omega)
  have hin : kq p { x.doc with ready := [] } g = code[(aa x.doc g).top.pc.toNat]? := by
   show (match p.funcs[(aa x.doc g).top.fn.toNat]? with | none => none | some code => code[(aa x.doc g).top.pc.toNat]?) = _
   rw [fC]
  rw [hin] at k zg
  obtain ⟨c1, c2, c3⟩ := hp.code code (List.mem_of_getElem? fC)
  cases gL : code[(aa x.doc g).top.pc.toNat]? with
  | none =>
   rw [gL] at k
   exact CN h hw zO hs he hgd.2.2 t1 fC (by have := List.getElem?_eq_none_iff.1 gL; omega) (fun R' a' M' => k R' a' _ M')
  | some i =>
   rw [gL] at k zg
   dsimp only at k zg
   have hi := c3 i (List.mem_of_getElem? gL)
   have ZA := (List.getElem?_eq_some_iff.1 gL).1
   by_cases h8 : i.op ≤ 8
   ·rw [if_pos h8] at k
    exact Aw h hw zO hs he hgd.2.2 t1 fC t3 gL hi.2.2.1 hi.1 ⟨t3, by omega⟩ h8 (fun R' a' M' => k R' a' _ M')
   ·rw [if_neg h8] at k zg
    have hx0 := hx.ready (r := [])
    have sS : (aa { x with ready := [] } g).top.pc + 1 ≤ 64 := by
     have : (aa x.doc g).top = (aa x g).top := by rw [td, mN]
     show (aa x g).top.pc + 1 ≤ 64
     rw [← this]; omega
    obtain ⟨n1, n2, n3, n4, n5⟩ := hx0.wv.next hg sS
    have AO : qj p N (Wd.next { x with ready := [] } g) := ⟨n1, hx.hl.same rfl rfl, hx.hs, hx.lk⟩
    have hD := AO.deedR (d := d) hp n2 hi hd rfl
    have hv1 := CT n1 AO.hl
    rw [CS] at hD hv1
    refine Ax h hw zO hs he hgd.2.2 t1 fC t3 gL hi.2.2.1 hi.1 ⟨t3, by omega⟩ (by omega) zg (fun R1 a1 L1 M1 K1 h1 mT k1 => ?_) (fun R' a' M' => k R' a' _ M')
    exact Kc h1 mT (hv1.aT hg.1 (by have e := n3; rw [← CS, nC, e]; exact hg.2.1)) (hv1.sm hp (by show (0 : Nat) ≤ _; omega)) hD k1
 ·rw [if_neg oX] at k
  refine DW h hw hs ?_ (fun R' a' M' => k R' a' _ M')
  unfold iI at oX
  by_cases a : g < 0
  ·exact .inl a
  by_cases b : (x.doc.gs.length : Int) ≤ g
  ·exact .inr (.inl b)
  by_cases c : x.doc.end_ ≠ 0
  ·exact .inr (.inr (.inl c))
  refine .inr (.inr (.inr fun e => oX ⟨by omega, by show g < (x.doc.gs.length : Int); omega, by simpa using c, e⟩))
end
end Go.Proofs
namespace Go.Proofs
open Go.AF
set_option maxRecDepth 100000
set_option maxHeartbeats 1000000
attribute [local irreducible] bG dF ff dP aF fa aE b7 aO bk bJ aM
attribute [local irreducible] zm dO
section
variable {R : Mem} {L L' : List HP} {M : Mem} {K : Value → Mem → Prop} {Kp : List PanicEntry → Mem → Prop} {a : Av} {pa : PA} {p : cy} {x z : Wd} {b N : Nat}
theorem NZ {A B : Option Addr} {ca cb m n : Nat} {l : List eH} (h : Hp R L M) (hA : Src R L A (fZ.cells l)) (hB : Src R L B (fZ.cells l)) (hm : m = l.length) (hn : n = l.length) (hs : l.length ≤ 1000000000) (k : ∀ M', Hp R L M' → K (.int .i64 0) M') :
  ae Tryz.prog 83 #[.slice A m ca, .slice B n cb] M K Kp := by
 subst hm
 subst hn
 refine sI ?_
 refine cY.2 ⟨fun hn => absurd rfl hn, fun _ => ?_⟩
 refine ⟨fun d vs M => ∃ i : Nat, vs = [.int .i64 (i : Int)] ∧ d = l.length - i ∧ i ≤ l.length ∧ Hp R L M, ⟨_, 0, rfl, rfl, by omega, h⟩, ?_⟩
 clear h
 rintro d _ ii M ⟨i, he, hd, hi, h⟩
 simp only [List.cons.injEq, Value.int.injEq, and_true, true_and] at he
 subst he
 refine aH.2 ⟨fun hlt => ?_, fun hge => k _ h⟩
 obtain ⟨w, hw⟩ := aJ (l := l) (i := i) (by omega)
 obtain ⟨b, o, rfl⟩ := hA.iP h (by omega) (by decide)
 obtain ⟨b', o', rfl⟩ := hB.iP h (by omega) (by decide)
 refine ⟨by omega, hlt, aV ?_⟩
 refine aj (hB.at h (j := 0) hw rfl rfl) ?_
 refine aj (hB.at h (j := 1) hw rfl rfl) ?_
 refine aj (hB.at h (j := 2) hw rfl rfl) ?_
 refine aj (hB.at h (j := 3) hw rfl rfl) ?_
 refine aj (hB.at h (j := 4) hw rfl rfl) ?_
 refine aj (hB.at h (j := 5) hw rfl rfl) ?_
 refine aj (hB.at h (j := 6) hw rfl rfl) ?_
 refine aj (hB.at h (j := 7) hw rfl rfl) ?_
 refine aj (hB.at h (j := 8) hw rfl rfl) ?_
 refine aj (hB.at h (j := 9) hw rfl rfl) ?_
 refine aj (hB.at h (j := 10) hw rfl rfl) ?_
 refine ai h ?_
 clear h
 intro q M h
 repeat (refine ak h ?_; clear h; intro M h)
 refine ⟨by omega, hlt, aV ?_⟩
 have Wj := hA.cons (P := pt q (gJ w) 114)
 replace h : Hp R (pt q (gJ w) 114 :: L) M := h
 refine aj (Wj.at h (j := 0) hw rfl rfl) ?_
 refine aj (Wj.at h (j := 1) hw rfl rfl) ?_
 refine aj (Wj.at h (j := 2) hw rfl rfl) ?_
 refine aj (Wj.at h (j := 3) hw rfl rfl) ?_
 refine aj (Wj.at h (j := 4) hw rfl rfl) ?_
 refine aj (Wj.at h (j := 5) hw rfl rfl) ?_
 refine aj (Wj.at h (j := 6) hw rfl rfl) ?_
 refine aj (Wj.at h (j := 7) hw rfl rfl) ?_
 refine aj (Wj.at h (j := 8) hw rfl rfl) ?_
 refine aj (Wj.at h (j := 9) hw rfl rfl) ?_
 refine aj (Wj.at h (j := 10) hw rfl rfl) ?_
 unfold gJ at h
 repeat (refine az h ?_)
 refine aD (by simp) ?_
 rw [aS (by omega)]
 exact ⟨l.length - (i + 1), by omega, i + 1, rfl, rfl, by omega, h.sub bz⟩
theorem Rj {r : List Int} : (decide ((({ x.doc with ready := r } : Wd)).end_ = 0 ∧ ∀ y ∈ ({ x.doc with ready := r } : Wd).gs, y.st ≠ 1 ∧ y.st ≠ 3)) = x.stuck := by
 unfold Wd.stuck
 rw [Bool.eq_iff_iff, decide_eq_true_iff, Bool.and_eq_true, beq_iff_eq, Bool.not_eq_true', ← Bool.not_eq_true, List.any_eq_true]
 refine and_congr Iff.rfl ?_
 constructor
 ·rintro h ⟨y, hy, hg⟩
  have := h (jr y) (List.mem_map.2 ⟨y, hy, rfl⟩)
  rw [kN] at this
  unfold DS at hg
  simp [this.1, this.2] at hg
 ·intro h y hy
  obtain ⟨w, hw, rfl⟩ := List.mem_map.1 hy
  rw [kN]
  constructor
  ·intro e; exact h ⟨w, hw, by simp [DS, e]⟩
  ·intro e; exact h ⟨w, hw, by simp [DS, e]⟩
theorem N0 {r : List Int} (h : Hp R L M) [o : Ap b L pa p x L'] (hx : qj p N x) (hp : eJ p) (hw : eM R a p { x.doc with ready := r }) (k : ∀ M', Hp R (bj (cq pa p) b x :: L') M' → K (.int .i64 0) M') :
  ae Tryz.prog 87 #[.pointer (some ⟨b, 0, none⟩), gG a p { x.doc with ready := r }] M K Kp := by
 refine sK ?_
 replace h := h.pick o.pick
 clear o
 obtain ⟨rs, bx, hl⟩ := hw.aC
 have hlen : x.aC.length ≤ 8 := by have := hx.wv.lk; have := hp.lk; omega
 have hh := hx.wv.JJ
 refine ai h ?_
 clear h
 intro k1 M h
 refine ax h ?_
 refine ⟨fun d vs M => ∃ i : Nat, vs = [.int .i64 (i : Int)] ∧ d = x.aC.length - i ∧ i ≤ x.aC.length ∧ Hp R (pt k1 (ke a p { x.doc with ready := r }) tW :: bj (cq pa p) b x :: L') M, ⟨_, 0, rfl, rfl, by omega, h.sub bz⟩, ?_⟩
 clear h
 rintro d _ ii M ⟨i, he, hd, hi, h⟩
 simp only [List.cons.injEq, Value.int.injEq, and_true, true_and] at he
 subst he
 refine aH.2 ⟨fun hlt => ?_, fun hge => ?_⟩
 ·have Pm : i < x.aC.length := by have e : (i : Int) < (x.aC.length : Int) := hlt; omega
  obtain ⟨l, hl1⟩ := aJ (l := x.aC) (i := i) Pm
  obtain ⟨⟨A, n, c⟩, ht, e1, e2⟩ := hl.at (a := l) hl1
  dsimp only at e1 e2
  obtain ⟨bb, oo, hb⟩ := bx.some (by rw [hl.1]; show 0 < x.aC.length; omega) (by decide)
  rw [hb] at bx
  refine ⟨by omega, hlt, bq hb ?_⟩
  refine bu (Src.at bx.src h ht (j := 0) rfl (by simp [tL])) ?_
  dsimp only
  refine ai h ?_
  clear h
  intro q M h
  refine ak h ?_
  clear h
  intro M h
  have el : cQ x (i : Int) = l := by simp [cQ, hl1]
  have hm := List.mem_of_getElem? hl1
  refine Nz h (by omega) (by omega) (by rw [el]; have := hx.wv.GV hm; omega) ?_
  clear h; intro A2 c2 M h
  rw [el] at h ⊢
  refine ⟨_, _, _, _, rfl, ax h ?_⟩
  have hk := hx.lk l hm
  by_cases ho : l.owner = -1
  ·have hn0 : n = 0 := by rw [e1]; simp [wC, ho]
   refine bY (by rw [hn0]; rfl) (aD (by rw [ho]; rfl) (aD (by rw [hk ho]; rfl) ?_))
   rw [aS (by omega)]
   exact ⟨x.aC.length - (i + 1), by omega, i + 1, rfl, rfl, by omega, h.sub bz⟩
  ·have ekl : wC l = l.owner :: l.waits := by unfold wC; rw [if_neg ho]
   rw [ekl] at e1 e2
   obtain ⟨b3, o3, hb3⟩ := e2.some (by simp) (by decide)
   subst hb3
   have QK := e2.2
   rw [List.length_cons] at e1 QK
   refine aD (by simp; omega) (ax h ⟨by omega, by omega, aV ?_⟩)
   refine aj (Src.at e2.src h (i := 0) (j := 0) rfl rfl (by simp [bS])) ?_
   refine aD (by simp) (ax h ⟨by omega, by omega, by omega, by omega, by omega, by omega, ?_⟩)
   simp only [Int.toNat_natCast]
   have hd1 := (e2.drop 1 (by omega)).src (L := wg A2 c2 l.waits :: bj (cq pa p) b x :: pt q [Value.slice (some ⟨b3, o3, none⟩) n c] 251 :: pt k1 (ke a p { x.doc with ready := r }) tW :: L')
   replace h : Hp R (wg A2 c2 l.waits :: bj (cq pa p) b x :: pt q [Value.slice (some ⟨b3, o3, none⟩) n c] 251 :: pt k1 (ke a p { x.doc with ready := r }) tW :: L') M := h.sub bz
   refine vY (l := l.waits) h (Src.row (A := A2)) hd1 rfl (by omega) (by have := hx.wv.GV hm; omega) ?_
   clear h; intro M h
   refine eY (aD (by rfl) ?_)
   rw [aS (by omega)]
   exact ⟨x.aC.length - (i + 1), by omega, i + 1, rfl, rfl, by omega, h.sub bz⟩
 ·refine Cw (b := b) h (by omega) ?_
  clear h; intro A c M h
  have ehl : x.doc.hl = cn x.hl.length x.hl := rfl
  have hhl := hw.hl
  have hlen2 : (cn x.hl.length x.hl).length ≤ 100 := by rw [(mP x.hl.length x.hl (Nat.le_refl _) hx.hl.ok).1.length_eq]; exact hh
  change RS hH R a.ah a.ch (cn x.hl.length x.hl) at hhl
  change Hp R (eX A c (cn x.hl.length x.hl) :: bj (cq pa p) b x :: pt k1 [.slice a.pa.f p.funcs.length a.pa.fc, .slice a.pa.c p.dB.length a.pa.cc, .int .i64 p.aC, .slice a.pa.k p.cases.length a.pa.kc, .slice a.ag x.doc.gs.length a.cg, .int .u64 x.clock, .slice a.ac x.av.length a.cc, .slice a.al x.aC.length a.cl, .slice a.ah (cn x.hl.length x.hl).length a.ch, .int .u64 x.dk, .slice a.ao x.out.length a.co, .int .i64 x.end_, .int .i64 x.code, .slice a.ar r.length a.cr] tW :: L') M at h
  generalize cn x.hl.length x.hl = sl at h hhl hlen2
  refine aY (ax h (aD (by simp) (ax h ?_)))
  generalize hC : pt k1 [.slice a.pa.f p.funcs.length a.pa.fc, .slice a.pa.c p.dB.length a.pa.cc, .int .i64 p.aC, .slice a.pa.k p.cases.length a.pa.kc, .slice a.ag x.doc.gs.length a.cg, .int .u64 x.clock, .slice a.ac x.av.length a.cc, .slice a.al x.aC.length a.cl, .slice a.ah sl.length a.ch, .int .u64 x.dk, .slice a.ao x.out.length a.co, .int .i64 x.end_, .int .i64 x.code, .slice a.ar r.length a.cr] tW = C at h
  refine ⟨fun d vs M => ∃ i : Nat, vs = [.int .i64 (i : Int)] ∧ d = sl.length - i ∧ i ≤ sl.length ∧ Hp R (eX A c sl :: bj (cq pa p) b x :: C :: L') M, ⟨_, 0, rfl, rfl, by omega, h⟩, ?_⟩
  clear h
  rintro d _ jj M ⟨j, he, hd, hj, h⟩
  simp only [List.cons.injEq, Value.int.injEq, and_true, true_and] at he
  subst he
  refine aH.2 ⟨fun hlt => ?_, fun hge => k _ (h.sub bz)⟩
  obtain ⟨w, cu⟩ := aJ (l := sl) (i := j) (by omega)
  obtain ⟨b1, o1, lg⟩ := hhl.some (by omega) (by decide)
  rw [lg] at hhl
  refine ⟨by omega, hlt, bq lg ?_⟩
  refine aj (Src.at hhl.src h cu (j := 0) rfl rfl) ?_
  refine aj (Src.at hhl.src h cu (j := 1) rfl rfl) ?_
  refine aj (Src.at hhl.src h cu (j := 2) rfl rfl) ?_
  refine ai h ?_
  clear h
  intro q M h
  repeat (refine ak h ?_; clear h; intro M h)
  have hA : Src R (pt q [.int .u64 w.t, .int .u64 w.seq, .int .i64 w.id] 241 :: eX A c sl :: bj (cq pa p) b x :: C :: L') A (hH.cells sl) := Src.row (A := A)
  obtain ⟨b2, o2, rfl⟩ := hA.iP h (by omega) (by decide)
  refine ⟨by omega, hlt, aV ?_⟩
  refine aj (hA.at h cu (j := 0) rfl rfl) ?_
  refine aj (hA.at h cu (j := 1) rfl rfl) ?_
  refine aj (hA.at h cu (j := 2) rfl rfl) ?_
  refine az h (az h (az h ?_))
  refine aD (by simp) ?_
  rw [aS (by omega)]
  exact ⟨sl.length - (j + 1), by omega, j + 1, rfl, rfl, by omega, h.sub bz⟩
end
section
variable {R : Mem} {L L' : List HP} {M : Mem} {K : Value → Mem → Prop} {Kp : List PanicEntry → Mem → Prop} {a : Av} {pa : PA} {p : cy} {x z : Wd} {b N : Nat}
theorem CU {r : List Int} (h : Hp R L M) [o : Ap b L pa p x L'] (hx : qj p N x) (hp : eJ p) (hw : eM R a p { x.doc with ready := r }) (k : ∀ M', Hp R (bj (cq pa p) b x :: L') M' → K (.int .i64 0) M') :
  ae Tryz.prog 40 #[.pointer (some ⟨b, 0, none⟩), gG a p { x.doc with ready := r }] M K Kp := by
 refine sJ ?_
 replace h := h.pick o.pick
 clear o
 have rK := (hx.wv.ready (r := [])).sm hp (by show (0 : Nat) ≤ _; omega)
 obtain ⟨s1, s2, s3, _, s5, _⟩ := rK
 change x.av.length ≤ 1000 at s2
 change ∀ c ∈ x.av, c.Small 1000000 at s1
 change x.gs.length ≤ 1000 at s3
 change x.out.length ≤ 1000000 at s5
 have eg : ({ x.doc with ready := r } : Wd).gs.length = x.gs.length := nC
 refine ai h ?_
 clear h
 intro k1 M h
 refine EH (b := b) h ⟨_, _, rfl, ?_⟩
 refine EI (b := b) h s5 ?_
 clear h; intro A c M h
 refine aY (ax h ?_)
 refine QH (b := b) h (eY ⟨cv h, aD (by rw [eg]; simp) ?_⟩)
 refine az h (aD (by simp [Wd.doc, Wd.abs]) (az h (aD (by simp [Wd.doc, Wd.abs]) (az h ?_))))
 refine JO (b := b) h (eY ⟨cv h, cv h, aD (by simp [Wd.doc, Wd.abs]) ?_⟩)
 refine ax h (aD (by simp [Wd.doc, Wd.abs]) ?_)
 refine ax h (ax h (az h (ax h (ax h (az h (ax h (ax h (ax h (az h (ax h (az h (az h (ax h ?_)))))))))))))
 refine JP (b := b) h (by omega) (lF ⟨fA h rfl, cv h, cv h, ?_⟩)
 refine J1 h hw (by rw [eg]; omega) ?_
 clear h; intro M h
 rw [Rj]
 refine lF ⟨fA h rfl, cv h, cv h, aD (by simp) (ax h ?_)⟩
 have hout := hw.out
 change RS bS R a.ao a.co x.out at hout
 generalize hC : pt k1 (ke a p { x.doc with ready := r }) 81 = C at h
 have hL : ∀ M', Hp R (C :: bj (cq pa p) b x :: L') M' → Hp R (pt k1 (ke a p { x.doc with ready := r }) 81 :: bj (cq pa p) b x :: L') M' := fun M' h => by rw [hC]; exact h
 refine ⟨fun d vs M => ∃ i : Nat, vs = [.int .i64 (i : Int)] ∧ d = x.out.length - i ∧ i ≤ x.out.length ∧ Hp R (rz A c x.out :: C :: bj (cq pa p) b x :: L') M, ⟨_, 0, rfl, rfl, by omega, h.sub bz⟩, ?_⟩
 clear h
 rintro d _ ii M ⟨i, he, hd, hi, h⟩
 simp only [List.cons.injEq, Value.int.injEq, and_true, true_and] at he
 subst he
 refine aH.2 ⟨fun hlt => ?_, fun hge => ?_⟩
 ·have Pm : i < x.out.length := by have e : (i : Int) < (x.out.length : Int) := hlt; omega
  obtain ⟨w, cu⟩ := aJ (l := x.out) (i := i) Pm
  obtain ⟨b1, o1, lg⟩ := hout.some (by omega) (by decide)
  rw [lg] at hout
  refine ⟨by omega, hlt, bq lg ?_⟩
  refine aj (Src.at hout.src h cu (j := 0) rfl (by simp [bS])) ?_
  have hA : Src R (rz A c x.out :: C :: bj (cq pa p) b x :: L') A (bS.cells x.out) := Src.row (A := A)
  obtain ⟨b2, o2, rfl⟩ := hA.iP h (by omega) (by decide)
  refine ⟨by omega, by omega, aV ?_⟩
  refine aj (hA.at h cu (j := 0) rfl (by simp [bS])) ?_
  refine aD (by simp) ?_
  rw [aS (by omega)]
  exact ⟨x.out.length - (i + 1), by omega, i + 1, rfl, rfl, by omega, h⟩
 replace h := hL _ (h.sub bz)
 refine ax h ?_
 obtain ⟨rs, bx, hl⟩ := hw.gs
 rw [hC] at h
 refine ⟨fun d vs M => ∃ i : Nat, vs = [.int .i64 (i : Int)] ∧ d = x.gs.length - i ∧ i ≤ x.gs.length ∧ Hp R (C :: bj (cq pa p) b x :: L') M, ⟨_, 0, rfl, rfl, by omega, h⟩, ?_⟩
 clear h hd hi hge i d
 rintro d _ ii M ⟨i, he, hd, hi, h⟩
 simp only [List.cons.injEq, Value.int.injEq, and_true, true_and] at he
 subst he
 rw [eg]
 refine aH.2 ⟨fun hlt => ?_, fun hge => ?_⟩
 ·have Pm : i < x.gs.length := by omega
  have K9 := hl.1
  rw [eg] at K9
  obtain ⟨⟨st, A2, n2, c2, wt⟩, ht, e1, e2, e3, e4⟩ := hl.at (bM (x := { x.doc with ready := r }) (g := (i : Int)) (by omega) (by rw [eg]; omega))
  have ed : aa { x.doc with ready := r } (i : Int) = jr (aa x (i : Int)) := td
  rw [ed] at e1 e2 e3 e4
  rw [jc] at e2 e3
  rw [kN] at e1
  dsimp only at e1 e2 e3 e4
  subst e1; subst e2; subst e4
  obtain ⟨b1, o1, lg⟩ := bx.some (by omega) (by decide)
  rw [lg] at bx
  refine ⟨by omega, by omega, bq lg ?_⟩
  rw [Int.toNat_natCast] at ht ⊢
  refine aj (Src.at bx.src h ht (j := 0) rfl (by simp [tS])) ?_
  refine bu (Src.at bx.src h ht (j := 1) rfl rfl) ?_
  refine aj (Src.at bx.src h ht (j := 2) rfl rfl) ?_
  refine aj (Src.at bx.src h ht (j := 3) rfl rfl) ?_
  refine aj (Src.at bx.src h ht (j := 4) rfl rfl) ?_
  refine aj (Src.at bx.src h ht (j := 5) rfl rfl) ?_
  refine ai h ?_
  clear h
  intro q M h
  repeat (refine ak h ?_; clear h; intro M h)
  refine az h ?_
  have zO := hx.wv.aT (g := (i : Int)) (by omega) (by omega)
  refine xK (b := b) h (by omega) (by omega) (eY ⟨cv h, aD (by simp) (ax h ?_)⟩)
  refine JE (b := b) h zO ?_
  clear h; intro bs cs M h
  refine aY ⟨cv h, cv h, ?_⟩
  refine NZ h (Src.row (A := some ⟨bs, 0, none⟩)) e3.src rfl rfl (by have := zO.2.2.2; omega) ?_
  clear h; intro M h
  refine eY ⟨cv h, cv h, aD rfl ?_⟩
  rw [aS (by omega)]
  exact ⟨x.gs.length - (i + 1), by omega, i + 1, rfl, rfl, by omega, h.sub bz⟩
 clear bx hl rs
 obtain ⟨rs, bx, hl⟩ := hw.av
 change yZ R rs x.av at hl
 replace h := hL _ h
 refine ax h ?_
 rw [hC] at h
 have ec : ({ x.doc with ready := r } : Wd).av = x.av := rfl
 rw [ec]
 refine ⟨fun d vs M => ∃ i : Nat, vs = [.int .i64 (i : Int)] ∧ d = x.av.length - i ∧ i ≤ x.av.length ∧ Hp R (C :: bj (cq pa p) b x :: L') M, ⟨_, 0, rfl, rfl, by omega, h⟩, ?_⟩
 clear h hd hi hge i d
 rintro d _ ii M ⟨i, he, hd, hi, h⟩
 simp only [List.cons.injEq, Value.int.injEq, and_true, true_and] at he
 subst he
 refine aH.2 ⟨fun hlt => ?_, fun hge => ?_⟩
 ·obtain ⟨w, cu⟩ := aJ (l := x.av) (i := i) (by omega)
  have hlr : i < rs.length := by have := hl.1; omega
  obtain ⟨rc, hrc⟩ := aJ (l := rs) (i := i) hlr
  have Ao := hl.2 i rc w hrc cu
  have hch' := Ao
  obtain ⟨A3, ca, B3, cb, D3, cd, rfl, q1, q2, q3⟩ := Ao.eq
  obtain ⟨b1, o1, lg⟩ := bx.some (by omega) (by decide)
  rw [lg] at bx
  refine ⟨by omega, by omega, bq lg ?_⟩
  refine aj (Src.at bx.src h hrc (j := 0) rfl (by simp [yb])) ?_
  refine bu (Src.at bx.src h hrc (j := 1) rfl rfl) ?_
  refine bu (Src.at bx.src h hrc (j := 2) rfl rfl) ?_
  refine bu (Src.at bx.src h hrc (j := 3) rfl rfl) ?_
  refine u9 (Src.at bx.src h hrc (j := 4) rfl rfl) ?_
  refine ai h ?_
  clear h
  intro q M h
  repeat (refine ak h ?_; clear h; intro M h)
  refine az h (ax h (ax h (ax h (m6 h ?_))))
  have ew : aX x.av (i : Int) = w := by unfold aX; rw [Int.toNat_natCast, List.getD_eq_getElem?_getD, cu]; rfl
  have hsml := s1 w (List.mem_of_getElem? cu)
  refine Nr (b := b) h ⟨by omega, by omega⟩ (by rw [ew]; exact hsml) ?_
  clear h; intro A4 c4 B4 c5 D4 c6 M h
  rw [ew] at h ⊢
  refine ⟨_, _, _, _, _, _, _, _, _, _, rfl, fA h rfl, ?_⟩
  refine MA h hch' (hsml.mono (by omega)) (Src.row (A := A4)) (Src.row (A := B4)) (Src.row (A := D4)) ?_
  clear h; intro M h
  refine eY ⟨fA h rfl, aD rfl ?_⟩
  rw [aS (by omega)]
  exact ⟨x.av.length - (i + 1), by omega, i + 1, rfl, rfl, by omega, h.sub bz⟩
 replace h := hL _ h
 refine aI h rfl ?_
 refine N0 (b := b) h hx hp hw ?_
 clear h; intro M h
 exact eY (k _ (h.sub bz))
end
section
variable {p : cy} {x y : Wd} {g d : Int} {N : Nat}
theorem Wl (h : jL g x y) : y.ready.length ≤ y.gs.length := by
 obtain ⟨a, _, c, _⟩ := h
 have := xM (b := 1) y.gs.length y.ready (fun q hq => ⟨(c q hq).1, (c q hq).2.1⟩) (fun q => List.nodup_iff_count.1 a q)
 omega
theorem Rk (h : qj p N x) (hp : eJ p) (hN : N < 1000000000) (hd : 0 ≤ d) : ∃ v r rest, lK p x g (.num v) = some (r, rest) ∧ (∀ kd n, asks p { x with ready := [] } g = some (kd, n) → v = d.tmod (if 1 > n then 1 else n)) ∧
  qj p (N + 1) r.fin ∧ r.fin.ready.length ≤ 100 ∧ r.fin.doc = vl p x.doc g d ∧ (∀ l y, r ≠ .fF l y) ∧ (iI { x with ready := [] } g → g < (vl p x.doc g d).gs.length) := by
 by_cases h0 : 0 ≤ g
 ·have hbd : ∀ kd n, asks p { x with ready := [] } g = some (kd, n) → 1 ≤ n ∧ n < 1099511627776 := fun kd n e => YS hp e
  obtain ⟨v, hv⟩ : ∃ v : Int, ∀ kd n, asks p { x with ready := [] } g = some (kd, n) → v = d.tmod n := by
   cases asks p { x with ready := [] } g with
   | none => exact ⟨0, fun kd n e => by cases e⟩
   | some q => exact ⟨d.tmod q.2, fun kd n e => by cases e; rfl⟩
  have hv2 : ∀ kd n, asks p { x with ready := [] } g = some (kd, n) → v = d.tmod n ∧ 0 ≤ v ∧ v < n := fun kd n e => by
   have e1 := hv kd n e
   have e2 := hbd kd n e
   rw [e1]
   exact ⟨rfl, Int.tmod_nonneg n hd, Int.tmod_lt_of_pos d (by omega)⟩
  obtain ⟨r, rest, he, hres⟩ := JN (d := .num v) h.wv hp h0 (fun v' kd n e1 e2 => by cases e1; exact (hv2 kd n e2).2)
  have Sa : gQ p g { x with ready := [] } r := by
   rcases hres with hres | ⟨l, e, _⟩
   ·exact hres.1
   ·cases e
  have hdoc := Wi (d := d) h hp he hv2
  have hw := h.exec hp hN he Sa.wv
  have QZ : ∀ l y, r ≠ .fF l y := fun l y e => by subst e; exact Sa
  have hfd : r.fin.doc = vl p x.doc g d := by
   cases r with
   | on y => exact hdoc.symm
   | dg n y => exact hdoc.symm
   | fF l y => exact absurd rfl (QZ l y)
  refine ⟨v, r, rest, he, fun kd n e => ?_, hw, ?_, hfd, QZ, fun hc => ?_⟩
  ·have := hbd kd n e
   rw [if_neg (by omega)]; exact hv kd n e
  ·have hn := hw.wv.n2
   cases r with
   | on y => have := Wl Sa.2; exact Nat.le_trans this hn
   | dg n y => have := Wl Sa.2; exact Nat.le_trans this hn
   | fF l y => exact absurd rfl (QZ l y)
  ·rw [← hfd, nC]
   exact Sa.lt ⟨hc.1, hc.2.1, hc.2.2.2⟩
 ·have hn : ¬ iI { x with ready := [] } g := fun hc => h0 hc.1
  have he : lK p x g (.num 0) = some (.on { x with ready := [] }, true) := by unfold lK; rw [if_neg hn]
  refine ⟨0, _, _, he, fun kd n e => ?_, h.ready.mono (by omega), by show (0 : Nat) ≤ 100; omega, ?_, (fun l y e => by cases e), fun hc => absurd hc hn⟩
  ·unfold asks at e; rw [if_neg hn] at e; cases e
  ·unfold vl
   dsimp only
   rw [← Fe, if_neg (fun hc => hn (ua.1 hc))]
   rfl
end
section
variable {R : Mem} {L L' : List HP} {M : Mem} {K : Value → Mem → Prop} {Kp : List PanicEntry → Mem → Prop} {a : Av} {pa : PA} {p : cy} {x z : Wd} {b N : Nat} {g d : Int}
theorem Kg {ka kd : Nat} {a0 d n kind : Int} :
  ie R (.func (.func 77) #[] #[.pointer (some ⟨ka, 0, none⟩), .pointer (some ⟨kd, 0, none⟩)]) kind n (.num (d.tmod (if 1 > n then 1 else n)))
   (pt ka [.int .i64 a0] 3 :: pt kd [.int .i64 d] 3 :: L) (pt ka [.int .i64 (IntKind.wrap .i64 (a0 + 1))] 3 :: pt kd [.int .i64 d] 3 :: L) := by
 intro Q M K Kp h k
 refine EA ⟨by decide, by show _ < 228; decide⟩ ?_
 refine pO (az h ?_)
 refine ak h ?_
 clear h; intro M h
 exact az h ⟨by split <;> omega, k _ h⟩
theorem Wm {R : Mem} {b : Nat} {r : Out Wd} {rest : Bool} {L2 : List HP} (QZ : ∀ l y, r ≠ .fF l y)
  (k : ∀ R' A c t M', R.le R' → RS bS R' A c r.fin.ready → Hp R' (bj (cq pa p) b r.fin :: L2) M' → K (.agg #[.bool t, .slice A r.fin.ready.length c]) M') : pR R pa p b g L2 K Kp r rest := by
 cases r with
 | on y => exact fun R' A c M' h1 h2 h3 => k R' A c _ M' h1 h2 h3
 | dg n y => exact fun R' A c M' h1 h2 h3 => k R' A c _ M' h1 h2 h3
 | fF l y => exact absurd rfl (QZ l y)
theorem N1 {t0 : Bool} {g0 d0 : Int} (h : Hp R L M) [o : Ap b L pa p x L'] (hx : qj p N x) (hN : N < 1000000) (hp : eJ p) (WM : nQ R pa p) (hw : eM R a p x.doc) (hr : x.ready.length ≤ 1000000)
  (k : ∀ y t R' a' M', qj p (N + 1) y → y.ready.length ≤ 100 → R.le R' → eM R' a' p y.doc → Hp R' (bj (cq pa p) b y :: L') M' → K (.tuple #[gG a' p y.doc, .bool t]) M') :
  ae Tryz.prog 38 #[.pointer (some ⟨b, 0, none⟩), gG a p x.doc, .agg #[.bool t0, .int .i64 g0, .int .i64 d0]] M K Kp := by
 refine sL ?_
 replace h := h.pick o.pick
 clear o
 have hv := CT hx.wv hx.hl
 have rK := hv.sm hp hr
 have qZ := hx.wv.n2
 have hhl := hx.wv.JJ
 refine ai h ?_
 clear h
 intro k1 M h
 refine ai h ?_
 clear h
 intro k3 M h
 refine ai h ?_
 clear h
 intro k5 M h
 refine m6 h ?_
 cases t0 with
 | true =>
  refine aq (aI h rfl ?_)
  refine NO h hw rK (fun y hy => ⟨(hv.hl y hy).1, (hv.hl y hy).2.1⟩) ?_
  clear h; intro R1 a1 M l1 mT h
  refine ⟨_, _, _, _, _, _, _, _, _, _, _, _, _, _, rfl, ?_⟩
  refine ai h ?_
  clear h
  intro jJ M h
  refine bl h rfl rfl rfl ?_
  clear h; intro M h
  refine ax h (ax h (az h (ax h (ax h (az h (ax h (ax h (ax h (az h (ax h (az h (az h (ax h (ax h ?_))))))))))))))
  obtain ⟨w1, w2, w3, w4⟩ := OX hx.wv
  have AO := hx.tick
  have hd1 : x.doc.EZ = x.tick.doc := V9.symm
  rw [hd1] at mT h ⊢
  refine Nv (b := b) h (by omega) w1 ?_
  clear h; intro R2 A2 c2 M l2 r2 h
  refine aY ⟨cv h, fA h rfl, ?_⟩
  have cu := mT.le l2
  have hrd := cu.ready
  refine vY (l := x.tick.ready) h r2.src hrd.src rfl rfl (by omega) ?_
  clear h; intro M h
  refine eY ⟨cv h, fA h rfl, ?_⟩
  refine bl h rfl rfl rfl ?_
  clear h; intro M h
  refine ⟨cv h, fA h rfl, aI h rfl ?_⟩
  exact k x.tick _ R2 a1 M (AO.mono (by omega)) w4 (Mem.le_trans l1 l2) cu (h.sub bz)
 | false =>
  refine au (az h ?_)
  obtain ⟨dq, hdq, hdm⟩ := mask (x := d0) (y := 65535) (m := 65535) rfl (by omega)
  rw [hdq]
  refine ai h ?_
  clear h
  intro kd M h
  refine ak h ?_
  clear h
  intro M h
  refine ai h ?_
  clear h
  intro ka M h
  refine ak h ?_
  clear h
  intro M h
  refine az h (ax h ?_)
  generalize hC1 : pt k1 (ke a p x.doc) 81 = C1 at h
  have hL : ∀ (Q : List HP) M', Hp R (C1 :: Q) M' → Hp R (pt k1 (ke a p x.doc) 81 :: Q) M' := fun Q M' h => by rw [hC1]; exact h
  have h0 : Hp R (C1 :: pt k3 [.bool false, .int .i64 g0, .int .i64 d0] 106 :: bj (cq pa p) b x :: pt ka [.int .i64 0] 3 :: pt kd [.int .i64 (dq : Int)] 3 :: pt k5 gC 81 :: L') M := h.sub bz
  clear h
  obtain ⟨rs, bx, hl⟩ := hw.gs
  refine aH.2 ⟨fun c0 => ⟨fun vs M => ∃ g : Int, vs = [.int .i64 g] ∧ Hp R (C1 :: pt k3 [.bool false, .int .i64 g0, .int .i64 d0] 106 :: bj (cq pa p) b x :: pt ka [.int .i64 0] 3 :: pt kd [.int .i64 (dq : Int)] 3 :: pt k5 gC 81 :: L') M, ?a1, fun _ _ M hJ => ?t1⟩,
   fun c0 => ⟨fun vs M => ∃ g : Int, vs = [.int .i64 g] ∧ Hp R (C1 :: pt k3 [.bool false, .int .i64 g0, .int .i64 d0] 106 :: bj (cq pa p) b x :: pt ka [.int .i64 0] 3 :: pt kd [.int .i64 (dq : Int)] 3 :: pt k5 gC 81 :: L') M, ⟨_, rfl, h0⟩, fun _ _ M hJ => ?t2⟩⟩
  case a1 =>
   refine aH.2 ⟨fun c1 => ?_, fun c1 => ⟨_, rfl, h0⟩⟩
   refine ⟨fun dd vs M => ∃ i : Nat, vs = [.int .i64 g0, .int .i64 (i : Int)] ∧ dd = x.doc.gs.length - i ∧ i ≤ x.doc.gs.length ∧ Hp R (C1 :: pt k3 [.bool false, .int .i64 g0, .int .i64 d0] 106 :: bj (cq pa p) b x :: pt ka [.int .i64 0] 3 :: pt kd [.int .i64 (dq : Int)] 3 :: pt k5 gC 81 :: L') M, ⟨_, 0, rfl, rfl, by omega, h0⟩, ?_⟩
   clear h0
   rintro dd _ gg ii M ⟨i, he, hd, hi, h⟩
   simp only [List.cons.injEq, Value.int.injEq, and_true, true_and] at he
   obtain ⟨rfl, rfl⟩ := he
   refine aH.2 ⟨fun hlt => ?_, fun hge => ⟨_, rfl, h⟩⟩
   refine az h ⟨by omega, ?_⟩
   refine ax (hL _ _ h) ?_
   obtain ⟨gq, hgq, hgm⟩ := mask (x := gg) (y := 65535) (m := 65535) rfl (by omega)
   have hlen : x.doc.gs.length ≤ 100 := hv.n2
   rw [hgq, dD (by omega) (by omega)]
   have em : Int.tmod ((gq : Int) + (i : Int)) (x.doc.gs.length : Int) = (((gq + i) % x.doc.gs.length : Nat) : Int) := by
    rw [← Int.natCast_add, Int.ofNat_tmod]
   rw [em, Int.toNat_natCast]
   have hml : (gq + i) % x.doc.gs.length < x.doc.gs.length := Nat.mod_lt _ (by omega)
   generalize (gq + i) % x.doc.gs.length = m at hml
   obtain ⟨⟨st, A2, n2, c2, wt⟩, ht⟩ := aJ (l := rs) (i := m) (by rw [hl.1]; exact hml)
   obtain ⟨b1, o1, lg⟩ := bx.some (by rw [hl.1]; omega) (by decide)
   rw [lg] at bx
   refine ⟨by omega, by omega, bq lg ?_⟩
   refine aj (Src.at bx.src h ht (j := 0) rfl (by simp [tS])) ?_
   refine bh.2 ⟨fun _ => ⟨_, rfl, h⟩, fun _ => ?_⟩
   exact ⟨x.doc.gs.length - (i + 1), by omega, i + 1, by rw [aS (by omega)], rfl, by omega, h⟩
  all_goals
   obtain ⟨g, hg, h⟩ := hJ
   simp only [List.cons.injEq, Value.int.injEq, and_true, true_and] at hg
   subst hg
   clear h0
   rename_i vE
   obtain ⟨v, r, rest, he, pT, hy, hyr, hyd, QZ, zO⟩ := Rk (g := vE) (d := (dq : Int)) hx hp (by omega) (by omega)
   replace h : Hp R (bj (cq pa p) b x :: pt ka [.int .i64 0] 3 :: pt kd [.int .i64 (dq : Int)] 3 :: pt k5 gC 81 :: C1 :: L') M := h.sub bz
   obtain ⟨v2, hds⟩ : ∃ v2, match asks p { x with ready := [] } vE with | none => pt ka [.int .i64 v2] 3 :: pt kd [.int .i64 (dq : Int)] 3 :: pt k5 gC 81 :: C1 :: L' = pt ka [.int .i64 0] 3 :: pt kd [.int .i64 (dq : Int)] 3 :: pt k5 gC 81 :: C1 :: L' | some (kd', n) => ie R (.func (.func 77) #[] #[.pointer (some ⟨ka, 0, none⟩), .pointer (some ⟨kd, 0, none⟩)]) kd' n (.num v) (pt ka [.int .i64 0] 3 :: pt kd [.int .i64 (dq : Int)] 3 :: pt k5 gC 81 :: C1 :: L') (pt ka [.int .i64 v2] 3 :: pt kd [.int .i64 (dq : Int)] 3 :: pt k5 gC 81 :: C1 :: L') := by
    cases hq : asks p { x with ready := [] } vE with
    | none => exact ⟨0, rfl⟩
    | some q =>
     obtain ⟨kd', n⟩ := q
     refine ⟨IntKind.wrap .i64 (0 + 1), ?_⟩
     have e := pT kd' n hq
     rw [e]
     exact Kg
   refine tM (b := b) h WM ⟨_, _, _, rfl⟩ he hds (Wm QZ ?_)
   clear h; intro R1 A1 c1 t1 M l1 r1 h
   refine ⟨_, _, _, _, rfl, ?_⟩
   refine ai h ?_
   clear h
   intro FI M h
   refine ak h ?_
   clear h
   intro M h
   refine ak h ?_
   clear h
   intro M h
   subst hC1
   refine aI h rfl (az h ?_)
   refine NY h hx hp (hw.le l1) (by omega) hr zO ?_
   clear h; intro R2 a2 t2 M l2 cu h
   rw [← hyd] at cu ⊢
   refine ⟨ke a2 p r.fin.doc, rfl, _, rfl, ?_⟩
   refine ai h ?_
   clear h
   intro gS M h
   refine bl h rfl rfl rfl ?_
   clear h; intro M h
   refine m6 h ?_
   generalize (t1 == t2) = tt
   cases tt with
   | true =>
    refine aq (ax h (ax h ?_))
    refine ax h (ax h (az h (ax h (ax h (az h (ax h (ax h (ax h (az h (ax h (az h (az h (ax h ?_)))))))))))))
    refine vY (l := r.fin.ready) h (r1.le l2).src cu.ready.src rfl rfl (by omega) ?_
    clear h; intro M h
    refine eY ⟨fA h rfl, bY rfl (az h ?_)⟩
    refine bl h rfl rfl rfl ?_
    clear h; intro M h
    refine ⟨cv h, fA h rfl, aI h rfl ?_⟩
    exact k r.fin _ R2 a2 M hy hyr (Mem.le_trans l1 l2) cu (h.sub bz)
   | false =>
    refine au (ax h (ax h (az h (ax h (ax h (az h (ax h (ax h (ax h (az h (ax h (az h (az h (ax h ?_))))))))))))))
    refine ⟨fA h rfl, ?_⟩
    refine bl h rfl rfl rfl ?_
    clear h; intro M h
    refine ⟨fA h rfl, aI h rfl ?_⟩
    exact k r.fin _ R2 a2 M hy hyr (Mem.le_trans l1 l2) cu (h.sub bz)
end
end Go.Proofs
namespace Go.Proofs
open Go.AF
set_option maxRecDepth 100000
set_option maxHeartbeats 1000000
attribute [local irreducible] bG dF ff dP aF fa aE b7 aO bk bJ aM
section
variable {R : Mem} {L L' L2 : List HP} {M : Mem} {K : Value → Mem → Prop} {Kp : List PanicEntry → Mem → Prop} {pa : PA} {p : cy} {dr : Value} {b : Nat} {x : Wd} {g : Int}
theorem Ff {d : iZ} {y : Wd} {kp : Bool} (h : Hp R L M) [o : Ap b L pa p x L'] (hp : nQ R pa p) (KB : ∃ f c d, dr = .func f c d) (he : exec p x g d = some (y, kp)) (ha : asks p { x with ready := [] } g = none)
  (k : ∀ R' A c M', R.le R' → RS bS R' A c y.ready → Hp R' (bj (cq pa p) b y :: L') M' → K (.agg #[.bool kp, .slice A y.ready.length c]) M') :
  ae Tryz.prog 41 #[.pointer (some ⟨b, 0, none⟩), .int .i64 g, dr] M K Kp :=
 VA h hp KB he (by rw [ha]) k
end
def p0 : cy := ⟨[[⟨20, 0, 0, 0⟩, ⟨10, 0, 0, 0⟩]], [], 0, []⟩
def aw1 : Wd × Bool := (exec p0 (Wd.new p0) 0 (.num 0)).getD (Wd.new p0, false)
def aw2 : Wd × Bool := (exec p0 aw1.1 0 (.num 0)).getD (Wd.new p0, false)
theorem aw1_eq : exec p0 (Wd.new p0) 0 (.num 0) = some (aw1.1, true) := by kernel_rfl
theorem aw2_eq : exec p0 aw1.1 0 (.num 0) = some (aw2.1, false) := by kernel_rfl
section
variable {R : Mem} {L L' : List HP} {M : Mem} {K : Value → Mem → Prop} {Kp : List PanicEntry → Mem → Prop}
theorem Kh (h : Hp R L M) (k : ∀ R' M', R.le R' → Hp R' L M' → K (.bool true) M') : ae Tryz.prog 34 #[] M K Kp := by
 refine qH ?_
 refine ai h ?_
 clear h; intro k1 M h
 refine ai h ?_
 clear h; intro k3 M h
 have h1 := (h.pt k1).g8 (E := jE) (l := [⟨20, 0, 0, 0⟩, ⟨10, 0, 0, 0⟩]) rfl
 obtain ⟨R1, hle1, Al, h2⟩ := h1.bB (some ⟨k1, 0, none⟩)
 have h3 := h2.g8 (E := tL) (l := [(some ⟨k1, 0, none⟩, 2, 2)]) rfl
 obtain ⟨R2, hle2, Ey, h4⟩ := h3.bB (some ⟨k3, 0, none⟩)
 clear h h1 h2 h3
 have hp : nQ R2 ⟨some ⟨k3, 0, none⟩, 1, none, 0, none, 0⟩ p0 := ⟨⟨_, Ey, rfl, fun i t f a b => by
  match i, a, b with
  | 0, a, b => simp at a; cases b; subst a; exact ⟨Al.le hle2, rfl⟩
  | i + 1, a, b => simp at a⟩, RS.nil _ _⟩
 have hle : R.le R2 := Mem.le_trans hle1 hle2
 refine EJ (p := p0) (pa := ⟨some ⟨k3, 0, none⟩, 1, none, 0, none, 0⟩) h4 (RS.nil _ _) (by decide) (by decide) ?_
 clear h4
 intro b M h
 refine Bq (au ?_)
 refine Ff h hp ⟨_, _, _, rfl⟩ aw1_eq (by kernel_rfl) ?_
 clear h
 intro R3 A1 c1 M hle3 hrs1 h
 refine ⟨_, _, _, _, rfl, ?_⟩
 refine Ff h (hp.le hle3) ⟨_, _, _, rfl⟩ aw2_eq (by kernel_rfl) ?_
 clear h
 intro R4 A2 c2 M hle4 Y4 h
 refine ⟨_, _, _, _, rfl, ?_⟩
 repeat (first|(refine ai h ?_;clear h;intro kb M h)|(refine ak h ?_;clear h;intro M h)|refine St.to h ?_|(apply Exists.intro;(repeat apply Exists.intro);refine And.intro rfl ?_)|refine ay ?_|refine aq ?_|refine au ?_)
 refine EH h ?_
 refine ⟨_, _, rfl, ?_⟩
 have e2 : aw2.1.out = [0] := by kernel_rfl
 refine EI h (by rw [e2]; decide) ?_
 clear h
 intro A c M h
 refine aY ?_
 refine m6 h (aq ?_)
 refine m6 h ?_
 refine aq ?_
 have e1 : (aw2.1.end_ == 1) = true := by kernel_rfl
 rw [e2] at h
 rw [e1, e2]
 refine aq (bY (by rfl) ?_)
 refine ⟨by omega, by decide, ?_⟩
 obtain ⟨bo, rfl⟩ := h.bU (A := A) (by decide) (by decide)
 refine aV ?_
 refine aj (Src.at (h.src (A := some ⟨bo, 0, none⟩)) h (i := 0) (j := 0) rfl rfl (by simp [bS])) ?_
 refine bY (by rfl) ?_
 have e4 : aw2.1.gs.length = 1 := by kernel_rfl
 refine xK h (by omega) (by omega) ?_
 have e3 : (aa aw2.1 0).st = 4 := by kernel_rfl
 rw [e3]
 exact eY (k _ _ (Mem.le_trans hle (Mem.le_trans hle3 hle4)) (h.sub bz))
end
end Go.Proofs
