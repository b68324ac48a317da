/- A part of proofs about one program. -/
import Derived.Test.YtfjgcljdnhkmaaaGreatZWorldEnds5
set_option linter.unusedVariables false
namespace Go.Proofs
open Go.AF
set_option maxRecDepth 100000
set_option maxHeartbeats 1000000
attribute [local irreducible] bF dG fa dP aF eY aE b7 aO bj bJ aM
attribute [local irreducible] zd dO
section
variable {R : Mem} {L L' : List HP} {M : Mem} {K : Value → Mem → Prop} {Kp : List PanicEntry → Mem → Prop} {a : Al} {p : cy} {x : Wd} {g : Int} {i : bY} {d : Int}
def Wd.EK (p : cy) (x : Wd) (g : Int) (i : bY) : Wd := if (x.nK p i.a (aJ x g i.b)).2 = true then (x.nK p i.a (aJ x g i.b)).1
 else (x.bg i.a { aX x.av i.a with snd := (aX x.av i.a).snd ++ [⟨g, 0, aJ x g i.b⟩] }).mE g 2 i
def Wd.EL (x : Wd) (g : Int) (i : bY) : Wd := if (x.jW i.a).2.2.2 = true then ((x.jW i.a).1.aV g i.b (x.jW i.a).2.1).aV g i.c (x.jW i.a).2.2.1
 else (x.bg i.a { aX x.av i.a with cH := (aX x.av i.a).cH ++ [⟨g, 0, 0⟩] }).mE g 2 i
theorem GJ (h : Hp R L M) (hw : eN R a p x) (hg : aW x g) (hs : x.Sm) (hop : i.op = 13) (hb : aR i.b) (j0 : 0 ≤ i.a) (j1 : i.a < x.av.length) (hput : EG p x i.a (aJ x g i.b))
  (k : ∀ R' a' M', R.le R' → eN R' a' p (x.EK p g i) → Hp R' L M' → K (gD a' p (x.EK p g i)) M') :
  ae Tryz.prog 113 #[gD a p x, .int .i64 g, .agg #[.int .i64 i.op, .int .i64 i.a, .int .i64 i.b, .int .i64 i.c], .int .i64 d] M K Kp := by
 refine bn ?_
 obtain ⟨rs, bu, dU⟩ := hw.gs
 obtain ⟨g0, g1, g2, g3⟩ := id hg
 have hn := hs.2.2.1
 have td := hs.2.1
 refine ai h ?_
 clear h
 intro q1 M h
 refine ai h ?_
 clear h
 intro q3 M h
 refine ai h ?_
 clear h
 intro q5 M h
 obtain ⟨⟨oZ, rA, rn, rc, Cw⟩, hr, e1, e2, e3, e4⟩ := dU.at (bN g0 g1)
 dsimp only at e1 e2 e3 e4
 subst e1; subst e2; subst e4
 obtain ⟨b, o, j5⟩ := bu.some (by rw [dU.1]; omega) (by decide)
 rw [j5] at bu
 obtain ⟨bf, of, sV⟩ := e3.some (by omega) (by decide)
 subst sV
 refine ax h ⟨g0, g1, bB j5 ?_⟩
 refine aj (Src.at bu.src h hr (j := 0) rfl (by simp [uU])) ?_
 refine br (Src.at bu.src h hr (j := 1) rfl rfl) ?_
 refine aj (Src.at bu.src h hr (j := 2) rfl rfl) ?_
 refine aj (Src.at bu.src h hr (j := 3) rfl rfl) ?_
 refine aj (Src.at bu.src h hr (j := 4) rfl rfl) ?_
 refine aj (Src.at bu.src h hr (j := 5) rfl rfl) ?_
 refine ai h ?_
 clear h
 intro y8 M h
 repeat (refine ak h ?_; clear h; intro M h)
 refine ax h (ax h ?_)
 dsimp only
 rw [cP g2 (by omega)]
 refine ⟨by omega, by omega, aT ?_⟩
 rw [Int.toNat_natCast]
 have ht := bS g2
 refine aj (Src.at e3.src h ht (j := 0) rfl rfl) ?_
 refine aj (Src.at e3.src h ht (j := 1) rfl rfl) ?_
 refine aj (Src.at e3.src h ht (j := 2) rfl rfl) ?_
 refine aj (Src.at e3.src h ht (j := 3) rfl rfl) ?_
 refine aj (Src.at e3.src h ht (j := 4) rfl rfl) ?_
 refine aj (Src.at e3.src h ht (j := 5) rfl rfl) ?_
 refine aj (Src.at e3.src h ht (j := 6) rfl rfl) ?_
 refine aj (Src.at e3.src h ht (j := 7) rfl rfl) ?_
 refine aj (Src.at e3.src h ht (j := 8) rfl rfl) ?_
 refine aj (Src.at e3.src h ht (j := 9) rfl rfl) ?_
 refine aj (Src.at e3.src h ht (j := 10) rfl rfl) ?_
 refine ai h ?_
 clear h
 intro xR M h
 repeat (refine ak h ?_; clear h; intro M h)
 replace h : Hp R (pt xR (gQ (aa x g).top) tF :: pt y8 [.int .i64 (aa x g).st, .slice (some ⟨bf, of, none⟩) (aa x g).fs.length rc, .int .i64 (aa x g).wt.op, .int .i64 (aa x g).wt.a, .int .i64 (aa x g).wt.b, .int .i64 (aa x g).wt.c] tG :: pt q5 gz tW :: pt q3 [.int .i64 i.op, .int .i64 i.a, .int .i64 i.b, .int .i64 i.c] tI :: pt q1 (jZ a p x) tW :: L) M := h.sub bx
 refine az h ?_
 refine aD (by simp [hop]) ?_
 refine aD (by simp [hop]) ?_
 refine aD (by simp [hop]) ?_
 refine bV (by simp [hop]) ?_
 refine aI h rfl (az h (az h ⟨hb.1, hb.2, ?_⟩))
 refine aj (bP (j := 2 + i.b.toNat) h (dL hb.1 hb.2)) ⟨trivial, ?_⟩
 unfold Wd.EK at k
 refine Ez (v := aJ x g i.b) h hw j0 j1 hs hput.1 hput.2 ?_
 clear h; intro R1 a1 M l1 QZ h
 generalize (x.nK p i.a (aJ x g i.b)).2 = tb at k ⊢
 generalize (x.nK p i.a (aJ x g i.b)).1 = y at k QZ h ⊢
 refine ⟨jZ a1 p y, rfl, tb, rfl, ?_⟩
 refine ai h ?_
 clear h
 intro q280 M h
 refine bk h rfl rfl rfl ?_
 clear h; intro M h
 cases tb with
 | true =>
  rw [if_pos rfl] at k
  refine bV rfl ?_
  refine aI h rfl ?_
  refine bk h rfl rfl rfl ?_
  clear h; intro M h
  refine aI h rfl ?_
  exact k _ _ _ l1 QZ (h.sub bx)
 | false =>
  rw [if_neg (by decide)] at k
  refine aD rfl ?_
  obtain ⟨rch, wc, Gm⟩ := hw.av
  obtain ⟨r, MW, hrc⟩ := Gm.at (hU j0 j1)
  have ry := hs.1 _ (List.mem_of_getElem? (hU j0 j1))
  generalize P7 : aX x.av i.a = cc at hrc ry k
  obtain ⟨sm1, sm2, sm3⟩ := ry
  obtain ⟨A, ca, B, cb, D, cd, rfl, w1, w2, w3⟩ := hrc.eq
  obtain ⟨bc, oc, hbc⟩ := wc.some (by rw [Gm.1]; omega) (by decide)
  rw [hbc] at wc
  refine ax h (az h ⟨j0, j1, bB hbc ?_⟩)
  refine aj (Src.at (wc.le l1).src h MW (j := 0) rfl (by simp [xQ])) ?_
  refine br (Src.at (wc.le l1).src h MW (j := 1) rfl rfl) ?_
  refine br (Src.at (wc.le l1).src h MW (j := 2) rfl rfl) ?_
  refine br (Src.at (wc.le l1).src h MW (j := 3) rfl rfl) ?_
  refine uZ (Src.at (wc.le l1).src h MW (j := 4) rfl rfl) ?_
  refine ai h ?_
  clear h
  intro q303 M h
  repeat (refine ak h ?_; clear h; intro M h)
  refine ax h (az h ⟨hb.1, hb.2, ?_⟩)
  refine aj (bP (j := 2 + i.b.toNat) h (dL hb.1 hb.2)) ?_
  refine ai h ?_
  clear h
  intro q315 M h
  refine ⟨trivial, ?_⟩
  refine h.b6 cC g8 cc.snd (w2.le l1).src rfl (by omega) ?_
  clear h; intro A' c' M h
  refine aU ⟨bP (j := 2 + i.b.toNat) h (dL hb.1 hb.2), cw h, ?_⟩
  refine ai h ?_
  clear h
  intro q322 M h
  refine h.aZ (A := A') g8 [(⟨g, 0, aJ x g i.b⟩ : Wt)] rfl rfl (by simp only [List.length_singleton]; omega) ?_
  clear h; intro A2 c2 M h
  refine aU ⟨bP (j := 2 + i.b.toNat) h (dL hb.1 hb.2), cw h, ?_⟩
  refine ak h ?_
  clear h
  intro M h
  refine ⟨bP (j := 2 + i.b.toNat) h (dL hb.1 hb.2), cw h, ?_⟩
  obtain ⟨R2, l2, r2, h2⟩ := h.bz A2
  clear h
  refine aI h2 rfl (az h2 (az h2 (ax h2 (ax h2 (ax h2 (me h2 (az h2 (az h2 (az h2 (az h2 ?_))))))))))
  have w1' := w1.le (Mem.le_trans l1 l2)
  have w2' := w2.le (Mem.le_trans l1 l2)
  have w3' := w3.le (Mem.le_trans l1 l2)
  refine iU (r := ⟨cc.room, A, cc.buf.length, ca, A2, (cc.snd ++ [(⟨g, 0, aJ x g i.b⟩ : Wt)]).length, c2, D, cc.cH.length, cd, cc.closed⟩) (c := { cc with snd := cc.snd ++ [⟨g, 0, aJ x g i.b⟩] }) h2 (hw.le (Mem.le_trans l1 l2)) ⟨_, _, _, _, _, _, rfl, w1', r2, w3'⟩ j0 j1 (by omega) ?_
  clear h2; intro R3 a3 M l3 nJ h
  refine ⟨_, _, _, _, _, _, _, _, _, _, _, _, _, _, rfl, fy h rfl, ?_⟩
  refine gA (i := i) (s := 2) h nJ g0 g1 (by show x.gs.length ≤ _; omega) ?_
  clear h; intro R4 a4 M l4 Qq h
  refine ⟨_, _, _, _, _, _, _, _, _, _, _, _, _, _, rfl, fy h rfl, ?_⟩
  refine bk h rfl rfl rfl ?_
  clear h; intro M h
  refine ⟨fy h rfl, ?_⟩
  refine aI h rfl ?_
  exact k _ _ _ (Mem.le_trans l1 (Mem.le_trans l2 (Mem.le_trans l3 l4))) Qq (h.sub bx)
theorem GK (h : Hp R L M) (hw : eN R a p x) (hg : aW x g) (hs : x.Sm) (hop : i.op = 14) (hb : aR i.b) (hc : aR i.c) (j0 : 0 ≤ i.a) (j1 : i.a < x.av.length) (Du : EH x i.a)
  (k : ∀ R' a' M', R.le R' → eN R' a' p (x.EL g i) → Hp R' L M' → K (gD a' p (x.EL g i)) M') :
  ae Tryz.prog 113 #[gD a p x, .int .i64 g, .agg #[.int .i64 i.op, .int .i64 i.a, .int .i64 i.b, .int .i64 i.c], .int .i64 d] M K Kp := by
 refine bn ?_
 obtain ⟨rs, bu, dU⟩ := hw.gs
 obtain ⟨g0, g1, g2, g3⟩ := id hg
 have hn := hs.2.2.1
 have td := hs.2.1
 refine ai h ?_
 clear h
 intro q1 M h
 refine ai h ?_
 clear h
 intro q3 M h
 refine ai h ?_
 clear h
 intro q5 M h
 obtain ⟨⟨oZ, rA, rn, rc, Cw⟩, hr, e1, e2, e3, e4⟩ := dU.at (bN g0 g1)
 dsimp only at e1 e2 e3 e4
 subst e1; subst e2; subst e4
 obtain ⟨b, o, j5⟩ := bu.some (by rw [dU.1]; omega) (by decide)
 rw [j5] at bu
 obtain ⟨bf, of, sV⟩ := e3.some (by omega) (by decide)
 subst sV
 refine ax h ⟨g0, g1, bB j5 ?_⟩
 refine aj (Src.at bu.src h hr (j := 0) rfl (by simp [uU])) ?_
 refine br (Src.at bu.src h hr (j := 1) rfl rfl) ?_
 refine aj (Src.at bu.src h hr (j := 2) rfl rfl) ?_
 refine aj (Src.at bu.src h hr (j := 3) rfl rfl) ?_
 refine aj (Src.at bu.src h hr (j := 4) rfl rfl) ?_
 refine aj (Src.at bu.src h hr (j := 5) rfl rfl) ?_
 refine ai h ?_
 clear h
 intro y8 M h
 repeat (refine ak h ?_; clear h; intro M h)
 refine ax h (ax h ?_)
 dsimp only
 rw [cP g2 (by omega)]
 refine ⟨by omega, by omega, aT ?_⟩
 rw [Int.toNat_natCast]
 have ht := bS g2
 refine aj (Src.at e3.src h ht (j := 0) rfl rfl) ?_
 refine aj (Src.at e3.src h ht (j := 1) rfl rfl) ?_
 refine aj (Src.at e3.src h ht (j := 2) rfl rfl) ?_
 refine aj (Src.at e3.src h ht (j := 3) rfl rfl) ?_
 refine aj (Src.at e3.src h ht (j := 4) rfl rfl) ?_
 refine aj (Src.at e3.src h ht (j := 5) rfl rfl) ?_
 refine aj (Src.at e3.src h ht (j := 6) rfl rfl) ?_
 refine aj (Src.at e3.src h ht (j := 7) rfl rfl) ?_
 refine aj (Src.at e3.src h ht (j := 8) rfl rfl) ?_
 refine aj (Src.at e3.src h ht (j := 9) rfl rfl) ?_
 refine aj (Src.at e3.src h ht (j := 10) rfl rfl) ?_
 refine ai h ?_
 clear h
 intro xR M h
 repeat (refine ak h ?_; clear h; intro M h)
 replace h : Hp R (pt xR (gQ (aa x g).top) tF :: pt y8 [.int .i64 (aa x g).st, .slice (some ⟨bf, of, none⟩) (aa x g).fs.length rc, .int .i64 (aa x g).wt.op, .int .i64 (aa x g).wt.a, .int .i64 (aa x g).wt.b, .int .i64 (aa x g).wt.c] tG :: pt q5 gz tW :: pt q3 [.int .i64 i.op, .int .i64 i.a, .int .i64 i.b, .int .i64 i.c] tI :: pt q1 (jZ a p x) tW :: L) M := h.sub bx
 refine az h ?_
 refine aD (by simp [hop]) ?_
 refine aD (by simp [hop]) ?_
 refine aD (by simp [hop]) ?_
 refine aD (by simp [hop]) ?_
 refine bV (by simp [hop]) ?_
 refine aI h rfl (az h ?_)
 unfold Wd.EL at k
 refine EA h hw j0 j1 hs Du.1 Du.2 ?_
 have Nh : bT x (x.jW i.a).1 := bT.jW
 clear h; intro R1 a1 M l1 QZ h
 generalize (x.jW i.a).2.1 = n1 at k ⊢
 generalize (x.jW i.a).2.2.1 = n2 at k ⊢
 generalize (x.jW i.a).2.2.2 = tb at k ⊢
 generalize (x.jW i.a).1 = y at k QZ h Nh ⊢
 refine ⟨jZ a1 p y, rfl, n1, n2, tb, rfl, ?_⟩
 refine ai h ?_
 clear h
 intro q389 M h
 refine bk h rfl rfl rfl ?_
 clear h; intro M h
 cases tb with
 | true =>
  rw [if_pos rfl] at k
  refine bV rfl ?_
  refine aI h rfl (az h (az h ?_))
  refine fC h QZ (Nh.ok hg) (by rw [Nh.1]; omega) hb ?_
  clear h; intro R2 a2 M l2 cv h
  refine ⟨_, _, _, _, _, _, _, _, _, _, _, _, _, _, rfl, cw h, ?_⟩
  refine fC h cv ((Nh.trans bT.bH).ok hg) (by rw [(Nh.trans bT.bH).1]; omega) hc ?_
  clear h; intro R3 a3 M l3 nJ h
  refine ⟨_, _, _, _, _, _, _, _, _, _, _, _, _, _, rfl, cw h, ?_⟩
  refine bk h rfl rfl rfl ?_
  clear h; intro M h
  refine ⟨cw h, ?_⟩
  refine aI h rfl ?_
  exact k _ _ _ (Mem.le_trans l1 (Mem.le_trans l2 l3)) nJ (h.sub bx)
 | false =>
  rw [if_neg (by decide)] at k
  refine aD rfl ?_
  obtain ⟨rch, wc, Gm⟩ := hw.av
  obtain ⟨r, MW, hrc⟩ := Gm.at (hU j0 j1)
  have ry := hs.1 _ (List.mem_of_getElem? (hU j0 j1))
  generalize P7 : aX x.av i.a = cc at hrc ry k
  obtain ⟨sm1, sm2, sm3⟩ := ry
  obtain ⟨A, ca, B, cb, D, cd, rfl, w1, w2, w3⟩ := hrc.eq
  obtain ⟨bc, oc, hbc⟩ := wc.some (by rw [Gm.1]; omega) (by decide)
  rw [hbc] at wc
  refine ax h (az h ⟨j0, j1, bB hbc ?_⟩)
  refine aj (Src.at (wc.le l1).src h MW (j := 0) rfl (by simp [xQ])) ?_
  refine br (Src.at (wc.le l1).src h MW (j := 1) rfl rfl) ?_
  refine br (Src.at (wc.le l1).src h MW (j := 2) rfl rfl) ?_
  refine br (Src.at (wc.le l1).src h MW (j := 3) rfl rfl) ?_
  refine uZ (Src.at (wc.le l1).src h MW (j := 4) rfl rfl) ?_
  refine ai h ?_
  clear h
  intro q303 M h
  repeat (refine ak h ?_; clear h; intro M h)
  refine ai h ?_
  clear h
  intro q453 M h
  refine ax h ?_
  refine h.b6 cC g8 cc.cH (w3.le l1).src rfl (by omega) ?_
  clear h; intro A' c' M h
  refine aU ?_
  refine ai h ?_
  clear h
  intro q463 M h
  refine h.aZ (A := A') g8 [(⟨g, 0, 0⟩ : Wt)] rfl rfl (by simp only [List.length_singleton]; omega) ?_
  clear h; intro A2 c2 M h
  refine aU ?_
  refine ak h ?_
  clear h
  intro M h
  obtain ⟨R2, l2, r2, h2⟩ := h.bz A2
  clear h
  refine aI h2 rfl (az h2 (az h2 (ax h2 (ax h2 (ax h2 (me h2 (az h2 (az h2 (az h2 (az h2 ?_))))))))))
  have w1' := w1.le (Mem.le_trans l1 l2)
  have w2' := w2.le (Mem.le_trans l1 l2)
  have w3' := w3.le (Mem.le_trans l1 l2)
  refine iU (r := ⟨cc.room, A, cc.buf.length, ca, B, cc.snd.length, cb, A2, (cc.cH ++ [(⟨g, 0, 0⟩ : Wt)]).length, c2, cc.closed⟩) (c := { cc with cH := cc.cH ++ [⟨g, 0, 0⟩] }) h2 (hw.le (Mem.le_trans l1 l2)) ⟨_, _, _, _, _, _, rfl, w1', w2', r2⟩ j0 j1 (by omega) ?_
  clear h2; intro R3 a3 M l3 nJ h
  refine ⟨_, _, _, _, _, _, _, _, _, _, _, _, _, _, rfl, fy h rfl, ?_⟩
  refine gA (i := i) (s := 2) h nJ g0 g1 (by show x.gs.length ≤ _; omega) ?_
  clear h; intro R4 a4 M l4 Qq h
  refine ⟨_, _, _, _, _, _, _, _, _, _, _, _, _, _, rfl, fy h rfl, ?_⟩
  refine bk h rfl rfl rfl ?_
  clear h; intro M h
  refine ⟨fy h rfl, ?_⟩
  refine aI h rfl ?_
  exact k _ _ _ (Mem.le_trans l1 (Mem.le_trans l2 (Mem.le_trans l3 l4))) Qq (h.sub bx)
end
section
variable {R : Mem} {L L' : List HP} {M : Mem} {K : Value → Mem → Prop} {Kp : List PanicEntry → Mem → Prop} {a : Al} {p : cy} {x : Wd} {g : Int} {i : bY} {d : Int}
def Wd.CB (x : Wd) (f v : Int) : Wd := { x with gs := x.gs ++ [⟨0, [eJ.begin f v], .zero⟩] }
def Wd.y9 (x : Wd) (g : Int) (i : bY) : Wd := if 100 ≤ x.gs.length then x.iB (-5) else
 ((x.CB i.a (aJ x g i.b)).eX (x.gs.length : Int)).aV g i.c (x.gs.length : Int)
def za (l : Lk) (g : Int) : Lk := (l.take g).1
def Wd.EM (x : Wd) (g : Int) (i : bY) : Wd := if (cR x i.a).owner = -1 then x.da i.a (za (cR x i.a) g) else (x.da i.a (za (cR x i.a) g)).mE g 2 i
def Wd.tR (x : Wd) (g : Int) (i : bY) : Wd :=
 if ((cR x i.a).gR g).2.2 ≠ 0 then x.iB (-3)
 else if 0 ≤ ((cR x i.a).gR g).2.1 then (x.da i.a ((cR x i.a).gR g).1).eX ((cR x i.a).gR g).2.1 else x.da i.a ((cR x i.a).gR g).1
theorem Yr {f v q : Int} (h1 : q.toNat < x.gs.length) : aa (x.CB f v) q = aa x q := by
 unfold aa Wd.CB
 rw [List.getD_eq_getElem?_getD, List.getD_eq_getElem?_getD, List.getElem?_append_left h1]
theorem Vi {l : Lk} {g : Int} (hg : g ≠ -1) (hl : l.owner = -1 → l.waits = []) : vY (za l g) = vY l ++ [g] := by
 unfold za Lk.take vY
 by_cases h : l.owner = -1
 ·simp [h, hg, hl h]
 ·simp [h]
theorem CC {j : Int} (h0 : 0 ≤ j) (h1 : j < x.aC.length) : x.aC[j.toNat]? = some (cR x j) := by
 unfold cR
 rw [List.getD_eq_getElem?_getD, List.getElem?_eq_getElem (by omega)]; rfl
def CD (l : Lk) : Prop := (l.owner = -1 → l.waits = []) ∧ (∀ w ∈ l.waits, w ≠ -1) ∧ l.waits.length ≤ 100000
theorem Om {l : Lk} : (vY l).length ≤ l.waits.length + 1 := by
 unfold vY; split <;> simp
theorem Vj {l : Lk} : (((vY l).length : Int) == 0) = decide (l.owner = -1) := by
 unfold vY; split
 ·rename_i h; simp [h]
 ·rename_i h; simp [h]; omega
theorem GL (h : Hp R L M) (hw : eN R a p x) (hg : aW x g) (hs : x.Sm) (hop : i.op = 11) (hb : aR i.b) (hc : aR i.c)
  (k : ∀ R' a' M', R.le R' → eN R' a' p (x.y9 g i) → Hp R' L M' → K (gD a' p (x.y9 g i)) M') :
  ae Tryz.prog 113 #[gD a p x, .int .i64 g, .agg #[.int .i64 i.op, .int .i64 i.a, .int .i64 i.b, .int .i64 i.c], .int .i64 d] M K Kp := by
 refine bn ?_
 obtain ⟨rs, bu, dU⟩ := hw.gs
 obtain ⟨g0, g1, g2, g3⟩ := id hg
 have hn := hs.2.2.1
 have td := hs.2.1
 refine ai h ?_
 clear h
 intro q1 M h
 refine ai h ?_
 clear h
 intro q3 M h
 refine ai h ?_
 clear h
 intro q5 M h
 obtain ⟨⟨oZ, rA, rn, rc, Cw⟩, hr, e1, e2, e3, e4⟩ := dU.at (bN g0 g1)
 dsimp only at e1 e2 e3 e4
 subst e1; subst e2; subst e4
 obtain ⟨b, o, j5⟩ := bu.some (by rw [dU.1]; omega) (by decide)
 rw [j5] at bu
 obtain ⟨bf, of, sV⟩ := e3.some (by omega) (by decide)
 subst sV
 refine ax h ⟨g0, g1, bB j5 ?_⟩
 refine aj (Src.at bu.src h hr (j := 0) rfl (by simp [uU])) ?_
 refine br (Src.at bu.src h hr (j := 1) rfl rfl) ?_
 refine aj (Src.at bu.src h hr (j := 2) rfl rfl) ?_
 refine aj (Src.at bu.src h hr (j := 3) rfl rfl) ?_
 refine aj (Src.at bu.src h hr (j := 4) rfl rfl) ?_
 refine aj (Src.at bu.src h hr (j := 5) rfl rfl) ?_
 refine ai h ?_
 clear h
 intro y8 M h
 repeat (refine ak h ?_; clear h; intro M h)
 refine ax h (ax h ?_)
 dsimp only
 rw [cP g2 (by omega)]
 refine ⟨by omega, by omega, aT ?_⟩
 rw [Int.toNat_natCast]
 have ht := bS g2
 refine aj (Src.at e3.src h ht (j := 0) rfl rfl) ?_
 refine aj (Src.at e3.src h ht (j := 1) rfl rfl) ?_
 refine aj (Src.at e3.src h ht (j := 2) rfl rfl) ?_
 refine aj (Src.at e3.src h ht (j := 3) rfl rfl) ?_
 refine aj (Src.at e3.src h ht (j := 4) rfl rfl) ?_
 refine aj (Src.at e3.src h ht (j := 5) rfl rfl) ?_
 refine aj (Src.at e3.src h ht (j := 6) rfl rfl) ?_
 refine aj (Src.at e3.src h ht (j := 7) rfl rfl) ?_
 refine aj (Src.at e3.src h ht (j := 8) rfl rfl) ?_
 refine aj (Src.at e3.src h ht (j := 9) rfl rfl) ?_
 refine aj (Src.at e3.src h ht (j := 10) rfl rfl) ?_
 refine ai h ?_
 clear h
 intro xR M h
 repeat (refine ak h ?_; clear h; intro M h)
 replace h : Hp R (pt xR (gQ (aa x g).top) tF :: pt y8 [.int .i64 (aa x g).st, .slice (some ⟨bf, of, none⟩) (aa x g).fs.length rc, .int .i64 (aa x g).wt.op, .int .i64 (aa x g).wt.a, .int .i64 (aa x g).wt.b, .int .i64 (aa x g).wt.c] tG :: pt q5 gz tW :: pt q3 [.int .i64 i.op, .int .i64 i.a, .int .i64 i.b, .int .i64 i.c] tI :: pt q1 (jZ a p x) tW :: L) M := h.sub bx
 refine az h ?_
 refine aD (by simp [hop]) ?_
 refine aD (by simp [hop]) ?_
 refine bV (by simp [hop]) ?_
 unfold Wd.y9 at k
 refine ax h ?_
 refine aH.2 ⟨fun hp => ?_, fun hp => ?_⟩
 ·rw [if_pos (by omega)] at k
  refine aI h rfl ?_
  refine gB h hw ?_
  clear h; intro M cv h
  refine ⟨_, _, _, _, _, _, _, _, _, _, _, _, _, _, rfl, ?_⟩
  refine bk h rfl rfl rfl ?_
  clear h; intro M h
  refine aI h rfl ?_
  exact k _ _ _ (Mem.le_refl R) cv (h.sub bx)
 ·rw [if_neg (by omega)] at k
  have GM := bu
  refine ax h (ax h (az h (az h ⟨hb.1, hb.2, ?_⟩)))
  refine aj (bP (j := 2 + i.b.toNat) h (dL hb.1 hb.2)) ?_
  refine ai h ?_
  clear h
  intro q216 M h
  refine h.b6 uU Vf rs (B := a.ag) (by rw [j5]; exact bu.src) dU.1.symm (by rw [dU.1]; omega) ?_
  clear h; intro A' c' M h
  refine aU ⟨bP (j := 2 + i.b.toNat) h (dL hb.1 hb.2), cw h, cw h, ?_⟩
  refine sU h ?_
  clear h; intro R1 B cB M l1 rB h
  refine aU ⟨bP (j := 2 + i.b.toNat) h (dL hb.1 hb.2), cw h, cw h, ?_⟩
  refine ai h ?_
  clear h
  intro q228 M h
  refine h.aZ (A := A') Vf [(⟨0, B, 1, cB, .zero⟩ : RG)] rfl rfl (by simp only [List.length_singleton, dU.1]; omega) ?_
  clear h; intro A2 c2 M h
  refine aU ⟨bP (j := 2 + i.b.toNat) h (dL hb.1 hb.2), cw h, cw h, ?_⟩
  refine ak h ?_
  clear h
  intro M h
  refine ⟨bP (j := 2 + i.b.toNat) h (dL hb.1 hb.2), cw h, cw h, ?_⟩
  obtain ⟨R2, l2, r2, h2⟩ := h.bz A2
  clear h
  have cv := hw.le (Mem.le_trans l1 l2)
  have hz : eN R2 { a with ag := A2, cg := c2 } p (x.CB i.a (aJ x g i.b)) := ⟨cv.AO, cv.dB, ⟨_, r2, (dU.le Ak.le (Mem.le_trans l1 l2)).snoc ⟨rfl, rfl, rB.le l2, rfl⟩⟩, cv.av, cv.aC, cv.hl, cv.out, cv.ready⟩
  have el : (rs ++ [(⟨0, B, 1, cB, .zero⟩ : RG)]).length = (x.CB i.a (aJ x g i.b)).gs.length := by simp [Wd.CB, dU.1]
  rw [el] at h2
  have Oj : (x.CB i.a (aJ x g i.b)).gs.length = x.gs.length + 1 := by simp [Wd.CB]
  have AK : aW (x.CB i.a (aJ x g i.b)) g := by
   refine ⟨g0, by rw [Oj]; omega, ?_, ?_⟩ <;> rw [Yr (by omega)] <;> assumption
  have hrd := hs.2.2.2.1
  generalize AH : x.CB i.a (aJ x g i.b) = x1 at k hz h2 Oj AK
  have hrd1 : x1.ready.length ≤ 1000000 := by subst AH; exact hrd
  have h3 : Hp R2 (pt q1 (jZ { a with ag := A2, cg := c2 } p x1) tW :: pt q3 [.int .i64 i.op, .int .i64 i.a, .int .i64 i.b, .int .i64 i.c] tI :: pt q5 gz tW :: L) M := by subst AH; exact h2.sub bx
  clear h2
  refine aI h3 rfl (az h3 ?_)
  refine jm h3 hz (by omega) (by rw [Oj]; omega) (by rw [Oj]; omega) hrd1 ?_
  clear h3; intro R3 a3 M l3 nJ h
  refine ⟨_, _, _, _, _, _, _, _, _, _, _, _, _, _, rfl, cw h, ?_⟩
  refine fC h nJ (bT.eX.ok AK) (by rw [Jy, Oj]; omega) hc ?_
  clear h; intro R4 a4 M l4 Qq h
  refine ⟨_, _, _, _, _, _, _, _, _, _, _, _, _, _, rfl, cw h, ?_⟩
  refine bk h rfl rfl rfl ?_
  clear h; intro M h
  refine ⟨cw h, ?_⟩
  refine aI h rfl ?_
  exact k _ _ _ (Mem.le_trans l1 (Mem.le_trans l2 (Mem.le_trans l3 l4))) Qq (h.sub bx)
end
section
variable {R : Mem} {L L' : List HP} {M : Mem} {K : Value → Mem → Prop} {Kp : List PanicEntry → Mem → Prop} {a : Al} {p : cy} {x : Wd} {g : Int} {i : bY} {d : Int}
theorem Ni {R R1 R2 : Mem} {ls : List (Option Addr × Nat × Nat)} {A2 : Option Addr} {c2 : Nat} {j : Int} {t : Option Addr × Nat × Nat} {l : Lk} (hw : eN R a p x) (Q1 : Jw Qo R ls x.aC) (l1 : R.le R1) (l2 : R1.le R2)
  (r2 : RS sN R2 A2 c2 (ls.set j.toNat t)) (ht : Qo R1 t l) : eN R2 { a with al := A2, cl := c2 } p (x.da j l) := by
 have cv := hw.le (Mem.le_trans l1 l2)
 exact ⟨cv.AO, cv.dB, cv.gs, cv.av, ⟨_, r2, ((Q1.le Qo.le (Mem.le_trans l1 l2)).set _ (Qo.le _ _ _ _ l2 ht))⟩, cv.hl, cv.out, cv.ready⟩
theorem Ys {l : Lk} {g : Int} (h : ∀ us, vY l ≠ g :: us) : (l.gR g).2.2 ≠ 0 := by
 unfold Lk.gR
 split
 ·show (5 : Int) ≠ 0; decide
 ·rename_i hn
  exfalso
  refine h l.waits ?_
  unfold vY
  rw [if_neg (fun e => hn (.inl e))]
  rw [show l.owner = g from Classical.byContradiction fun e => hn (.inr e)]
theorem JC {l : Lk} {g : Int} {us : List Int} (hg : g ≠ -1) (h : vY l = g :: us) : l.gR g = (⟨us.headD (-1), us.tail⟩, us.headD (-1), 0) ∧ l.waits = us := by
 unfold vY at h
 split at h
 ·cases h
 ·rename_i ho
  simp only [List.cons.injEq] at h
  obtain ⟨h1, h2⟩ := h
  unfold Lk.gR
  rw [if_neg (by rintro (e | e); exact ho e; exact e h1), h2]
  exact ⟨rfl, rfl⟩
theorem GN (h : Hp R L M) (hw : eN R a p x) (hg : aW x g) (hs : x.Sm) (hop : i.op = 18) (j0 : 0 ≤ i.a) (j1 : i.a < x.aC.length) (hlg : CD (cR x i.a))
  (k : ∀ R' a' M', R.le R' → eN R' a' p (x.EM g i) → Hp R' L M' → K (gD a' p (x.EM g i)) M') :
  ae Tryz.prog 113 #[gD a p x, .int .i64 g, .agg #[.int .i64 i.op, .int .i64 i.a, .int .i64 i.b, .int .i64 i.c], .int .i64 d] M K Kp := by
 refine bn ?_
 obtain ⟨rs, bu, dU⟩ := hw.gs
 obtain ⟨g0, g1, g2, g3⟩ := id hg
 have hn := hs.2.2.1
 have td := hs.2.1
 refine ai h ?_
 clear h
 intro q1 M h
 refine ai h ?_
 clear h
 intro q3 M h
 refine ai h ?_
 clear h
 intro q5 M h
 obtain ⟨⟨oZ, rA, rn, rc, Cw⟩, hr, e1, e2, e3, e4⟩ := dU.at (bN g0 g1)
 dsimp only at e1 e2 e3 e4
 subst e1; subst e2; subst e4
 obtain ⟨b, o, j5⟩ := bu.some (by rw [dU.1]; omega) (by decide)
 rw [j5] at bu
 obtain ⟨bf, of, sV⟩ := e3.some (by omega) (by decide)
 subst sV
 refine ax h ⟨g0, g1, bB j5 ?_⟩
 refine aj (Src.at bu.src h hr (j := 0) rfl (by simp [uU])) ?_
 refine br (Src.at bu.src h hr (j := 1) rfl rfl) ?_
 refine aj (Src.at bu.src h hr (j := 2) rfl rfl) ?_
 refine aj (Src.at bu.src h hr (j := 3) rfl rfl) ?_
 refine aj (Src.at bu.src h hr (j := 4) rfl rfl) ?_
 refine aj (Src.at bu.src h hr (j := 5) rfl rfl) ?_
 refine ai h ?_
 clear h
 intro y8 M h
 repeat (refine ak h ?_; clear h; intro M h)
 refine ax h (ax h ?_)
 dsimp only
 rw [cP g2 (by omega)]
 refine ⟨by omega, by omega, aT ?_⟩
 rw [Int.toNat_natCast]
 have ht := bS g2
 refine aj (Src.at e3.src h ht (j := 0) rfl rfl) ?_
 refine aj (Src.at e3.src h ht (j := 1) rfl rfl) ?_
 refine aj (Src.at e3.src h ht (j := 2) rfl rfl) ?_
 refine aj (Src.at e3.src h ht (j := 3) rfl rfl) ?_
 refine aj (Src.at e3.src h ht (j := 4) rfl rfl) ?_
 refine aj (Src.at e3.src h ht (j := 5) rfl rfl) ?_
 refine aj (Src.at e3.src h ht (j := 6) rfl rfl) ?_
 refine aj (Src.at e3.src h ht (j := 7) rfl rfl) ?_
 refine aj (Src.at e3.src h ht (j := 8) rfl rfl) ?_
 refine aj (Src.at e3.src h ht (j := 9) rfl rfl) ?_
 refine aj (Src.at e3.src h ht (j := 10) rfl rfl) ?_
 refine ai h ?_
 clear h
 intro xR M h
 repeat (refine ak h ?_; clear h; intro M h)
 replace h : Hp R (pt xR (gQ (aa x g).top) tF :: pt y8 [.int .i64 (aa x g).st, .slice (some ⟨bf, of, none⟩) (aa x g).fs.length rc, .int .i64 (aa x g).wt.op, .int .i64 (aa x g).wt.a, .int .i64 (aa x g).wt.b, .int .i64 (aa x g).wt.c] tG :: pt q5 gz tW :: pt q3 [.int .i64 i.op, .int .i64 i.a, .int .i64 i.b, .int .i64 i.c] tI :: pt q1 (jZ a p x) tW :: L) M := h.sub bx
 refine az h ?_
 refine aD (by simp [hop]) ?_
 refine aD (by simp [hop]) ?_
 refine aD (by simp [hop]) ?_
 refine aD (by simp [hop]) ?_
 refine aD (by simp [hop]) ?_
 refine aD (by simp [hop]) ?_
 refine aD (by simp [hop]) ?_
 refine aD (by simp [hop]) ?_
 refine bV (by simp [hop]) ?_
 unfold Wd.EM at k
 obtain ⟨ls, hls, Q1⟩ := hw.aC
 obtain ⟨⟨A, n, c⟩, JD, hn3, mN⟩ := Q1.at (CC j0 j1)
 dsimp only at hn3 mN
 have hrow : Qo R (A, n, c) (cR x i.a) := ⟨hn3, mN⟩
 obtain ⟨b1, o1, kW⟩ := hls.some (by rw [Q1.1]; omega) (by decide)
 have Yt := hls
 rw [kW] at hls
 have uV : ls.length = x.aC.length := Q1.1
 have hlb := hs.2.2.2.2.2.2.1
 generalize hll0 : cR x i.a = l0 at hrow mN hn3 hlg k
 have hlen := Om (l := l0)
 obtain ⟨lg1, lg2, lg3⟩ := hlg
 refine ax h (az h ⟨j0, j1, bB kW ?_⟩)
 refine br (Src.at hls.src h JD (j := 0) rfl (by show _ = o1 + (_ * 1 + 0); omega)) ?_
 refine Na (l := l0) (t := (A, n, c)) h hrow (by omega) ?_
 clear h; intro R1 A' c' M l1 r1 h
 refine ⟨_, _, _, _, rfl, ?_⟩
 rw [Vj]
 refine ai h ?_
 clear h
 intro q617 M h
 refine ak h ?_
 clear h
 intro M h
 have Yu := Vi (l := l0) (g := g) (by omega) lg1
 generalize VZ : za l0 g = zb at k Yu
 rw [← Yu] at r1 h
 refine ai h ?_
 clear h
 intro q620 M h
 refine ax h ?_
 refine h.b6 sN Gw ls (Yt.le l1).src uV.symm (by rw [uV]; omega) ?_
 clear h; intro A2 c2 M h
 refine aU ?_
 refine ak h ?_
 clear h
 intro M h
 refine ax h (az h (ax h ⟨j0, by rw [uV]; exact j1, ?_⟩))
 obtain ⟨qr, rfl⟩ := h.bU (A := A2) (by rw [uV]; omega) (by decide)
 refine aT ?_
 refine gK i.a.toNat 0 h JD (by decide) (a' := (A', (vY zb).length, c')) rfl (by show _ = i.a.toNat * 1 + 0; omega) ?_
 clear h; intro M h
 obtain ⟨R2, l2, r2, h2⟩ := h.bz (some ⟨qr, 0, none⟩)
 clear h
 have hz := Ni (j := i.a) (l := zb) hw Q1 l1 l2 r2 ⟨rfl, r1⟩
 have el : (ls).length = (x.da i.a zb).aC.length := by simp [Wd.da, uV]
 rw [el] at h2
 have h3 : Hp R2 (pt q1 (jZ { a with al := some ⟨qr, 0, none⟩, cl := c2 } p (x.da i.a zb)) tW :: pt q3 [.int .i64 i.op, .int .i64 i.a, .int .i64 i.b, .int .i64 i.c] tI :: pt q5 gz tW :: L) M := h2.sub bx
 clear h2
 by_cases hf : l0.owner = -1
 ·rw [if_pos hf] at k
  refine aD (by simp [hf]) ?_
  refine aI h3 rfl ?_
  refine bk h3 rfl rfl rfl ?_
  clear h3; intro M h
  refine aI h rfl ?_
  exact k _ _ _ (Mem.le_trans l1 l2) hz (h.sub bx)
 ·rw [if_neg hf] at k
  refine bV (by simp [hf]) ?_
  refine aI h3 rfl (az h3 (az h3 (az h3 (az h3 ?_))))
  refine gA (i := i) (s := 2) h3 hz g0 g1 (by show x.gs.length ≤ _; omega) ?_
  clear h3; intro R3 a3 M l3 nJ h
  refine ⟨_, _, _, _, _, _, _, _, _, _, _, _, _, _, rfl, ?_⟩
  refine bk h rfl rfl rfl ?_
  clear h; intro M h
  refine aI h rfl ?_
  exact k _ _ _ (Mem.le_trans l1 (Mem.le_trans l2 l3)) nJ (h.sub bx)
theorem GO (h : Hp R L M) (hw : eN R a p x) (hg : aW x g) (hs : x.Sm) (hop : i.op = 19) (j0 : 0 ≤ i.a) (j1 : i.a < x.aC.length) (hlg : CD (cR x i.a)) (hwk : ∀ w ∈ (cR x i.a).waits, 0 ≤ w ∧ w < x.gs.length)
  (k : ∀ R' a' M', R.le R' → eN R' a' p (x.tR g i) → Hp R' L M' → K (gD a' p (x.tR g i)) M') :
  ae Tryz.prog 113 #[gD a p x, .int .i64 g, .agg #[.int .i64 i.op, .int .i64 i.a, .int .i64 i.b, .int .i64 i.c], .int .i64 d] M K Kp := by
 refine bn ?_
 obtain ⟨rs, bu, dU⟩ := hw.gs
 obtain ⟨g0, g1, g2, g3⟩ := id hg
 have hn := hs.2.2.1
 have td := hs.2.1
 refine ai h ?_
 clear h
 intro q1 M h
 refine ai h ?_
 clear h
 intro q3 M h
 refine ai h ?_
 clear h
 intro q5 M h
 obtain ⟨⟨oZ, rA, rn, rc, Cw⟩, hr, e1, e2, e3, e4⟩ := dU.at (bN g0 g1)
 dsimp only at e1 e2 e3 e4
 subst e1; subst e2; subst e4
 obtain ⟨b, o, j5⟩ := bu.some (by rw [dU.1]; omega) (by decide)
 rw [j5] at bu
 obtain ⟨bf, of, sV⟩ := e3.some (by omega) (by decide)
 subst sV
 refine ax h ⟨g0, g1, bB j5 ?_⟩
 refine aj (Src.at bu.src h hr (j := 0) rfl (by simp [uU])) ?_
 refine br (Src.at bu.src h hr (j := 1) rfl rfl) ?_
 refine aj (Src.at bu.src h hr (j := 2) rfl rfl) ?_
 refine aj (Src.at bu.src h hr (j := 3) rfl rfl) ?_
 refine aj (Src.at bu.src h hr (j := 4) rfl rfl) ?_
 refine aj (Src.at bu.src h hr (j := 5) rfl rfl) ?_
 refine ai h ?_
 clear h
 intro y8 M h
 repeat (refine ak h ?_; clear h; intro M h)
 refine ax h (ax h ?_)
 dsimp only
 rw [cP g2 (by omega)]
 refine ⟨by omega, by omega, aT ?_⟩
 rw [Int.toNat_natCast]
 have ht := bS g2
 refine aj (Src.at e3.src h ht (j := 0) rfl rfl) ?_
 refine aj (Src.at e3.src h ht (j := 1) rfl rfl) ?_
 refine aj (Src.at e3.src h ht (j := 2) rfl rfl) ?_
 refine aj (Src.at e3.src h ht (j := 3) rfl rfl) ?_
 refine aj (Src.at e3.src h ht (j := 4) rfl rfl) ?_
 refine aj (Src.at e3.src h ht (j := 5) rfl rfl) ?_
 refine aj (Src.at e3.src h ht (j := 6) rfl rfl) ?_
 refine aj (Src.at e3.src h ht (j := 7) rfl rfl) ?_
 refine aj (Src.at e3.src h ht (j := 8) rfl rfl) ?_
 refine aj (Src.at e3.src h ht (j := 9) rfl rfl) ?_
 refine aj (Src.at e3.src h ht (j := 10) rfl rfl) ?_
 refine ai h ?_
 clear h
 intro xR M h
 repeat (refine ak h ?_; clear h; intro M h)
 replace h : Hp R (pt xR (gQ (aa x g).top) tF :: pt y8 [.int .i64 (aa x g).st, .slice (some ⟨bf, of, none⟩) (aa x g).fs.length rc, .int .i64 (aa x g).wt.op, .int .i64 (aa x g).wt.a, .int .i64 (aa x g).wt.b, .int .i64 (aa x g).wt.c] tG :: pt q5 gz tW :: pt q3 [.int .i64 i.op, .int .i64 i.a, .int .i64 i.b, .int .i64 i.c] tI :: pt q1 (jZ a p x) tW :: L) M := h.sub bx
 refine az h ?_
 refine aD (by simp [hop]) ?_
 refine aD (by simp [hop]) ?_
 refine aD (by simp [hop]) ?_
 refine aD (by simp [hop]) ?_
 refine aD (by simp [hop]) ?_
 refine aD (by simp [hop]) ?_
 refine aD (by simp [hop]) ?_
 refine aD (by simp [hop]) ?_
 refine aD (by simp [hop]) ?_
 refine bV (by simp [hop]) ?_
 unfold Wd.tR at k
 obtain ⟨ls, hls, Q1⟩ := hw.aC
 obtain ⟨⟨A, n, c⟩, JD, hn3, mN⟩ := Q1.at (CC j0 j1)
 dsimp only at hn3 mN
 have hrow : Qo R (A, n, c) (cR x i.a) := ⟨hn3, mN⟩
 obtain ⟨b1, o1, kW⟩ := hls.some (by rw [Q1.1]; omega) (by decide)
 have Yt := hls
 rw [kW] at hls
 have uV : ls.length = x.aC.length := Q1.1
 have hlb := hs.2.2.2.2.2.2.1
 generalize hll0 : cR x i.a = l0 at hrow mN hn3 hlg hwk k
 have hlen := Om (l := l0)
 obtain ⟨lg1, lg2, lg3⟩ := hlg
 refine ax h (az h ⟨j0, j1, bB kW ?_⟩)
 refine br (Src.at hls.src h JD (j := 0) rfl (by show _ = o1 + (_ * 1 + 0); omega)) ?_
 refine Nb (l := l0) (t := (A, n, c)) h hrow (by omega) (fun hno => ?_) (fun h1 => ?_) (fun u us h1 => ?_)
 ·rw [if_pos (Ys hno)] at k
  clear h; intro M h
  refine ⟨_, _, _, _, _, rfl, ?_⟩
  refine ai h ?_
  clear h
  intro q683 M h
  refine ak h ?_
  clear h
  intro M h
  refine bV (by decide) ?_
  refine aI h rfl ?_
  refine gB h hw ?_
  clear h; intro M cv h
  refine ⟨_, _, _, _, _, _, _, _, _, _, _, _, _, _, rfl, ?_⟩
  refine bk h rfl rfl rfl ?_
  clear h; intro M h
  refine aI h rfl ?_
  exact k _ _ _ (Mem.le_refl R) cv (h.sub bx)
 ·obtain ⟨eg, ew⟩ := JC (by omega) h1
  rw [eg] at k
  have l1 := Mem.le_refl R
  clear h; intro M h
  refine ⟨_, _, _, _, _, rfl, ?_⟩
  refine ai h ?_
  clear h
  intro q683 M h
  refine ak h ?_
  clear h
  intro M h
  refine aD (by decide) ?_
  simp only [List.headD_nil, List.tail_nil] at k
  rw [if_neg (by decide)] at k
  have Yu : vY (⟨-1, []⟩ : Lk) = [] := rfl
  generalize VZ : (⟨-1, []⟩ : Lk) = zb at k Yu
  refine ai h ?_
  clear h
  intro q620 M h
  refine ax h ?_
  refine h.b6 sN Gw ls (Yt.le l1).src uV.symm (by rw [uV]; omega) ?_
  clear h; intro A2 c2 M h
  refine aU ?_
  refine ak h ?_
  clear h
  intro M h
  refine ax h (az h (ax h ⟨j0, by rw [uV]; exact j1, ?_⟩))
  obtain ⟨qr, rfl⟩ := h.bU (A := A2) (by rw [uV]; omega) (by decide)
  refine aT ?_
  refine gK i.a.toNat 0 h JD (by decide) (a' := (none, 0, 0)) rfl (by show _ = i.a.toNat * 1 + 0; omega) ?_
  clear h; intro M h
  obtain ⟨R2, l2, r2, h2⟩ := h.bz (some ⟨qr, 0, none⟩)
  clear h
  have hz := Ni (j := i.a) (l := zb) hw Q1 l1 l2 r2 ⟨by rw [Yu]; rfl, by rw [Yu]; exact RS.nil _ _⟩
  have el : (ls).length = (x.da i.a zb).aC.length := by simp [Wd.da, uV]
  rw [el] at h2
  have h3 : Hp R2 (pt q1 (jZ { a with al := some ⟨qr, 0, none⟩, cl := c2 } p (x.da i.a zb)) tW :: pt q3 [.int .i64 i.op, .int .i64 i.a, .int .i64 i.b, .int .i64 i.c] tI :: pt q5 gz tW :: L) M := h2.sub bx
  clear h2
  refine aD (by decide) ?_
  refine aI h3 rfl ?_
  refine bk h3 rfl rfl rfl ?_
  clear h3; intro M h
  refine aI h rfl ?_
  exact k _ _ _ (Mem.le_trans l1 l2) hz (h.sub bx)
 ·obtain ⟨eg, ew⟩ := JC (by omega) h1
  rw [eg] at k
  clear h; intro R1 A' c' M l1 r1 h
  refine ⟨_, _, _, _, _, rfl, ?_⟩
  refine ai h ?_
  clear h
  intro q683 M h
  refine ak h ?_
  clear h
  intro M h
  refine aD (by decide) ?_
  simp only [List.headD_cons, List.tail_cons] at k
  have hu := hwk u (by rw [ew]; simp)
  simp only [ne_eq, not_true_eq_false, if_false, hu.1, if_true] at k
  have Yu : vY ⟨u, us⟩ = u :: us := by unfold vY; rw [if_neg (by show ¬ u = -1; omega)]
  generalize VZ : (⟨u, us⟩ : Lk) = zb at k Yu
  rw [← Yu] at r1 h
  refine ai h ?_
  clear h
  intro q620 M h
  refine ax h ?_
  refine h.b6 sN Gw ls (Yt.le l1).src uV.symm (by rw [uV]; omega) ?_
  clear h; intro A2 c2 M h
  refine aU ?_
  refine ak h ?_
  clear h
  intro M h
  refine ax h (az h (ax h ⟨j0, by rw [uV]; exact j1, ?_⟩))
  obtain ⟨qr, rfl⟩ := h.bU (A := A2) (by rw [uV]; omega) (by decide)
  refine aT ?_
  refine gK i.a.toNat 0 h JD (by decide) (a' := (A', (vY zb).length, c')) rfl (by show _ = i.a.toNat * 1 + 0; omega) ?_
  clear h; intro M h
  obtain ⟨R2, l2, r2, h2⟩ := h.bz (some ⟨qr, 0, none⟩)
  clear h
  have hz := Ni (j := i.a) (l := zb) hw Q1 l1 l2 r2 ⟨rfl, r1⟩
  have el : (ls).length = (x.da i.a zb).aC.length := by simp [Wd.da, uV]
  rw [el] at h2
  have h3 : Hp R2 (pt q1 (jZ { a with al := some ⟨qr, 0, none⟩, cl := c2 } p (x.da i.a zb)) tW :: pt q3 [.int .i64 i.op, .int .i64 i.a, .int .i64 i.b, .int .i64 i.c] tI :: pt q5 gz tW :: L) M := h2.sub bx
  clear h2
  refine bV (by simp; omega) ?_
  refine aI h3 rfl ?_
  refine jm h3 hz hu.1 hu.2 (by show x.gs.length ≤ _; omega) hs.2.2.2.1 ?_
  clear h3; intro R3 a3 M l3 nJ h
  refine ⟨_, _, _, _, _, _, _, _, _, _, _, _, _, _, rfl, ?_⟩
  refine bk h rfl rfl rfl ?_
  clear h; intro M h
  refine aI h rfl ?_
  exact k _ _ _ (Mem.le_trans l1 (Mem.le_trans l2 l3)) nJ (h.sub bx)
end
section
variable {R : Mem} {L L' : List HP} {M : Mem} {K : Value → Mem → Prop} {Kp : List PanicEntry → Mem → Prop} {a : Al} {p : cy} {x : Wd} {g : Int} {i : bY} {d : Int}
theorem CE (h : Hp R L M) (hw : eN R a p x) (hg : aW x g) (hs : x.Sm) (he : x.end_ = 0) (h1 : (aa x g).st = 1) {fl : List bY} (f0 : 0 ≤ (aa x g).top.fn) (hf : p.funcs[(aa x g).top.fn.toNat]? = some fl) (YV : (fl.length : Int) ≤ (aa x g).top.pc)
  (k : ∀ R' a' M', R.le R' → eN R' a' p (Wd.iB { x with ready := [] } (-7)) → Hp R' L M' → K (.tuple #[gD a' p (Wd.iB { x with ready := [] } (-7)), .bool false]) M') :
  ae Tryz.prog 78 #[gD a p x, .int .i64 g, .int .i64 d] M K Kp := by
 refine fM ?_
 obtain ⟨rs, bu, dU⟩ := hw.gs
 obtain ⟨g0, g1, g2, g3⟩ := id hg
 have hn := hs.2.2.1
 refine ai h ?_
 clear h
 intro q1 M h
 refine ai h ?_
 clear h
 intro q3 M h
 refine ak h ?_
 clear h
 intro M h
 obtain ⟨⟨oZ, rA, rn, rc, Cw⟩, hr, e1, e2, e3, e4⟩ := dU.at (bN g0 g1)
 dsimp only at e1 e2 e3 e4
 subst e1; subst e2; subst e4
 obtain ⟨b, o, j5⟩ := bu.some (by rw [dU.1]; omega) (by decide)
 rw [j5] at bu
 obtain ⟨bf, of, sV⟩ := e3.some (by omega) (by decide)
 subst sV
 refine aD (by simp; omega) ?_
 refine ax h ?_
 refine aD (by simp; omega) ?_
 refine az h ?_
 refine aD (by simp [he]) ?_
 refine ax h ⟨g0, g1, bB j5 ?_⟩
 refine aj (Src.at bu.src h hr (j := 0) rfl (by simp [uU])) ?_
 refine aD (by simp [h1]) ?_
 refine ax h ⟨g0, g1, bB j5 ?_⟩
 refine br (Src.at bu.src h hr (j := 1) rfl rfl) ?_
 dsimp only
 rw [cP g2 (by omega)]
 refine ⟨by omega, by omega, aT ?_⟩
 rw [Int.toNat_natCast]
 have ht := bS g2
 refine aj (Src.at e3.src h ht (j := 0) rfl rfl) ?_
 refine aj (Src.at e3.src h ht (j := 1) rfl rfl) ?_
 refine aj (Src.at e3.src h ht (j := 2) rfl rfl) ?_
 refine aj (Src.at e3.src h ht (j := 3) rfl rfl) ?_
 refine aj (Src.at e3.src h ht (j := 4) rfl rfl) ?_
 refine aj (Src.at e3.src h ht (j := 5) rfl rfl) ?_
 refine aj (Src.at e3.src h ht (j := 6) rfl rfl) ?_
 refine aj (Src.at e3.src h ht (j := 7) rfl rfl) ?_
 refine aj (Src.at e3.src h ht (j := 8) rfl rfl) ?_
 refine aj (Src.at e3.src h ht (j := 9) rfl rfl) ?_
 refine aj (Src.at e3.src h ht (j := 10) rfl rfl) ?_
 refine ai h ?_
 clear h
 intro q49 M h
 repeat (refine ak h ?_; clear h; intro M h)
 generalize hx0 : ({ x with ready := [] } : Wd) = x0 at k
 have IL : eN R { a with ar := none, cr := 0 } p x0 := by subst hx0; exact ⟨hw.AO, hw.dB, hw.gs, hw.av, hw.aC, hw.hl, hw.out, RS.nil _ _⟩
 have hg0 : aW x0 g := by subst hx0; exact hg
 have ea : aa x0 g = aa x g := by subst hx0; rfl
 have en : x0.gs.length = x.gs.length := by subst hx0; rfl
 replace h : Hp R (pt q49 (gQ (aa x g).top) tF :: pt q1 (jZ { a with ar := none, cr := 0 } p x0) tW :: pt q3 gz tW :: L) M := by subst hx0; exact h.sub bx
 obtain ⟨ts, hts, htl, htf⟩ := hw.AO.funcs
 obtain ⟨t, JD⟩ := aL (l := ts) (i := (aa x g).top.fn.toNat) (by have := (List.getElem?_eq_some_iff.1 hf).1; omega)
 obtain ⟨iG, htn⟩ := htf _ _ _ JD hf
 have hflt := (List.getElem?_eq_some_iff.1 hf).1
 obtain ⟨bt, ot, V1⟩ := hts.some (by omega) (by decide)
 rw [V1] at hts
 refine aj (bP h (j := 1) rfl) ?_
 refine ax h ?_
 refine aj (bP h (j := 0) rfl) ?_
 refine ⟨f0, by show (aa x g).top.fn < (p.funcs.length : Int); omega, bB V1 ?_⟩
 refine br (Src.at hts.src h JD (j := 0) rfl (by show _ = ot + ((aa x g).top.fn.toNat * 1 + 0); omega)) ?_
 refine bV (by simp; show (t.2.1 : Int) ≤ (aa x g).top.pc; omega) ?_
 refine aI h rfl ?_
 refine gB h IL ?_
 clear h; intro M cv h
 refine ⟨_, _, _, _, _, _, _, _, _, _, _, _, _, _, rfl, ?_⟩
 refine bk h rfl rfl rfl ?_
 clear h; intro M h
 refine aI h rfl ?_
 exact k _ _ _ (Mem.le_refl R) cv (h.sub bx)
theorem Am (h : Hp R L M) (hw : eN R a p x) (hg : aW x g) (hs : x.Sm) (he : x.end_ = 0) (h1 : (aa x g).st = 1) {fl : List bY} (f0 : 0 ≤ (aa x g).top.fn) (hf : p.funcs[(aa x g).top.fn.toNat]? = some fl) (pc0 : 0 ≤ (aa x g).top.pc) (hi : fl[(aa x g).top.pc.toNat]? = some i) (hokp : i.cM) (hop0 : 0 ≤ i.op) (tH : 0 ≤ (aa x g).top.pc ∧ (aa x g).top.pc < 1000000000) (h8' : i.op ≤ 8)
  (k : ∀ R' a' M', R.le R' → eN R' a' p (Wd.bp { x with ready := [] } g ((aa x g).bW ((aa x g).top.next.pure i))) → Hp R' L M' → K (.tuple #[gD a' p (Wd.bp { x with ready := [] } g ((aa x g).bW ((aa x g).top.next.pure i))), .bool true]) M') :
  ae Tryz.prog 78 #[gD a p x, .int .i64 g, .int .i64 d] M K Kp := by
 refine fM ?_
 obtain ⟨rs, bu, dU⟩ := hw.gs
 obtain ⟨g0, g1, g2, g3⟩ := id hg
 have hn := hs.2.2.1
 refine ai h ?_
 clear h
 intro q1 M h
 refine ai h ?_
 clear h
 intro q3 M h
 refine ak h ?_
 clear h
 intro M h
 obtain ⟨⟨oZ, rA, rn, rc, Cw⟩, hr, e1, e2, e3, e4⟩ := dU.at (bN g0 g1)
 dsimp only at e1 e2 e3 e4
 subst e1; subst e2; subst e4
 obtain ⟨b, o, j5⟩ := bu.some (by rw [dU.1]; omega) (by decide)
 rw [j5] at bu
 obtain ⟨bf, of, sV⟩ := e3.some (by omega) (by decide)
 subst sV
 refine aD (by simp; omega) ?_
 refine ax h ?_
 refine aD (by simp; omega) ?_
 refine az h ?_
 refine aD (by simp [he]) ?_
 refine ax h ⟨g0, g1, bB j5 ?_⟩
 refine aj (Src.at bu.src h hr (j := 0) rfl (by simp [uU])) ?_
 refine aD (by simp [h1]) ?_
 refine ax h ⟨g0, g1, bB j5 ?_⟩
 refine br (Src.at bu.src h hr (j := 1) rfl rfl) ?_
 dsimp only
 rw [cP g2 (by omega)]
 refine ⟨by omega, by omega, aT ?_⟩
 rw [Int.toNat_natCast]
 have ht := bS g2
 refine aj (Src.at e3.src h ht (j := 0) rfl rfl) ?_
 refine aj (Src.at e3.src h ht (j := 1) rfl rfl) ?_
 refine aj (Src.at e3.src h ht (j := 2) rfl rfl) ?_
 refine aj (Src.at e3.src h ht (j := 3) rfl rfl) ?_
 refine aj (Src.at e3.src h ht (j := 4) rfl rfl) ?_
 refine aj (Src.at e3.src h ht (j := 5) rfl rfl) ?_
 refine aj (Src.at e3.src h ht (j := 6) rfl rfl) ?_
 refine aj (Src.at e3.src h ht (j := 7) rfl rfl) ?_
 refine aj (Src.at e3.src h ht (j := 8) rfl rfl) ?_
 refine aj (Src.at e3.src h ht (j := 9) rfl rfl) ?_
 refine aj (Src.at e3.src h ht (j := 10) rfl rfl) ?_
 refine ai h ?_
 clear h
 intro q49 M h
 repeat (refine ak h ?_; clear h; intro M h)
 generalize hx0 : ({ x with ready := [] } : Wd) = x0 at k
 have IL : eN R { a with ar := none, cr := 0 } p x0 := by subst hx0; exact ⟨hw.AO, hw.dB, hw.gs, hw.av, hw.aC, hw.hl, hw.out, RS.nil _ _⟩
 have hg0 : aW x0 g := by subst hx0; exact hg
 have ea : aa x0 g = aa x g := by subst hx0; rfl
 have en : x0.gs.length = x.gs.length := by subst hx0; rfl
 replace h : Hp R (pt q49 (gQ (aa x g).top) tF :: pt q1 (jZ { a with ar := none, cr := 0 } p x0) tW :: pt q3 gz tW :: L) M := by subst hx0; exact h.sub bx
 obtain ⟨ts, hts, htl, htf⟩ := hw.AO.funcs
 obtain ⟨t, JD⟩ := aL (l := ts) (i := (aa x g).top.fn.toNat) (by have := (List.getElem?_eq_some_iff.1 hf).1; omega)
 obtain ⟨iG, htn⟩ := htf _ _ _ JD hf
 have hflt := (List.getElem?_eq_some_iff.1 hf).1
 obtain ⟨bt, ot, V1⟩ := hts.some (by omega) (by decide)
 rw [V1] at hts
 refine aj (bP h (j := 1) rfl) ?_
 refine ax h ?_
 refine aj (bP h (j := 0) rfl) ?_
 refine ⟨f0, by show (aa x g).top.fn < (p.funcs.length : Int); omega, bB V1 ?_⟩
 refine br (Src.at hts.src h JD (j := 0) rfl (by show _ = ot + ((aa x g).top.fn.toNat * 1 + 0); omega)) ?_
 have hilt := (List.getElem?_eq_some_iff.1 hi).1
 refine aD (by simp; show (aa x g).top.pc < (t.2.1 : Int); omega) ?_
 refine ax h (aj (bP h (j := 0) rfl) ⟨f0, by show (aa x g).top.fn < (p.funcs.length : Int); omega, bB V1 ?_⟩)
 refine br (Src.at hts.src h JD (j := 0) rfl (by show _ = ot + ((aa x g).top.fn.toNat * 1 + 0); omega)) ?_
 obtain ⟨bi, oi, hbi⟩ := iG.some (by omega) (by decide)
 rw [hbi] at iG
 refine aj (bP h (j := 1) rfl) ⟨pc0, by show (aa x g).top.pc < (t.2.1 : Int); omega, bB hbi ?_⟩
 refine aj (Src.at iG.src h hi (j := 0) rfl (by show _ = oi + ((aa x g).top.pc.toNat * 4 + 0); rfl)) ?_
 refine aj (Src.at iG.src h hi (j := 1) rfl rfl) ?_
 refine aj (Src.at iG.src h hi (j := 2) rfl rfl) ?_
 refine aj (Src.at iG.src h hi (j := 3) rfl rfl) ?_
 refine ai h ?_
 clear h
 intro q107 M h
 repeat (refine ak h ?_; clear h; intro M h)
 refine aj (bP h (j := 0) rfl) ?_
 refine aj (bP h (j := 1) rfl) ?_
 refine aj (bP h (j := 2) rfl) ?_
 refine aj (bP h (j := 3) rfl) ?_
 refine aj (bP h (j := 4) rfl) ?_
 refine aj (bP h (j := 5) rfl) ?_
 refine aj (bP h (j := 6) rfl) ?_
 refine aj (bP h (j := 7) rfl) ?_
 refine aj (bP h (j := 8) rfl) ?_
 refine aj (bP h (j := 9) rfl) ?_
 refine aj (bP h (j := 10) rfl) ?_
 refine az h (az h (az h (az h ?_)))
 refine CA (f := (aa x g).top) (x := i) h hokp hop0 tH (fun h8 => ?_) (fun h8 => ?_)
 ·clear h; intro M h
  apply Exists.intro; (repeat apply Exists.intro); refine And.intro rfl ?_
  refine ai h ?_
  clear h
  intro q142 M h
  repeat (refine ak h ?_; clear h; intro M h)
  refine bV rfl ?_
  replace h : Hp R (pt q142 (gQ ((aa x g).top.next.pure i)) tF :: pt q1 (jZ { a with ar := none, cr := 0 } p x0) tW :: pt q3 gz tW :: L) M := h.sub bx
  obtain ⟨rs0, GM, hl0⟩ := IL.gs
  have Em := hl0.at (bN (x := x0) g0 (by rw [en]; exact g1))
  rw [ea] at Em
  obtain ⟨⟨st0, A0, n0, c0, wt0⟩, Em, y1, y2, y3, y4⟩ := Em
  dsimp only at y1 y2 y3 y4
  subst y1; subst y2; subst y4
  have hb0 := j5
  obtain ⟨b0, o0, hb0⟩ := GM.some (by rw [hl0.1, en]; omega) (by decide)
  rw [hb0] at GM
  refine ax h ⟨g0, by rw [en]; exact g1, bB hb0 ?_⟩
  refine aj (Src.at GM.src h Em (j := 0) rfl (by simp [uU])) ?_
  refine br (Src.at GM.src h Em (j := 1) rfl rfl) ?_
  refine aj (Src.at GM.src h Em (j := 2) rfl rfl) ?_
  refine aj (Src.at GM.src h Em (j := 3) rfl rfl) ?_
  refine aj (Src.at GM.src h Em (j := 4) rfl rfl) ?_
  refine aj (Src.at GM.src h Em (j := 5) rfl rfl) ?_
  refine ai h ?_
  clear h
  intro q168 M h
  repeat (refine ak h ?_; clear h; intro M h)
  have hcap := e3.2
  refine ⟨by omega, by omega, by omega, by omega, by omega, by omega, ?_⟩
  refine aj (bP h (j := 0) rfl) ?_
  refine aj (bP h (j := 1) rfl) ?_
  refine aj (bP h (j := 2) rfl) ?_
  refine aj (bP h (j := 3) rfl) ?_
  refine aj (bP h (j := 4) rfl) ?_
  refine aj (bP h (j := 5) rfl) ?_
  refine aj (bP h (j := 6) rfl) ?_
  refine aj (bP h (j := 7) rfl) ?_
  refine aj (bP h (j := 8) rfl) ?_
  refine aj (bP h (j := 9) rfl) ?_
  refine aj (bP h (j := 10) rfl) ?_
  refine ai h ?_
  clear h
  intro q187 M h
  refine ⟨trivial, ?_⟩
  refine h.b6 fV pP ((aa x g).fs.take ((aa x g).fs.length - 1)) (B := iZ (some ⟨bf, of, none⟩) 0 rc 11) (RS.cut e3 ((aa x g).fs.length - 1)).src (by rw [List.length_take]; simp <;> omega) (by rw [List.length_take]; omega) ?_
  clear h; intro A2 c2 M h
  refine aU ⟨fy h rfl, ?_⟩
  refine ai h ?_
  clear h
  intro q194 M h
  refine h.aZ (A := A2) pP [(aa x g).top.next.pure i] rfl rfl (by simp only [List.length_singleton, List.length_take]; omega) ?_
  clear h; intro A3 c3 M h
  refine aU ⟨fy h rfl, ?_⟩
  refine ak h ?_
  clear h
  intro M h
  refine ⟨fy h rfl, ?_⟩
  have efs : (aa x g).fs.take ((aa x g).fs.length - 1) ++ [(aa x g).top.next.pure i] = ((aa x g).bW ((aa x g).top.next.pure i)).fs := by
   unfold gG.bW
   rw [List.set_eq_take_append_cons_drop, if_pos (by omega), List.drop_eq_nil_of_le (by omega)]
  rw [efs] at h
  obtain ⟨R2, l2, r2, h2⟩ := h.bz A3
  clear h
  refine aI h2 rfl (az h2 (ax h2 (az h2 (az h2 (az h2 (az h2 ?_))))))
  refine kC (r := ⟨(aa x g).st, A3, _, c3, (aa x g).wt⟩) (y := (aa x g).bW ((aa x g).top.next.pure i)) h2 (IL.le l2) ⟨rfl, rfl, r2, rfl⟩ g0 (by rw [en]; exact g1) (by rw [en]; omega) ?_
  clear h2; intro R3 a3 M l3 nJ h
  refine ⟨_, _, _, _, _, _, _, _, _, _, _, _, _, _, rfl, ?_⟩
  refine bk h rfl rfl rfl ?_
  clear h; intro M h
  refine aI h rfl ?_
  exact k _ _ _ (Mem.le_trans l2 l3) nJ (h.sub bx)
 ·omega
theorem An (h : Hp R L M) (hw : eN R a p x) (hg : aW x g) (hs : x.Sm) (he : x.end_ = 0) (h1 : (aa x g).st = 1) {fl : List bY} (f0 : 0 ≤ (aa x g).top.fn) (hf : p.funcs[(aa x g).top.fn.toNat]? = some fl) (pc0 : 0 ≤ (aa x g).top.pc) (hi : fl[(aa x g).top.pc.toNat]? = some i) (hokp : i.cM) (hop0 : 0 ≤ i.op) (tH : 0 ≤ (aa x g).top.pc ∧ (aa x g).top.pc < 1000000000) (h8' : 8 < i.op) {z : Wd} (zg : g < z.gs.length)
  (Zz : ∀ (R1 : Mem) (a1 : Al) (L1 : List HP) (M1 : Mem) (K1 : Value → Mem → Prop), Hp R1 L1 M1 → eN R1 a1 p (Wd.next { x with ready := [] } g) → (∀ R' a' M', R1.le R' → eN R' a' p z → Hp R' L1 M' → K1 (gD a' p z) M') →
   ae Tryz.prog 113 #[gD a1 p (Wd.next { x with ready := [] } g), .int .i64 g, .agg #[.int .i64 i.op, .int .i64 i.a, .int .i64 i.b, .int .i64 i.c], .int .i64 d] M1 K1 Kp)
  (k : ∀ R' a' M', R.le R' → eN R' a' p z → Hp R' L M' → K (.tuple #[gD a' p z, .bool (decide (z.end_ = 0 ∧ (aa z g).st = 1 ∧ i.op ≠ 12 ∧ i.op ≠ 17))]) M') :
  ae Tryz.prog 78 #[gD a p x, .int .i64 g, .int .i64 d] M K Kp := by
 refine fM ?_
 obtain ⟨rs, bu, dU⟩ := hw.gs
 obtain ⟨g0, g1, g2, g3⟩ := id hg
 have hn := hs.2.2.1
 refine ai h ?_
 clear h
 intro q1 M h
 refine ai h ?_
 clear h
 intro q3 M h
 refine ak h ?_
 clear h
 intro M h
 obtain ⟨⟨oZ, rA, rn, rc, Cw⟩, hr, e1, e2, e3, e4⟩ := dU.at (bN g0 g1)
 dsimp only at e1 e2 e3 e4
 subst e1; subst e2; subst e4
 obtain ⟨b, o, j5⟩ := bu.some (by rw [dU.1]; omega) (by decide)
 rw [j5] at bu
 obtain ⟨bf, of, sV⟩ := e3.some (by omega) (by decide)
 subst sV
 refine aD (by simp; omega) ?_
 refine ax h ?_
 refine aD (by simp; omega) ?_
 refine az h ?_
 refine aD (by simp [he]) ?_
 refine ax h ⟨g0, g1, bB j5 ?_⟩
 refine aj (Src.at bu.src h hr (j := 0) rfl (by simp [uU])) ?_
 refine aD (by simp [h1]) ?_
 refine ax h ⟨g0, g1, bB j5 ?_⟩
 refine br (Src.at bu.src h hr (j := 1) rfl rfl) ?_
 dsimp only
 rw [cP g2 (by omega)]
 refine ⟨by omega, by omega, aT ?_⟩
 rw [Int.toNat_natCast]
 have ht := bS g2
 refine aj (Src.at e3.src h ht (j := 0) rfl rfl) ?_
 refine aj (Src.at e3.src h ht (j := 1) rfl rfl) ?_
 refine aj (Src.at e3.src h ht (j := 2) rfl rfl) ?_
 refine aj (Src.at e3.src h ht (j := 3) rfl rfl) ?_
 refine aj (Src.at e3.src h ht (j := 4) rfl rfl) ?_
 refine aj (Src.at e3.src h ht (j := 5) rfl rfl) ?_
 refine aj (Src.at e3.src h ht (j := 6) rfl rfl) ?_
 refine aj (Src.at e3.src h ht (j := 7) rfl rfl) ?_
 refine aj (Src.at e3.src h ht (j := 8) rfl rfl) ?_
 refine aj (Src.at e3.src h ht (j := 9) rfl rfl) ?_
 refine aj (Src.at e3.src h ht (j := 10) rfl rfl) ?_
 refine ai h ?_
 clear h
 intro q49 M h
 repeat (refine ak h ?_; clear h; intro M h)
 generalize hx0 : ({ x with ready := [] } : Wd) = x0 at Zz
 have IL : eN R { a with ar := none, cr := 0 } p x0 := by subst hx0; exact ⟨hw.AO, hw.dB, hw.gs, hw.av, hw.aC, hw.hl, hw.out, RS.nil _ _⟩
 have hg0 : aW x0 g := by subst hx0; exact hg
 have ea : aa x0 g = aa x g := by subst hx0; rfl
 have en : x0.gs.length = x.gs.length := by subst hx0; rfl
 replace h : Hp R (pt q49 (gQ (aa x g).top) tF :: pt q1 (jZ { a with ar := none, cr := 0 } p x0) tW :: pt q3 gz tW :: L) M := by subst hx0; exact h.sub bx
 obtain ⟨ts, hts, htl, htf⟩ := hw.AO.funcs
 obtain ⟨t, JD⟩ := aL (l := ts) (i := (aa x g).top.fn.toNat) (by have := (List.getElem?_eq_some_iff.1 hf).1; omega)
 obtain ⟨iG, htn⟩ := htf _ _ _ JD hf
 have hflt := (List.getElem?_eq_some_iff.1 hf).1
 obtain ⟨bt, ot, V1⟩ := hts.some (by omega) (by decide)
 rw [V1] at hts
 refine aj (bP h (j := 1) rfl) ?_
 refine ax h ?_
 refine aj (bP h (j := 0) rfl) ?_
 refine ⟨f0, by show (aa x g).top.fn < (p.funcs.length : Int); omega, bB V1 ?_⟩
 refine br (Src.at hts.src h JD (j := 0) rfl (by show _ = ot + ((aa x g).top.fn.toNat * 1 + 0); omega)) ?_
 have hilt := (List.getElem?_eq_some_iff.1 hi).1
 refine aD (by simp; show (aa x g).top.pc < (t.2.1 : Int); omega) ?_
 refine ax h (aj (bP h (j := 0) rfl) ⟨f0, by show (aa x g).top.fn < (p.funcs.length : Int); omega, bB V1 ?_⟩)
 refine br (Src.at hts.src h JD (j := 0) rfl (by show _ = ot + ((aa x g).top.fn.toNat * 1 + 0); omega)) ?_
 obtain ⟨bi, oi, hbi⟩ := iG.some (by omega) (by decide)
 rw [hbi] at iG
 refine aj (bP h (j := 1) rfl) ⟨pc0, by show (aa x g).top.pc < (t.2.1 : Int); omega, bB hbi ?_⟩
 refine aj (Src.at iG.src h hi (j := 0) rfl (by show _ = oi + ((aa x g).top.pc.toNat * 4 + 0); rfl)) ?_
 refine aj (Src.at iG.src h hi (j := 1) rfl rfl) ?_
 refine aj (Src.at iG.src h hi (j := 2) rfl rfl) ?_
 refine aj (Src.at iG.src h hi (j := 3) rfl rfl) ?_
 refine ai h ?_
 clear h
 intro q107 M h
 repeat (refine ak h ?_; clear h; intro M h)
 refine aj (bP h (j := 0) rfl) ?_
 refine aj (bP h (j := 1) rfl) ?_
 refine aj (bP h (j := 2) rfl) ?_
 refine aj (bP h (j := 3) rfl) ?_
 refine aj (bP h (j := 4) rfl) ?_
 refine aj (bP h (j := 5) rfl) ?_
 refine aj (bP h (j := 6) rfl) ?_
 refine aj (bP h (j := 7) rfl) ?_
 refine aj (bP h (j := 8) rfl) ?_
 refine aj (bP h (j := 9) rfl) ?_
 refine aj (bP h (j := 10) rfl) ?_
 refine az h (az h (az h (az h ?_)))
 refine CA (f := (aa x g).top) (x := i) h hokp hop0 tH (fun h8 => ?_) (fun h8 => ?_)
 ·omega
 ·clear h; intro M h
  apply Exists.intro; (repeat apply Exists.intro); refine And.intro rfl ?_
  refine ai h ?_
  clear h
  intro q142 M h
  repeat (refine ak h ?_; clear h; intro M h)
  refine aD rfl ?_
  replace h : Hp R (pt q107 [.int .i64 i.op, .int .i64 i.a, .int .i64 i.b, .int .i64 i.c] tI :: pt q1 (jZ { a with ar := none, cr := 0 } p x0) tW :: pt q3 gz tW :: L) M := h.sub bx
  refine aI h rfl (az h (az h (az h (az h ?_))))
  refine MX h IL hg0 (by rw [en]; omega) (by rw [ea]; exact tH) ?_
  clear h; intro R1 a1 M l1 mM h
  refine ⟨_, _, _, _, _, _, _, _, _, _, _, _, _, _, rfl, fy h rfl, ?_⟩
  refine Zz R1 a1 _ M _ h mM ?_
  clear h; intro R2 a2 M l2 cv h
  refine ⟨_, _, _, _, _, _, _, _, _, _, _, _, _, _, rfl, fy h rfl, ?_⟩
  refine bk h rfl rfl rfl ?_
  clear h; intro M h
  refine ⟨fy h rfl, ?_⟩
  refine aI h rfl (az h ?_)
  have le2 := Mem.le_trans l1 l2
  refine bh.2 ⟨fun z0 => ?_, fun z0 => ?_⟩
  ·obtain ⟨rsz, hrsz, hlz⟩ := cv.gs
   obtain ⟨⟨sz, Az, nz, cz, wz⟩, hrz, y1, y2, y3, y4⟩ := hlz.at (bN (x := z) g0 zg)
   dsimp only at y1 y2 y3 y4
   subst y1
   obtain ⟨b0, o0, hb0⟩ := hrsz.some (by rw [hlz.1]; omega) (by decide)
   rw [hb0] at hrsz
   refine ax h ⟨g0, zg, bB hb0 ?_⟩
   refine aj (Src.at hrsz.src h hrz (j := 0) rfl (by simp [uU])) ?_
   refine bh.2 ⟨fun z1 => ?_, fun z1 => ?_⟩
   ·refine az h ?_
    refine dJ.2 ⟨fun h12 => ?_, fun h12 => ?_⟩
    ·refine az h ?_
     refine bk h rfl rfl rfl ?_
     clear h; intro M h
     refine ⟨cw h, ?_⟩
     refine aI h rfl ?_
     have hk := k R2 a2 M le2 cv (h.sub bx)
     have eb : decide (z.end_ = 0 ∧ (aa z g).st = 1 ∧ i.op ≠ 12 ∧ i.op ≠ 17) = (i.op != 17) := by
      rw [Bool.eq_iff_iff, decide_eq_true_iff, bne_iff_ne]
      exact ⟨fun hh => hh.2.2.2, fun hh => ⟨z0, z1, h12, hh⟩⟩
     rw [eb] at hk
     exact hk
    ·refine bk h rfl rfl rfl ?_
     clear h; intro M h
     refine aI h rfl ?_
     have hk := k R2 a2 M le2 cv (h.sub bx)
     rw [decide_eq_false (fun hh => hh.2.2.1 h12)] at hk
     exact hk
   ·refine bk h rfl rfl rfl ?_
    clear h; intro M h
    refine aI h rfl ?_
    have hk := k R2 a2 M le2 cv (h.sub bx)
    rw [decide_eq_false (fun hh => z1 hh.2.1)] at hk
    exact hk
  ·refine bk h rfl rfl rfl ?_
   clear h; intro M h
   refine aI h rfl ?_
   have hk := k R2 a2 M le2 cv (h.sub bx)
   rw [decide_eq_false (fun hh => z0 hh.1)] at hk
   exact hk
end
section
variable {R : Mem} {L L' : List HP} {M : Mem} {K : Value → Mem → Prop} {Kp : List PanicEntry → Mem → Prop} {a : Al} {p : cy} {x : Wd} {g : Int} {i : bY} {d : Int}
theorem DA (h : Hp R L M) (hw : eN R a p x) (hs : x.Sm) (hno : g < 0 ∨ (x.gs.length : Int) ≤ g ∨ x.end_ ≠ 0 ∨ (aa x g).st ≠ 1)
  (k : ∀ R' a' M', R.le R' → eN R' a' p { x with ready := [] } → Hp R' L M' → K (.tuple #[gD a' p { x with ready := [] }, .bool false]) M') :
  ae Tryz.prog 78 #[gD a p x, .int .i64 g, .int .i64 d] M K Kp := by
 refine fM ?_
 have IL : eN R { a with ar := none, cr := 0 } p { x with ready := [] } := ⟨hw.AO, hw.dB, hw.gs, hw.av, hw.aC, hw.hl, hw.out, RS.nil _ _⟩
 have hn := hs.2.2.1
 refine ai h ?_
 clear h
 intro q1 M h
 refine ai h ?_
 clear h
 intro q3 M h
 refine ak h ?_
 clear h
 intro M h
 refine aH.2 ⟨fun c1 => ?_, fun c1 => ?_⟩
 ·refine aI h rfl ?_
  refine bk h rfl rfl rfl ?_
  clear h; intro M h
  refine aI h rfl ?_
  exact k _ _ _ (Mem.le_refl R) IL (h.sub bx)
 refine ax h ?_
 refine aH.2 ⟨fun c2 => ?_, fun c2 => ?_⟩
 ·refine aI h rfl ?_
  refine bk h rfl rfl rfl ?_
  clear h; intro M h
  refine aI h rfl ?_
  exact k _ _ _ (Mem.le_refl R) IL (h.sub bx)
 refine az h ?_
 refine dJ.2 ⟨fun c3 => ?_, fun c3 => ?_⟩
 ·refine aI h rfl ?_
  refine bk h rfl rfl rfl ?_
  clear h; intro M h
  refine aI h rfl ?_
  exact k _ _ _ (Mem.le_refl R) IL (h.sub bx)
 have g0 : 0 ≤ g := by omega
 have g1 : g < x.gs.length := by omega
 obtain ⟨rs, bu, dU⟩ := hw.gs
 obtain ⟨⟨oZ, rA, rn, rc, Cw⟩, hr, e1, e2, e3, e4⟩ := dU.at (bN g0 g1)
 dsimp only at e1 e2 e3 e4
 subst e1
 obtain ⟨b, o, j5⟩ := bu.some (by rw [dU.1]; omega) (by decide)
 rw [j5] at bu
 refine ax h ⟨g0, g1, bB j5 ?_⟩
 refine aj (Src.at bu.src h hr (j := 0) rfl (by simp [uU])) ?_
 refine dJ.2 ⟨fun c4 => ?_, fun c4 => ?_⟩
 ·refine aI h rfl ?_
  refine bk h rfl rfl rfl ?_
  clear h; intro M h
  refine aI h rfl ?_
  exact k _ _ _ (Mem.le_refl R) IL (h.sub bx)
 ·exfalso
  rcases hno with c | c | c | c
  ·omega
  ·omega
  ·exact c c3
  ·exact c c4
end
end Go.Proofs
namespace Go.Proofs
open Go.AF
set_option maxRecDepth 100000
set_option maxHeartbeats 1000000
attribute [local irreducible] bF dG fa dP aF eY aE b7 aO bj bJ aM
def jo (y : gG) : gG := if y.st = 2 then y else { y with wt := .zero }
def Wd.abs (x : Wd) (hs : List aN) : Wd := { x with gs := x.gs.map jo, hl := hs }
section
variable {p : cy} {x : Wd} {g : Int} {hs : List aN} {i : bY}
theorem lN {y : gG} : (jo y).st = y.st := by unfold jo; split <;> rfl
theorem iX {y : gG} : (jo y).fs = y.fs := by unfold jo; split <;> rfl
theorem mF {y : gG} : (jo y).top = y.top := by unfold gG.top; rw [iX]
theorem pR {y : gG} (h : y.st = 2) : jo y = y := by unfold jo; rw [if_pos h]
theorem AP {st : Int} {fs : List eJ} {wt : bY} (h : st ≠ 2) : jo ⟨st, fs, wt⟩ = ⟨st, fs, .zero⟩ := by unfold jo; rw [if_neg h]
theorem Yv {fs : List eJ} {wt : bY} : jo ⟨2, fs, wt⟩ = ⟨2, fs, wt⟩ := by unfold jo; rw [if_pos rfl]
theorem sW {y : gG} {f : eJ} : jo (y.bW f) = (jo y).bW f := by
 unfold jo gG.bW
 dsimp only
 split <;> rfl
theorem cL : aa (x.abs hs) g = jo (aa x g) := by
 unfold aa Wd.abs
 dsimp only
 rw [List.getD_eq_getElem?_getD, List.getD_eq_getElem?_getD, List.getElem?_map]
 cases x.gs[g.toNat]? with
 | some y => rfl
 | none => rfl
theorem kV {y : gG} : (x.bp g y).abs hs = (x.abs hs).bp g (jo y) := by
 unfold Wd.bp Wd.abs
 simp only [List.map_set]
theorem eL {q v : Int} : (x.aV g q v).abs hs = (x.abs hs).aV g q v := by
 unfold Wd.aV
 rw [kV, cL, mF, sW]
theorem Vk : (x.next g).abs hs = (x.abs hs).next g := by
 unfold Wd.next
 rw [kV, cL, mF, sW]
theorem tS : (x.abs hs).gs.length = x.gs.length := by simp [Wd.abs]
theorem jq {q : Int} : aJ (x.abs hs) g q = aJ x g q := by unfold aJ; rw [cL, mF]
theorem sX : (x.eU g).abs hs = (x.abs hs).eX g := by
 unfold Wd.eU Wd.eX
 have h : ({ aa (x.abs hs) g with st := 1, wt := .zero } : gG) = jo { aa x g with st := 1 } := by
  show (⟨1, (aa (x.abs hs) g).fs, .zero⟩ : gG) = jo ⟨1, (aa x g).fs, (aa x g).wt⟩
  rw [cL, iX, AP (by decide)]
 rw [h, ← kV]
 rfl
theorem EN : ∀ (l : List Int) (x : Wd), (l.foldl Wd.eU x).abs hs = l.foldl Wd.eX (x.abs hs)
 | [], x => rfl
 | g :: l, x => by rw [List.foldl_cons, List.foldl_cons, EN l, sX]
theorem tT : (x.block g i).abs hs = (x.abs hs).mE g 2 i := by
 unfold Wd.block Wd.mE
 rw [kV, cL]
 congr 1
 show jo ⟨2, (aa x g).fs, i⟩ = ⟨2, (jo (aa x g)).fs, i⟩
 rw [Yv, iX]
theorem Qs : (x.leave g).abs hs = (x.abs hs).leave g := rfl
theorem tU {k : Int} {c : Lk} : (x.da k c).abs hs = (x.abs hs).da k c := rfl
theorem CF {k : Int} (h2 : (aa x g).st = 2) : (x.cU g k).abs hs = (x.abs hs).cU g k := by
 unfold Wd.cU
 rw [Qs, eL, cL, pR h2]
theorem reg_at (h0 : 0 ≤ g) (hg : g < x.gs.length) {q n m : Int} : (aa (x.aV g q n) m).st = (aa x m).st ∧ (aa (x.aV g q n) m).wt = (aa x m).wt :=
 ⟨(tK h0 hg).1, (tK h0 hg).2.1⟩
theorem xH {v : Wt} {s : Int} (h0 : 0 ≤ v.g) (hg : v.g < x.gs.length) (h2 : (aa x v.g).st = 2) : (x.received p v s).abs hs = (x.abs hs).dZ p v s := by
 unfold Wd.received Wd.dZ
 dsimp only
 rw [sX, cL, pR h2]
 split
 ·rw [CF (by rw [(reg_at h0 hg).1]; exact h2), eL]
 ·rw [eL, eL]
theorem Vl {v : Wt} (h2 : (aa x v.g).st = 2) : (x.sent v).abs hs = (x.abs hs).oO v := by
 unfold Wd.sent Wd.oO
 rw [sX, cL, pR h2]
 split
 ·rw [CF h2]
 ·rfl
theorem On {k v : Int} (hr : ((aX x.av k).send v).2.2.1 = true → At x ((aX x.av k).send v).2.1.g 2) :
  match x.put p k v with
  | .on (y, b) => (x.abs hs).nK p k v = (y.abs hs, b)
  | .dg n y => n = -1 ∧ (x.abs hs).nK p k v = ((x.abs hs).iB (-1), true)
  | .fR _ _ => False := by
 unfold Wd.put Wd.nK
 have e : (x.abs hs).av = x.av := rfl
 rw [e]
 dsimp only
 by_cases Ka : ((aX x.av k).send v).2.2.2 = 10
 ·rw [if_pos Ka, if_pos Ka]; exact ⟨rfl, rfl⟩
 ·rw [if_neg Ka, if_neg Ka]
  dsimp only
  by_cases ho : ((aX x.av k).send v).2.2.1 = true
  ·rw [if_pos ho, if_pos ho]
   obtain ⟨a0, a1, a2⟩ := hr ho
   rw [xH (x := x.bg k _) a0 a1 a2]; rfl
  ·rw [if_neg ho, if_neg ho]; rfl
theorem Oo {k : Int} (hr : (aX x.av k).recv.2.2.2.2.1 = true → At x (aX x.av k).recv.2.2.2.1.g 2) :
  (x.abs hs).jW k = ((x.get k).1.abs hs, (x.get k).2) := by
 unfold Wd.get Wd.jW
 have e : (x.abs hs).av = x.av := rfl
 rw [e]
 dsimp only
 have hy : (if (aX x.av k).recv.2.2.2.2.1 = true then ((x.abs hs).bg k (aX x.av k).recv.1).oO (aX x.av k).recv.2.2.2.1 else (x.abs hs).bg k (aX x.av k).recv.1) =
   Wd.abs (if (aX x.av k).recv.2.2.2.2.1 = true then (x.bg k (aX x.av k).recv.1).sent (aX x.av k).recv.2.2.2.1 else x.bg k (aX x.av k).recv.1) hs := by
  split
  ·rename_i ho
   obtain ⟨a0, a1, a2⟩ := hr ho
   rw [Vl (x := x.bg k _) a2]; rfl
  ·rfl
 rw [hy]
 by_cases ZA : (aX x.av k).recv.2.2.1 = true
 ·rw [if_pos ZA, if_pos ZA]
 ·rw [if_neg ZA, if_neg ZA]
theorem Vm (h : (aa x g).fs.length < 16) : ∀ y, x.call g i = .on y → y.abs hs = (x.abs hs).zO g i := by
 intro y hy
 unfold Wd.call at hy
 rw [if_neg (by omega)] at hy
 cases hy
 unfold Wd.zO
 rw [cL, iX, if_neg (by omega), kV, jq]
 congr 1
 unfold jo; dsimp only
 split <;> rfl
theorem Vn : (x.back g i).abs hs = (x.abs hs).EI g i := by
 unfold Wd.back Wd.EI
 rw [cL, iX]
 split
 ·rw [kV, jq]
  congr 1
  unfold jo gG.back Cy Dz gG.top; dsimp only
  split <;> rfl
 ·have h4 : (x.bp g { aa x g with st := 4 }).abs hs = (x.abs hs).mE g 4 .zero := by
   unfold Wd.mE
   rw [kV, cL]
   congr 1
   show jo ⟨4, (aa x g).fs, (aa x g).wt⟩ = ⟨4, (jo (aa x g)).fs, .zero⟩
   rw [AP (by decide), iX]
  split
  ·rw [← h4]; rfl
  ·exact h4
end
def gd (hs : List aN) : Out Wd → Wd → Prop
 | .on y, z => z = y.abs hs
 | .dg n y, z => z = (y.abs hs).iB n
 | .fR _ _, _ => False
section
variable {p : cy} {x : Wd} {g : Int} {hs : List aN} {i : bY}
theorem mG {k : Int} (h0 : 0 ≤ k) (h1 : k < x.av.length) : x.bg k (aX x.av k) = x := by
 have : x.av.set k.toNat (aX x.av k) = x.av := by
  unfold aX
  rw [List.getD_eq_getElem?_getD, List.getElem?_eq_getElem (by omega)]
  simp
 unfold Wd.bg
 rw [this]
theorem Nj {k : Int} (h0 : 0 ≤ k) (h1 : k < x.aC.length) : x.da k (cR x k) = x := by
 have : x.aC.set k.toNat (cR x k) = x.aC := by
  unfold cR
  rw [List.getD_eq_getElem?_getD, List.getElem?_eq_getElem (by omega)]
  simp
 unfold Wd.da
 rw [this]
theorem AQ {c : aQ} {v : Int} (h : (c.send v).2.2.2 ≠ 0) : (c.send v).1 = c ∧ (c.send v).2.2.1 = false := by
 obtain ⟨room, buf, snd, cH, closed⟩ := c
 cases closed with
 | true => exact ⟨rfl, rfl⟩
 | false =>
  cases cH with
  | cons w r => exact absurd rfl h
  | nil =>
   by_cases hb : buf.length < room
   ·exact absurd (by simp [aQ.send, hb]) h
   ·simp [aQ.send, hb]
theorem Yw {c : aQ} (h : c.recv.2.2.1 = false) (h2 : c.recv.2.2.2.2.2 ≠ 0) : c.recv.1 = c ∧ c.recv.2.2.2.2.1 = false := by
 obtain ⟨room, buf, snd, cH, closed⟩ := c
 unfold aQ.recv at *
 dsimp only at *
 repeat (first | split at h | split)
 all_goals first | exact ⟨rfl, rfl⟩ | (exfalso; exact h2 rfl) | cases h | skip
theorem Vo {c : aQ} (h : c.close.2.2.2 ≠ 0) : c.close.1 = c := by
 obtain ⟨room, buf, snd, cH, closed⟩ := c
 cases closed with
 | true => rfl
 | false => exact absurd rfl h
theorem Vp : gd hs (x.emit g i) ((x.abs hs).EJ g i) := by
 unfold Wd.emit Wd.EJ
 have e : (x.abs hs).out = x.out := rfl
 rw [e, jq]
 by_cases h : 1000 ≤ x.out.length
 ·rw [if_pos h, if_pos (by omega)]; rfl
 ·rw [if_neg h, if_neg (by omega)]; rfl
theorem Qt : gd hs (x.spawn g i) ((x.abs hs).y9 g i) := by
 unfold Wd.spawn Wd.y9
 rw [tS]
 by_cases h : 100 ≤ x.gs.length
 ·rw [if_pos h, if_pos (by omega)]; rfl
 ·rw [if_neg h, if_neg (by omega)]
  show _ = _
  rw [eL, sX, jq]
  congr 2
  unfold Wd.CB Wd.abs
  simp only [List.map_append, List.map_cons, List.map_nil]
  rw [show jo ⟨0, [eJ.begin i.a (aJ x g i.b)], .zero⟩ = ⟨0, [eJ.begin i.a (aJ x g i.b)], .zero⟩ from AP (by decide)]
theorem Vq (h0 : 0 ≤ i.a) (h1 : i.a < x.av.length) (hr : ((aX x.av i.a).send (aJ x g i.b)).2.2.1 = true → At x ((aX x.av i.a).send (aJ x g i.b)).2.1.g 2) :
  gd hs (x.send p g i) ((x.abs hs).EK p g i) := by
 have hp := On (p := p) (hs := hs) (k := i.a) (v := aJ x g i.b) hr
 unfold Wd.send Wd.EK
 rw [jq]
 cases hx : x.put p i.a (aJ x g i.b) with
 | fR l y => rw [hx] at hp; exact hp
 | dg n y =>
  rw [hx] at hp
  obtain ⟨rfl, hp⟩ := hp
  rw [hp, if_pos rfl]
  show _ = _
  unfold Wd.put at hx
  dsimp only at hx
  split at hx
  ·rename_i PK
   cases hx
   rw [(AQ (by rw [PK]; decide)).1, mG h0 h1]
  ·cases hx
 | on r =>
  obtain ⟨y, b⟩ := r
  rw [hx] at hp
  rw [hp]
  dsimp only
  cases b with
  | true => rw [if_pos rfl]; rfl
  | false =>
   rw [if_neg (by decide)]
   show _ = _
   have hy : y = x := by
    unfold Wd.put at hx
    dsimp only at hx
    split at hx
    ·cases hx
    ·injection hx with hx
     injection hx with h2 h3
     have hne : ((aX x.av i.a).send (aJ x g i.b)).2.2.2 ≠ 0 := fun e => by rw [e] at h3; cases h3
     rw [(AQ hne).2, (AQ hne).1] at h2
     simp only [Bool.false_eq_true, if_false] at h2
     rw [mG h0 h1] at h2
     exact h2.symm
   subst hy
   rw [tT]
   rfl
end
section
variable {p : cy} {x : Wd} {g : Int} {hs : List aN} {i : bY}
theorem Vr (h0 : 0 ≤ i.a) (h1 : i.a < x.av.length) (hr : (aX x.av i.a).recv.2.2.2.2.1 = true → At x (aX x.av i.a).recv.2.2.2.1.g 2) :
  (x.recv g i).abs hs = (x.abs hs).EL g i := by
 have hg := Oo (hs := hs) hr
 unfold Wd.recv Wd.EL
 rw [hg]
 dsimp only
 by_cases hb : (x.get i.a).2.2.2 = true
 ·rw [if_pos hb, if_pos hb, eL, eL]
 ·rw [if_neg hb, if_neg hb]
  have hy : (x.get i.a).1 = x := by
   unfold Wd.get at hb ⊢
   dsimp only at hb ⊢
   by_cases ZA : (aX x.av i.a).recv.2.2.1 = true
   ·rw [if_pos ZA] at hb; exact absurd rfl hb
   ·rw [if_neg ZA] at hb ⊢
    have hne : (aX x.av i.a).recv.2.2.2.2.2 ≠ 0 := fun e => hb (by simp [e])
    obtain ⟨r1, r2⟩ := Yw (by simpa using ZA) hne
    rw [r2, r1]
    simp only [Bool.false_eq_true, if_false]
    exact mG h0 h1
  rw [hy, tT]
  rfl
theorem Vs : (x.lock g i).abs hs = (x.abs hs).EM g i := by
 unfold Wd.lock Wd.EM za
 have e : cR (x.abs hs) i.a = cR x i.a := rfl
 rw [e]
 by_cases ho : (cR x i.a).owner = -1
 ·have : ((cR x i.a).take g).2 = true := by unfold Lk.take; rw [if_pos ho]
  rw [if_pos this, if_pos ho, tU]
 ·have : ((cR x i.a).take g).2 ≠ true := by unfold Lk.take; rw [if_neg ho]; show (false : Bool) ≠ true; decide
  rw [if_neg this, if_neg ho, tT, tU]
theorem Nk (h0 : 0 ≤ i.a) (h1 : i.a < x.aC.length) (hw : ∀ w ∈ (cR x i.a).waits, 0 ≤ w) : gd hs (x.unlock g i) ((x.abs hs).tR g i) := by
 unfold Wd.unlock Wd.tR
 have e : cR (x.abs hs) i.a = cR x i.a := rfl
 rw [e]
 by_cases h5 : ((cR x i.a).gR g).2.2 ≠ 0
 ·rw [if_pos h5, if_pos h5]
  show _ = _
  have : ((cR x i.a).gR g).1 = cR x i.a := by
   unfold Lk.gR at h5 ⊢
   split at h5
   ·rename_i hc; rw [if_pos hc]
   ·exact absurd rfl h5
  rw [this, Nj h0 h1]
 ·rw [if_neg h5, if_neg h5]
  have hv : ((cR x i.a).gR g).2.1 ≠ -1 ↔ 0 ≤ ((cR x i.a).gR g).2.1 := by
   unfold Lk.gR
   split
   ·show (-1 : Int) ≠ -1 ↔ 0 ≤ (-1 : Int); decide
   ·show (cR x i.a).waits.headD (-1) ≠ -1 ↔ 0 ≤ (cR x i.a).waits.headD (-1)
    cases hq : (cR x i.a).waits with
    | nil => decide
    | cons a l =>
     have := hw a (by rw [hq]; simp)
     simp only [List.headD_cons]
     omega
  by_cases hp : 0 ≤ ((cR x i.a).gR g).2.1
  ·rw [if_pos (hv.2 hp), if_pos hp]
   show _ = _
   rw [sX, tU]
  ·rw [if_neg (fun e => hp (hv.1 e)), if_neg hp]
   show _ = _
   rw [tU]
theorem zc : ∀ (l : List Wt) (x : Wd), (∀ v ∈ l, 0 ≤ v.g ∧ v.g < x.gs.length) → (l.foldl (cJ p) x).abs hs = l.foldl (dy p) (x.abs hs)
 | [], x, _ => rfl
 | v :: l, x, h => by
  obtain ⟨v0, v1⟩ := h v (by simp)
  have e : (cJ p x v).abs hs = dy p (x.abs hs) v ∧ (cJ p x v).gs.length = x.gs.length := by
   unfold cJ dy
   rw [cL, lN]
   by_cases h2 : (aa x v.g).st = 2
   ·rw [if_pos h2, if_pos h2]
    exact ⟨xH (v := { v with v := 0 }) v0 v1 h2, pM⟩
   ·rw [if_neg h2, if_neg h2]; exact ⟨rfl, rfl⟩
  rw [List.foldl_cons, List.foldl_cons, zc l _ (fun w hw => by rw [e.2]; exact h w (by simp [hw])), e.1]
theorem Vt (h0 : 0 ≤ i.a) (h1 : i.a < x.av.length) (hv : ∀ v ∈ (aX x.av i.a).close.2.1, 0 ≤ v.g ∧ v.g < x.gs.length) : gd hs (x.shut p i) ((x.abs hs).zN p i.a) := by
 unfold Wd.shut Wd.zN
 have e : (x.abs hs).av = x.av := rfl
 rw [e]
 dsimp only
 by_cases hc : (aX x.av i.a).close.2.2.2 ≠ 0
 ·rw [if_pos hc, if_pos hc]
  show _ = _
  rw [Vo hc, mG h0 h1]
 ·rw [if_neg hc, if_neg hc]
  by_cases hp : 0 < (aX x.av i.a).close.2.2.1.length
  ·rw [if_pos hp, if_pos hp]; rfl
  ·rw [if_neg hp, if_neg hp]
   show _ = _
   rw [zc _ (x.bg i.a _) hv]
   rfl
theorem GP {v : Wt} {s : Int} : (x.received p v s).end_ = x.end_ := by
 unfold Wd.received; dsimp only
 split <;> rfl
theorem Yx {k v : Int} : ∀ y b, x.put p k v = .on (y, b) → y.end_ = x.end_ := by
 intro y b h
 unfold Wd.put at h
 dsimp only at h
 split at h
 ·cases h
 ·injection h with h
  injection h with h2 h3
  rw [← h2]
  split
  ·exact GP
  ·rfl
theorem JE {k v : Int} (h0 : 0 ≤ k) (h1 : k < x.av.length) : ∀ n y, x.put p k v = .dg n y → n = -1 ∧ y = x := by
 intro n y h
 unfold Wd.put at h
 dsimp only at h
 split at h
 ·rename_i PK
  cases h
  exact ⟨rfl, by rw [(AQ (by rw [PK]; decide)).1, mG h0 h1]⟩
 ·cases h
end
section
variable {p : cy} {x : Wd} {g : Int} {hs : List aN} {i : bY}
theorem CG : (x.kx p g i).abs hs = ((x.next g).abs hs).nq p g i := by
 unfold Wd.kx Wd.nq
 dsimp only
 cases els (aB p i) with
 | some k => dsimp only; rw [eL]
 | none =>
  dsimp only
  rw [tT, cL, mF]
  rfl
theorem GQ {k : Int} (he : x.end_ = 0) (h0 : 0 ≤ ((aB p i).getD k.toNat ⟨0, 0, 0⟩).ch) (h1 : ((aB p i).getD k.toNat ⟨0, 0, 0⟩).ch < x.av.length)
  (vl : ∀ v, ((aX x.av ((aB p i).getD k.toNat ⟨0, 0, 0⟩).ch).send v).2.2.1 = true → At (x.next g) ((aX x.av ((aB p i).getD k.toNat ⟨0, 0, 0⟩).ch).send v).2.1.g 2)
  (hs2 : (aX x.av ((aB p i).getD k.toNat ⟨0, 0, 0⟩).ch).recv.2.2.2.2.1 = true → At (x.next g) (aX x.av ((aB p i).getD k.toNat ⟨0, 0, 0⟩).ch).recv.2.2.2.1.g 2) :
  gd hs (x.kT p g i k) (((x.next g).abs hs).tQ p g i k) := by
 unfold Wd.kT Wd.tQ
 generalize (aB p i).getD k.toNat ⟨0, 0, 0⟩ = c at h0 h1 vl hs2
 dsimp only
 by_cases hw : c.way = 1
 ·rw [if_pos hw, if_pos hw, jq]
  have hp := On (p := p) (hs := hs) (x := x.next g) (k := c.ch) (v := aJ (x.next g) g c.bH) (vl _)
  cases hx : (x.next g).put p c.ch (aJ (x.next g) g c.bH) with
  | fR l y => rw [hx] at hp; exact hp
  | dg n y =>
   rw [hx] at hp
   obtain ⟨_, hp⟩ := hp
   obtain ⟨hn, hy⟩ := JE (x := x.next g) h0 h1 n y hx
   rw [hp]
   dsimp only
   rw [if_pos (by show (2 : Int) ≠ 0; decide)]
   show _ = _
   rw [hy, hn]
  | on r =>
   obtain ⟨y, b⟩ := r
   rw [hx] at hp
   dsimp only at hp ⊢
   rw [hp]
   dsimp only
   have hye : y.end_ = 0 := by rw [Yx y b hx]; exact he
   rw [if_neg (by show ¬ y.end_ ≠ 0; rw [hye]; decide)]
   show _ = _
   rw [eL]
 ·rw [if_neg hw, if_neg hw]
  have hg := Oo (hs := hs) (x := x.next g) (k := c.ch) hs2
  rw [hg]
  dsimp only
  show _ = _
  rw [eL, eL]
end
theorem oP {a b c : aN} (h : a.before b = false) (h2 : b.before c = false) : a.before c = false := by
 unfold aN.before at *
 simp only [Bool.or_eq_false_iff, Bool.and_eq_false_iff, decide_eq_false_iff_not, beq_eq_false_iff_ne] at *
 omega
theorem Vu {a b : aN} (h : a.before b = true) : b.before a = false := by
 unfold aN.before at *
 simp only [Bool.or_eq_true, Bool.and_eq_true, decide_eq_true_iff, beq_iff_eq, Bool.or_eq_false_iff, Bool.and_eq_false_iff, decide_eq_false_iff_not, beq_eq_false_iff_ne] at *
 omega
theorem GR (a : aN) : a.before a = false := by
 unfold aN.before
 simp
def jX (l : List aN) : Prop := ∀ i, 0 < i → i < l.length → (fx l i).before (fx l ((i - 1) / 4)) = false
theorem jX.root {l : List aN} (h : jX l) : ∀ i, i < l.length → (fx l i).before (fx l 0) = false := by
 intro i
 induction i using Nat.strongRecOn with
 | ind i ih =>
  intro hi
  by_cases h0 : i = 0
  ·subst h0; exact GR _
  ·exact oP (h i (by omega) hi) (ih ((i - 1) / 4) (by omega) (by omega))
theorem CH {l : List aN} {i j m : Nat} (hi : i < l.length) (hj : j < l.length) (hne : i ≠ j) : fx (ee l i j) m = if m = i then fx l j else if m = j then fx l i else fx l m := by
 unfold ee
 rw [fx, List.getD_eq_getElem?_getD, List.getElem?_set, List.length_set]
 by_cases h1 : j = m
 ·subst h1
  rw [if_pos rfl, if_pos hj, if_neg (fun e => hne e.symm), if_pos rfl]; rfl
 ·rw [if_neg h1, List.getElem?_set]
  by_cases h2 : i = m
  ·subst h2
   rw [if_pos rfl, if_pos hi, if_pos rfl]; rfl
  ·rw [if_neg h2, if_neg (fun e => h2 e.symm), if_neg (fun e => h1 e.symm), ← List.getD_eq_getElem?_getD]; rfl
def UpOk (l : List aN) (i : Nat) : Prop := (∀ j, 0 < j → j < l.length → j ≠ i → (fx l j).before (fx l ((j - 1) / 4)) = false) ∧
 (0 < i → ∀ j, 0 < j → j < l.length → (j - 1) / 4 = i → (fx l j).before (fx l ((i - 1) / 4)) = false)
theorem Vv : ∀ (f i : Nat) (l : List aN), i ≤ f → i < l.length → UpOk l i → jX (N9 f i l)
 | 0, i, l, hf, hi, h => by
  have : i = 0 := by omega
  subst this
  intro j j0 jl
  exact h.1 j j0 jl (by omega)
 | f + 1, i, l, hf, hi, h => by
  rw [Ci]
  by_cases hb : 0 < i ∧ (fx l i).before (fx l ((i - 1) / 4)) = true
  ·rw [if_pos hb]
   obtain ⟨i0, hb⟩ := hb
   have hpi : (i - 1) / 4 < i := by omega
   generalize hp : (i - 1) / 4 = q at hb hpi
   have hql : q < l.length := by omega
   have Q2 : ∀ m, fx (ee l i q) m = if m = i then fx l q else if m = q then fx l i else fx l m := fun m => CH hi hql (by omega)
   refine Vv f q _ (by omega) (by rw [cO]; exact hql) ⟨fun j j0 jl jne => ?_, fun q0 j j0 jl je => ?_⟩
   ·rw [cO] at jl
    rw [Q2, Q2]
    by_cases e1 : j = i
    ·subst e1
     rw [if_pos rfl, hp, if_neg (by omega), if_pos rfl]
     exact Vu hb
    ·rw [if_neg e1, if_neg jne]
     by_cases e2 : (j - 1) / 4 = i
     ·rw [if_pos e2]
      have := h.2 i0 j j0 jl e2
      rw [hp] at this
      exact this
     ·rw [if_neg e2]
      by_cases e3 : (j - 1) / 4 = q
      ·rw [if_pos e3]
       have := h.1 j j0 jl e1
       rw [e3] at this
       exact oP this (Vu hb)
      ·rw [if_neg e3]
       exact h.1 j j0 jl e1
   ·rw [cO] at jl
    rw [Q2, Q2]
    have hq := h.1 q q0 hql (by omega)
    rw [if_neg (show ¬ (q - 1) / 4 = i by omega), if_neg (show ¬ (q - 1) / 4 = q by omega)]
    by_cases e1 : j = i
    ·rw [if_pos e1]; exact hq
    ·rw [if_neg e1, if_neg (show ¬ j = q by omega)]
     have := h.1 j j0 jl e1
     rw [je] at this
     exact oP this hq
  ·rw [if_neg hb]
   intro j j0 jl
   by_cases e : j = i
   ·subst e
    have : ¬ (fx l j).before (fx l ((j - 1) / 4)) = true := fun hh => hb ⟨j0, hh⟩
    simpa using this
   ·exact h.1 j j0 jl e
theorem JF {l : List aN} {x : aN} (h : jX l) : jX (kU l x) := by
 unfold kU
 have ha : ∀ m, m < l.length → fx (l ++ [x]) m = fx l m := fun m hm => by
  unfold fx; rw [List.getD_eq_getElem?_getD, List.getElem?_append_left hm, ← List.getD_eq_getElem?_getD]
 refine Vv _ _ _ (Nat.le_refl _) (by simp) ⟨fun j j0 jl jne => ?_, fun i0 j j0 jl je => ?_⟩
 ·rw [List.length_append, List.length_singleton] at jl
  rw [ha j (by omega), ha _ (by omega)]
  exact h j j0 (by omega)
 ·rw [List.length_append, List.length_singleton] at jl
  omega
theorem nL {l : List aN} : ∀ (n k out : Nat), (∀ c, (c = out ∨ (k ≤ c ∧ c < k + n ∧ c < l.length)) → (fx l c).before (fx l (dY l n k out)) = false) ∧
  (dY l n k out = out ∨ (k ≤ dY l n k out ∧ dY l n k out < k + n ∧ dY l n k out < l.length))
 | 0, k, out => by
  refine ⟨fun c hc => ?_, .inl rfl⟩
  rcases hc with rfl | hc
  ·exact GR _
  ·omega
 | n + 1, k, out => by
  rw [qc]
  by_cases hk : k < l.length
  ·rw [if_pos hk]
   by_cases hb : (fx l k).before (fx l out) = true
   ·rw [if_pos hb]
    obtain ⟨a, b⟩ := nL n (k + 1) k
    refine ⟨fun c hc => ?_, ?_⟩
    ·rcases hc with rfl | hc
     ·exact oP (Vu hb) (a k (.inl rfl))
     ·by_cases e : c = k
      ·exact a c (.inl e)
      ·exact a c (.inr (by omega))
    ·rcases b with b | b
     ·right; rw [b]; omega
     ·right; omega
   ·rw [if_neg hb]
    have hb' : (fx l k).before (fx l out) = false := by simpa using hb
    obtain ⟨a, b⟩ := nL n (k + 1) out
    refine ⟨fun c hc => ?_, ?_⟩
    ·rcases hc with rfl | hc
     ·exact a c (.inl rfl)
     ·by_cases e : c = k
      ·subst e; exact oP hb' (a out (.inl rfl))
      ·exact a c (.inr (by omega))
    ·rcases b with b | b
     ·left; exact b
     ·right; omega
  ·rw [if_neg hk]
   refine ⟨fun c hc => ?_, .inl rfl⟩
   rcases hc with rfl | hc
   ·exact GR _
   ·omega
def DownOk (l : List aN) (i : Nat) : Prop := (∀ j, 0 < j → j < l.length → (j - 1) / 4 ≠ i → (fx l j).before (fx l ((j - 1) / 4)) = false) ∧
 (0 < i → ∀ j, 0 < j → j < l.length → (j - 1) / 4 = i → (fx l j).before (fx l ((i - 1) / 4)) = false)
theorem JG : ∀ (f i : Nat) (l : List aN), l.length ≤ f + i → i < l.length → DownOk l i → jX (nh f i l)
 | 0, i, l, hf, hi, h => by omega
 | f + 1, i, l, hf, hi, h => by
  rw [Cj]
  obtain ⟨la, lb⟩ := nL (l := l) 4 (4 * i + 1) i
  replace la : ∀ c, (c = i ∨ (4 * i + 1 ≤ c ∧ c < 4 * i + 1 + 4 ∧ c < l.length)) → (fx l c).before (fx l (fj l i)) = false := la
  replace lb : fj l i = i ∨ (4 * i + 1 ≤ fj l i ∧ fj l i < 4 * i + 1 + 4 ∧ fj l i < l.length) := lb
  by_cases hm : fj l i = i
  ·rw [if_pos hm]
   rw [hm] at la
   intro j j0 jl
   by_cases e : (j - 1) / 4 = i
   ·rw [e]; exact la j (.inr (by omega))
   ·exact h.1 j j0 jl e
  ·rw [if_neg hm]
   generalize fj l i = m at la lb hm
   have lb' : 4 * i + 1 ≤ m ∧ m < 4 * i + 1 + 4 ∧ m < l.length := by rcases lb with lb | lb; exact absurd lb hm; exact lb
   obtain ⟨m1, m2, m3⟩ := lb'
   have pm : (m - 1) / 4 = i := by omega
   have Q2 : ∀ q, fx (ee l i m) q = if q = i then fx l m else if q = m then fx l i else fx l q := fun q => CH hi m3 (by omega)
   refine JG f m _ (by rw [cO]; omega) (by rw [cO]; exact m3) ⟨fun j j0 jl jne => ?_, fun _ j j0 jl je => ?_⟩
   ·rw [cO] at jl
    rw [Q2, Q2]
    by_cases e1 : j = i
    ·subst e1
     rw [if_pos rfl, if_neg (show ¬ (j - 1) / 4 = j by omega), if_neg jne]
     exact h.2 j0 m (by omega) m3 pm
    ·rw [if_neg e1]
     by_cases e2 : j = m
     ·subst e2
      rw [if_pos rfl, if_pos pm]
      exact la i (.inl rfl)
     ·rw [if_neg e2]
      by_cases e3 : (j - 1) / 4 = i
      ·rw [if_pos e3]; exact la j (.inr (by omega))
      ·rw [if_neg e3, if_neg jne]; exact h.1 j j0 jl e3
   ·rw [cO] at jl
    rw [Q2, Q2, pm, if_pos rfl, if_neg (show ¬ j = i by omega), if_neg (show ¬ j = m by omega)]
    have := h.1 j j0 jl (by omega)
    rw [je] at this
    exact this
theorem CI {l : List aN} (h : jX l) : jX (cS l 0) := by
 unfold cS
 have ht : ∀ (l' : List aN) (n m : Nat), m < n → fx (l'.take n) m = fx l' m := fun l' n m hm => by
  unfold fx; rw [List.getD_eq_getElem?_getD, List.getElem?_take_of_lt hm, ← List.getD_eq_getElem?_getD]
 by_cases hl : 0 < l.length - 1
 ·rw [if_pos hl]
  show jX (nh l.length 0 ((ee l 0 (l.length - 1)).take (l.length - 1)))
  have Q2 : ∀ q, fx (ee l 0 (l.length - 1)) q = if q = 0 then fx l (l.length - 1) else if q = l.length - 1 then fx l 0 else fx l q := fun q => CH (by omega) (by omega) (by omega)
  have hlen : ((ee l 0 (l.length - 1)).take (l.length - 1)).length = l.length - 1 := by rw [List.length_take, cO]; omega
  refine JG _ _ _ (by rw [hlen]; omega) (by rw [hlen]; exact hl) ⟨fun j j0 jl jne => ?_, fun i0 => by omega⟩
  rw [hlen] at jl
  rw [ht _ _ _ (by omega), ht _ _ _ (by omega), Q2, Q2, if_neg (by omega), if_neg (by omega), if_neg jne, if_neg (by omega)]
  exact h j j0 (by omega)
 ·rw [if_neg hl]
  intro j j0 jl
  rw [List.length_take, cO] at jl
  omega
theorem EO (now : Int) : ∀ (f : Nat) (l : List aN), l.length ≤ f → (dM f l now).2 = (cq f l).takeWhile (pQ now) ∧ cq (dM f l now).1.length (dM f l now).1 = (cq f l).dropWhile (pQ now)
 | 0, l, h => by
  have : l = [] := List.length_eq_zero_iff.1 (by omega)
  subst this
  exact ⟨rfl, rfl⟩
 | f + 1, l, h => by
  rw [pL, iy]
  by_cases hl : 0 < l.length
  ·rw [if_pos hl]
   by_cases hd : (fx l 0).t ≤ now
   ·rw [if_pos ⟨hl, hd⟩]
    have hdb : pQ now (fx l 0) = true := decide_eq_true hd
    obtain ⟨a, b⟩ := EO now f (cS l 0) (by rw [jx]; omega)
    rw [List.takeWhile_cons, List.dropWhile_cons, if_pos hdb, if_pos hdb]
    exact ⟨by rw [← a], b⟩
   ·rw [if_neg (fun e => hd e.2)]
    have hdb : ¬ pQ now (fx l 0) = true := by unfold pQ; simpa using hd
    rw [List.takeWhile_cons, List.dropWhile_cons, if_neg hdb, if_neg hdb]
    refine ⟨rfl, ?_⟩
    have key : ∀ (n m : Nat) (l : List aN), l.length ≤ n → l.length ≤ m → cq n l = cq m l := by
     intro n
     induction n with
     | zero =>
      intro m l h1 _
      have : l = [] := List.length_eq_zero_iff.1 (by omega)
      subst this
      cases m with
      | zero => rfl
      | succ m => rfl
     | succ n ih =>
      intro m l h1 h2
      cases m with
      | zero =>
       have : l = [] := List.length_eq_zero_iff.1 (by omega)
       subst this; rfl
      | succ m =>
       rw [iy, iy]
       split
       ·rw [ih m _ (by rw [jx]; omega) (by rw [jx]; omega)]
       ·rfl
    rw [key l.length (f + 1) l (Nat.le_refl _) h, iy, if_pos hl]
  ·rw [if_neg (fun e => hl e.1), if_neg hl]
   have : l = [] := List.length_eq_zero_iff.1 (by omega)
   subst this
   exact ⟨rfl, rfl⟩
theorem mH : ∀ (n : Nat) (l : List aN), l.length ≤ n → jX l → (cq n l).Perm l ∧ (cq n l).Pairwise (fun a b => b.before a = false)
 | 0, l, h, _ => by
  have : l = [] := List.length_eq_zero_iff.1 (by omega)
  subst this
  exact ⟨List.Perm.refl _, List.Pairwise.nil⟩
 | n + 1, l, h, ho => by
  rw [iy]
  by_cases hl : 0 < l.length
  ·rw [if_pos hl]
   obtain ⟨a, b⟩ := mH n (cS l 0) (by rw [jx]; omega) (CI ho)
   have hp := xF (l := l) hl
   refine ⟨(a.cons _).trans hp.symm, List.pairwise_cons.2 ⟨fun y hy => ?_, b⟩⟩
   have hm : y ∈ l := hp.mem_iff.2 (List.mem_cons_of_mem _ (a.mem_iff.1 hy))
   obtain ⟨j, hj, rfl⟩ := List.getElem_of_mem hm
   rw [← Gs hj]
   exact ho.root j hj
  ·rw [if_neg hl]
   have : l = [] := List.length_eq_zero_iff.1 (by omega)
   subst this
   exact ⟨List.Perm.refl _, List.Pairwise.nil⟩
theorem we (x : aN) : ∀ l, (ia x l).Perm (l ++ [x])
 | [] => List.Perm.refl _
 | y :: l => by
  unfold ia
  split
  ·exact (List.perm_append_singleton x (y :: l)).symm
  ·exact (we x l).cons y
theorem EP (x : aN) : ∀ l : List aN, l.Pairwise (fun a b => b.before a = false) → (∀ y ∈ l, y.seq < x.seq) → (ia x l).Pairwise (fun a b => b.before a = false)
 | [], _, _ => List.pairwise_singleton _ _
 | y :: l, hp, hs => by
  obtain ⟨h1, h2⟩ := List.pairwise_cons.1 hp
  have hy := hs y (by simp)
  unfold ia
  by_cases hlt : x.t < y.t
  ·rw [if_pos hlt]
   have hxy : y.before x = false := by
    unfold aN.before
    simp only [Bool.or_eq_false_iff, Bool.and_eq_false_iff, decide_eq_false_iff_not, beq_eq_false_iff_ne]
    omega
   refine List.pairwise_cons.2 ⟨fun z hz => ?_, hp⟩
   rcases List.mem_cons.1 hz with rfl | hz
   ·exact hxy
   ·exact oP (h1 z hz) hxy
  ·rw [if_neg hlt]
   refine List.pairwise_cons.2 ⟨fun z hz => ?_, EP x l h2 (fun z hz => hs z (by simp [hz]))⟩
   rcases List.mem_append.1 ((we x l).mem_iff.1 hz) with hz | hz
   ·exact h1 z hz
   ·rw [List.mem_singleton.1 hz]
    unfold aN.before
    simp only [Bool.or_eq_false_iff, Bool.and_eq_false_iff, decide_eq_false_iff_not, beq_eq_false_iff_ne]
    omega
theorem Qu {l : List aN} {x : aN} (ho : jX l) (hd : l.Pairwise (fun a b => a.seq ≠ b.seq)) (hs : ∀ y ∈ l, y.seq < x.seq) :
  cq (kU l x).length (kU l x) = ia x (cq l.length l) := by
 obtain ⟨a1, b1⟩ := mH _ (kU l x) (Nat.le_refl _) (JF ho)
 obtain ⟨a2, b2⟩ := mH _ l (Nat.le_refl _) ho
 have b3 := EP x _ b2 (fun y hy => hs y (a2.mem_iff.1 hy))
 have p1 : (cq (kU l x).length (kU l x)).Perm (l ++ [x]) := a1.trans pO
 have p2 : (ia x (cq l.length l)).Perm (l ++ [x]) := (we x _).trans (a2.append_right [x])
 have Jn : (l ++ [x]).Pairwise (fun a b => a.seq ≠ b.seq) := by
  rw [List.pairwise_append]
  refine ⟨hd, List.pairwise_singleton _ _, fun a ha b hb => ?_⟩
  rw [List.mem_singleton.1 hb]
  have := hs a ha
  omega
 refine List.Perm.eq_of_pairwise (fun a b ha hb h1 h2 => ?_) b1 b3 (p1.trans p2.symm)
 have ha' := p1.mem_iff.1 ha
 have hb' := p2.mem_iff.1 hb
 have hsq : a.seq = b.seq := by
  unfold aN.before at h1 h2
  simp only [Bool.or_eq_false_iff, Bool.and_eq_false_iff, decide_eq_false_iff_not, beq_eq_false_iff_ne] at h1 h2
  omega
 by_cases e : a = b
 ·exact e
 ·exfalso
  obtain ⟨i, hi, rfl⟩ := List.getElem_of_mem ha'
  obtain ⟨j, hj, rfl⟩ := List.getElem_of_mem hb'
  have hij : i ≠ j := fun h => e (by subst h; rfl)
  rw [List.pairwise_iff_getElem] at Jn
  rcases Nat.lt_or_gt_of_ne hij with h | h
  ·exact Jn i j hi hj h hsq
  ·exact Jn j i hj hi h hsq.symm
def jz (x : Wd) : List aN := cq x.hl.length x.hl
def Wd.doc (x : Wd) : Wd := x.abs (jz x)
structure uW (x : Wd) : Prop where
 ok : jX x.hl
 ne : x.hl.Pairwise (fun a b => a.seq ≠ b.seq)
 lt : ∀ y ∈ x.hl, 0 ≤ y.seq ∧ y.seq < x.di
section
variable {p : cy} {x : Wd} {g : Int} {i : bY}
theorem Qv (h : uW x) : (x.sleep g i).doc = x.doc.y7 g i := by
 unfold Wd.sleep Wd.y7 Wd.doc
 have e : gx (x.abs (jz x)) g i = gx x g i := by unfold gx; rw [jq]
 rw [e]
 by_cases hp : 0 < gx x g i
 ·rw [if_pos hp, if_pos hp]
  have hs := Qu (l := x.hl) (x := ⟨IntKind.wrap .u64 (x.clock + IntKind.wrap .u64 (gx x g i)), x.di, g⟩) h.ok h.ne (fun y hy => (h.lt y hy).2)
  unfold jz
  dsimp only [Wd.bp]
  rw [hs]
  unfold Wd.mE Wd.bp
  have hg : ∀ (z : Wd), z.gs = (x.abs (jz x)).gs → aa z g = jo (aa x g) := fun z hz => by
   have : aa z g = aa (x.abs (jz x)) g := by unfold aa; rw [hz]
   rw [this, cL]
  unfold Wd.abs
  simp only [List.map_set]
  congr 1
  congr 1
  show jo ⟨3, (aa x g).fs, (aa x g).wt⟩ = ⟨3, _, .zero⟩
  rw [AP (by decide)]
  congr 1
  exact (iX (y := aa x g)).symm.trans (congrArg gG.fs (hg _ rfl).symm)
 ·rw [if_neg hp, if_neg hp]
theorem Vw : (x.tick).doc = x.doc.EE := by
 unfold Wd.tick Wd.EE Wd.doc
 have e : (x.abs (jz x)).end_ = x.end_ := rfl
 rw [e]
 by_cases he : x.end_ ≠ 0
 ·rw [if_pos he, if_pos he]; rfl
 ·rw [if_neg he, if_neg he]
  have ec : (x.abs (jz x)).clock = x.clock := rfl
  have eh : (x.abs (jz x)).hl = cq x.hl.length x.hl := rfl
  rw [ec, eh]
  obtain ⟨a, b⟩ := EO (IntKind.wrap .u64 (x.clock + 1)) x.hl.length x.hl (Nat.le_refl _)
  dsimp only
  rw [← a, ← b]
  generalize dM x.hl.length x.hl (IntKind.wrap .u64 (x.clock + 1)) = r
  have hh : ∀ (l : List Int) (y : Wd), (l.foldl Wd.eU y).hl = y.hl := by
   intro l
   induction l with
   | nil => intro y; rfl
   | cons g l ih => intro y; rw [List.foldl_cons, ih]; rfl
  unfold jz
  rw [hh, EN]
  rfl
theorem uW.same {y : Wd} (h : uW x) (h1 : y.hl = x.hl) (h2 : y.di = x.di) : uW y := ⟨by rw [h1]; exact h.ok, by rw [h1]; exact h.ne, by rw [h1, h2]; exact h.lt⟩
theorem uW.new (h : x.hl = []) : uW x := ⟨by rw [h]; intro i _ hi; simp at hi, by rw [h]; exact List.Pairwise.nil, by rw [h]; intro y hy; cases hy⟩
theorem uW.sleep (h : uW x) (h0 : 0 ≤ x.di) (hs : x.di + 1 < 18446744073709551616) : uW (x.sleep g i) ∧ ((x.sleep g i).di = x.di ∨ (x.sleep g i).di = x.di + 1) := by
 unfold Wd.sleep
 by_cases hp : 0 < gx x g i
 ·rw [if_pos hp]
  have ew : IntKind.wrap .u64 (x.di + 1) = x.di + 1 := by
   show (x.di + 1) % (2 ^ 64 : Int) = x.di + 1
   exact Int.emod_eq_of_lt (by omega) (by omega)
  have hpm := pO (l := x.hl) (x := ⟨IntKind.wrap .u64 (x.clock + IntKind.wrap .u64 (gx x g i)), x.di, g⟩)
  refine ⟨⟨JF h.ok, ?_, ?_⟩, .inr ew⟩
  ·refine (List.Perm.pairwise_iff (fun hxy => fun e => hxy e.symm) hpm).2 ?_
   rw [List.pairwise_append]
   refine ⟨h.ne, List.pairwise_singleton _ _, fun a ha b hb => ?_⟩
   rw [List.mem_singleton.1 hb]
   have := (h.lt a ha).2
   show a.seq ≠ x.di
   omega
  ·intro y hy
   show 0 ≤ y.seq ∧ y.seq < IntKind.wrap .u64 (x.di + 1)
   rw [ew]
   rcases List.mem_append.1 (hpm.mem_iff.1 hy) with hy | hy
   ·have := h.lt y hy; omega
   ·rw [List.mem_singleton.1 hy]
    show 0 ≤ x.di ∧ x.di < x.di + 1
    omega
 ·rw [if_neg hp]; exact ⟨h, .inl rfl⟩
theorem JH : ∀ (f : Nat) (l : List aN) (now : Int), jX l → jX (dM f l now).1
 | 0, l, now, h => h
 | f + 1, l, now, h => by
  rw [pL]
  split
  ·exact JH f _ now (CI h)
  ·exact h
theorem uW.tick (h : uW x) : uW x.tick ∧ x.tick.di = x.di := by
 unfold Wd.tick
 by_cases he : x.end_ ≠ 0
 ·rw [if_pos he]; exact ⟨h.same rfl rfl, rfl⟩
 ·rw [if_neg he]
  dsimp only
  have hp := vX x.hl.length x.hl (IntKind.wrap .u64 (x.clock + 1))
  have ho := JH x.hl.length x.hl (IntKind.wrap .u64 (x.clock + 1)) h.ok
  generalize dM x.hl.length x.hl (IntKind.wrap .u64 (x.clock + 1)) = r at hp ho
  have hh : ∀ (l : List Int) (y : Wd), (l.foldl Wd.eU y).hl = y.hl ∧ (l.foldl Wd.eU y).di = y.di := by
   intro l
   induction l with
   | nil => intro y; exact ⟨rfl, rfl⟩
   | cons g l ih => intro y; rw [List.foldl_cons]; exact ⟨(ih _).1, (ih _).2⟩
  have h1 := hh (r.2.map (·.id)) { x with clock := IntKind.wrap .u64 (x.clock + 1), hl := r.1, ready := [] }
  have hn := (List.Perm.pairwise_iff (R := fun a b : aN => a.seq ≠ b.seq) (fun hxy => fun e => hxy e.symm) hp).1 h.ne
  rw [List.pairwise_append] at hn
  refine ⟨⟨by rw [h1.1]; exact ho, by rw [h1.1]; exact hn.2.1, ?_⟩, h1.2⟩
  rw [h1.1, h1.2]
  intro y hy
  exact h.lt y (hp.mem_iff.2 (List.mem_append_right _ hy))
end
def Wd.jY (p : cy) (x : Wd) (g : Int) (i : bY) (d : Int) : Wd :=
 if i.op = 9 then x.zO g i
 else if i.op = 10 then x.EI g i
 else if i.op = 11 then x.y9 g i
 else if i.op = 13 then x.EK p g i
 else if i.op = 14 then x.EL g i
 else if i.op = 15 then x.zN p i.a
 else if i.op = 16 then x.nt p g i d
 else if i.op = 17 then x.y7 g i
 else if i.op = 18 then x.EM g i
 else if i.op = 19 then x.tR g i
 else if i.op = 20 then x.EJ g i
 else if i.op = 21 then x.aV g i.a (d.tmod i.b)
 else if i.op = 22 then x.iB i.a
 else x
section
variable {p : cy} {x : Wd} {g : Int} {i : bY} {hs : List aN}
theorem zP {v : Wt} {s : Int} : (x.received p v s).hl = x.hl := by
 unfold Wd.received; dsimp only
 split <;> rfl
theorem Yy {v : Wt} : (x.sent v).hl = x.hl := by
 unfold Wd.sent
 split <;> rfl
theorem hl_put {k v : Int} : ∀ y b, x.put p k v = .on (y, b) → y.hl = x.hl := by
 intro y b h
 unfold Wd.put at h
 dsimp only at h
 split at h
 ·cases h
 ·injection h with h
  injection h with h2 h3
  rw [← h2]
  split
  ·exact zP
  ·rfl
theorem Vx {k : Int} : (x.get k).1.hl = x.hl := by
 have h : (if (aX x.av k).recv.2.2.2.2.1 = true then (x.bg k (aX x.av k).recv.1).sent (aX x.av k).recv.2.2.2.1 else x.bg k (aX x.av k).recv.1).hl = x.hl := by
  split
  ·exact Yy
  ·rfl
 unfold Wd.get; dsimp only
 split
 ·exact h
 ·exact h
theorem JI : ∀ (l : List Wt) (x : Wd), (l.foldl (cJ p) x).hl = x.hl
 | [], x => rfl
 | v :: l, x => by
  rw [List.foldl_cons, JI l]
  unfold cJ
  split
  ·exact zP
  ·rfl
end
end Go.Proofs
namespace Go.Proofs
open Go.AF
set_option maxRecDepth 100000
set_option maxHeartbeats 1000000
attribute [local irreducible] bF dG fa dP aF eY aE b7 aO bj bJ aM
attribute [local irreducible] zd dO
structure ZB (p : cy) (x : Wd) (g : Int) (i : bY) (d : Int) : Prop where
 b9 : i.op = 9 → aR i.b
 b10 : i.op = 10 → aR i.a ∧ (2 ≤ (aa x g).fs.length → aR (Dz (aa x g).fs).mu)
 b11 : i.op = 11 → aR i.b ∧ aR i.c
 b13 : i.op = 13 → aR i.b ∧ 0 ≤ i.a ∧ i.a < x.av.length ∧ EG p x i.a (aJ x g i.b)
 b14 : i.op = 14 → aR i.b ∧ aR i.c ∧ 0 ≤ i.a ∧ i.a < x.av.length ∧ EH x i.a
 b15 : i.op = 15 → 0 ≤ i.a ∧ i.a < x.av.length ∧ ((aX x.av i.a).close.2.2.2 = 0 → tP p (x.bg i.a (aX x.av i.a).close.1) (aX x.av i.a).close.2.1) ∧ (aX x.av i.a).close.2.1.length ≤ 1000000
 b16 : i.op = 16 → ng p i ∧ (∀ c ∈ aB p i, c.Ok x.av.length) ∧ aR i.c ∧ 0 ≤ d ∧ (∀ c ∈ aB p i, c.way = 1 → EG p x c.ch (aJ x g c.bH)) ∧ (∀ c ∈ aB p i, c.way = 0 → EH x c.ch)
 b17 : i.op = 17 → aR i.a
 b18 : i.op = 18 → 0 ≤ i.a ∧ i.a < x.aC.length ∧ CD (cR x i.a)
 b19 : i.op = 19 → 0 ≤ i.a ∧ i.a < x.aC.length ∧ CD (cR x i.a) ∧ (∀ w ∈ (cR x i.a).waits, 0 ≤ w ∧ w < x.gs.length)
 b20 : i.op = 20 → aR i.a
 b21 : i.op = 21 → aR i.a ∧ i.b ≠ 0
 b22 : i.op = 22 → True
section
variable {R : Mem} {L L' : List HP} {M : Mem} {K : Value → Mem → Prop} {Kp : List PanicEntry → Mem → Prop} {a : Al} {p : cy} {x : Wd} {g : Int} {i : bY} {d : Int}
theorem JJ (h : Hp R L M) (hw : eN R a p x) (hg : aW x g) (hs : x.Sm) (hc : ZB p x g i d)
  (k : ∀ R' a' M', R.le R' → eN R' a' p (x.jY p g i d) → Hp R' L M' → K (gD a' p (x.jY p g i d)) M') :
  ae Tryz.prog 113 #[gD a p x, .int .i64 g, .agg #[.int .i64 i.op, .int .i64 i.a, .int .i64 i.b, .int .i64 i.c], .int .i64 d] M K Kp := by
 unfold Wd.jY at k
 by_cases e9 : i.op = 9
 ·have c := hc.b9 e9
  simp only [if_pos e9] at k
  exact JA h hw hg hs e9 c k
 simp only [if_neg e9] at k
 by_cases PK : i.op = 10
 ·have c := hc.b10 PK
  simp only [if_pos PK] at k
  exact GB h hw hg hs PK c.1 c.2 k
 simp only [if_neg PK] at k
 by_cases Zx : i.op = 11
 ·have c := hc.b11 Zx
  simp only [if_pos Zx] at k
  exact GL h hw hg hs Zx c.1 c.2 k
 simp only [if_neg Zx] at k
 by_cases e13 : i.op = 13
 ·have c := hc.b13 e13
  simp only [if_pos e13] at k
  exact GJ h hw hg hs e13 c.1 c.2.1 c.2.2.1 c.2.2.2 k
 simp only [if_neg e13] at k
 by_cases e14 : i.op = 14
 ·have c := hc.b14 e14
  simp only [if_pos e14] at k
  exact GK h hw hg hs e14 c.1 c.2.1 c.2.2.1 c.2.2.2.1 c.2.2.2.2 k
 simp only [if_neg e14] at k
 by_cases e15 : i.op = 15
 ·have c := hc.b15 e15
  simp only [if_pos e15] at k
  exact GC h hw hg hs e15 c.1 c.2.1 c.2.2.1 c.2.2.2 k
 simp only [if_neg e15] at k
 by_cases Gk : i.op = 16
 ·have c := hc.b16 Gk
  simp only [if_pos Gk] at k
  exact GD h hw hg hs Gk c.1 c.2.1 c.2.2.1 c.2.2.2.1 c.2.2.2.2.1 c.2.2.2.2.2 k
 simp only [if_neg Gk] at k
 by_cases e17 : i.op = 17
 ·have c := hc.b17 e17
  simp only [if_pos e17] at k
  exact GF h hw hg hs e17 c k
 simp only [if_neg e17] at k
 by_cases e18 : i.op = 18
 ·have c := hc.b18 e18
  simp only [if_pos e18] at k
  exact GN h hw hg hs e18 c.1 c.2.1 c.2.2 k
 simp only [if_neg e18] at k
 by_cases e19 : i.op = 19
 ·have c := hc.b19 e19
  simp only [if_pos e19] at k
  exact GO h hw hg hs e19 c.1 c.2.1 c.2.2.1 c.2.2.2 k
 simp only [if_neg e19] at k
 by_cases e20 : i.op = 20
 ·have c := hc.b20 e20
  simp only [if_pos e20] at k
  exact GG h hw hg hs e20 c k
 simp only [if_neg e20] at k
 by_cases UP : i.op = 21
 ·have c := hc.b21 UP
  simp only [if_pos UP] at k
  exact GH h hw hg hs UP c.1 c.2 k
 simp only [if_neg UP] at k
 by_cases e22 : i.op = 22
 ·have c := hc.b22 e22
  simp only [if_pos e22] at k
  exact GI h hw hg hs e22  k
 simp only [if_neg e22] at k
 exact JB h hw hg hs (by omega) k
end
end Go.Proofs
namespace Go.Proofs
open Go.AF
set_option maxRecDepth 100000
set_option maxHeartbeats 1000000
attribute [local irreducible] bF dG fa dP aF eY aE b7 aO bj bJ aM
def Nl : Out Wd → Wd → Prop
 | .on y, z => z = y.doc
 | .dg n y, z => z = y.doc.iB n
 | .fR _ _, _ => False
structure ZC (x : Wd) (g : Int) (i : bY) : Prop where
 ch : i.op = 13 ∨ i.op = 14 ∨ i.op = 15 → 0 ≤ i.a ∧ i.a < x.av.length
 snd : i.op = 13 → ((aX x.av i.a).send (aJ x g i.b)).2.2.1 = true → At x ((aX x.av i.a).send (aJ x g i.b)).2.1.g 2
 cH : i.op = 14 → (aX x.av i.a).recv.2.2.2.2.1 = true → At x (aX x.av i.a).recv.2.2.2.1.g 2
 shut : i.op = 15 → ∀ v ∈ (aX x.av i.a).close.2.1, 0 ≤ v.g ∧ v.g < x.gs.length
 lk : i.op = 19 → 0 ≤ i.a ∧ i.a < x.aC.length ∧ ∀ w ∈ (cR x i.a).waits, 0 ≤ w
 hl : i.op = 17 → uW x
section
variable {p : cy} {x z : Wd} {g d : Int} {i : bY} {hs : List aN} {r : Out Wd}
theorem gd.doc (h : gd (jz x) r z) (hh : ∀ y, (r = .on y ∨ ∃ n, r = .dg n y) → y.hl = x.hl) : Nl r z := by
 cases r with
 | on y =>
  have e : jz y = jz x := by unfold jz; rw [hh y (.inl rfl)]
  show z = y.abs (jz y)
  rw [e]; exact h
 | dg n y =>
  have e : jz y = jz x := by unfold jz; rw [hh y (.inr ⟨n, rfl⟩)]
  show z = (y.abs (jz y)).iB n
  rw [e]; exact h
 | fR l y => exact h
theorem Qw : gd hs (x.call g i) ((x.abs hs).zO g i) := by
 by_cases h : (aa x g).fs.length < 16
 ·cases hc : x.call g i with
  | on y => exact (Vm h y hc).symm
  | dg n y => unfold Wd.call at hc; rw [if_neg (by omega)] at hc; cases hc
  | fR l y => unfold Wd.call at hc; rw [if_neg (by omega)] at hc; cases hc
 ·unfold Wd.call Wd.zO
  rw [cL, iX, if_pos (by omega), if_pos (by omega)]; rfl
theorem Yz : ∀ y, (x.call g i = .on y ∨ ∃ n, x.call g i = .dg n y) → y.hl = x.hl := by
 intro y h
 unfold Wd.call at h
 split at h
 ·rcases h with h | ⟨n, h⟩ <;> cases h; rfl
 ·rcases h with h | ⟨n, h⟩ <;> cases h; rfl
theorem YA : (x.back g i).hl = x.hl := by
 unfold Wd.back
 split
 ·rfl
 ·split <;> rfl
theorem Vy : ∀ y, (x.spawn g i = .on y ∨ ∃ n, x.spawn g i = .dg n y) → y.hl = x.hl := by
 intro y h
 unfold Wd.spawn at h
 split at h
 ·rcases h with h | ⟨n, h⟩ <;> cases h; rfl
 ·rcases h with h | ⟨n, h⟩ <;> cases h; rfl
theorem YB : ∀ y, (x.emit g i = .on y ∨ ∃ n, x.emit g i = .dg n y) → y.hl = x.hl := by
 intro y h
 unfold Wd.emit at h
 split at h
 ·rcases h with h | ⟨n, h⟩ <;> cases h; rfl
 ·rcases h with h | ⟨n, h⟩ <;> cases h; rfl
theorem YC : (x.recv g i).hl = x.hl := by
 unfold Wd.recv
 split
 ·exact Vx
 ·exact Vx
theorem YD : (x.lock g i).hl = x.hl := by
 unfold Wd.lock
 split <;> rfl
end
section
variable {p : cy} {x z : Wd} {g d : Int} {i : bY} {hs : List aN} {r : Out Wd}
theorem YE : ∀ y, (x.shut p i = .on y ∨ ∃ n, x.shut p i = .dg n y) → y.hl = x.hl := by
 intro y h
 unfold Wd.shut at h
 dsimp only at h
 split at h
 ·rcases h with h | ⟨n, h⟩ <;> cases h; rfl
 ·split at h
  ·rcases h with h | ⟨n, h⟩ <;> cases h; rfl
  ·rcases h with h | ⟨n, h⟩ <;> cases h; exact JI _ _
theorem Qx : ∀ y, (x.unlock g i = .on y ∨ ∃ n, x.unlock g i = .dg n y) → y.hl = x.hl := by
 intro y h
 unfold Wd.unlock at h
 split at h
 ·rcases h with h | ⟨n, h⟩ <;> cases h; rfl
 ·split at h
  ·rcases h with h | ⟨n, h⟩ <;> cases h; rfl
  ·rcases h with h | ⟨n, h⟩ <;> cases h; rfl
theorem YF (h0 : 0 ≤ i.a) (h1 : i.a < x.av.length) : ∀ y, (x.send p g i = .on y ∨ ∃ n, x.send p g i = .dg n y) → y.hl = x.hl := by
 intro y h
 unfold Wd.send at h
 cases hp : x.put p i.a (aJ x g i.b) with
 | fR l w => rw [hp] at h; rcases h with h | ⟨n, h⟩ <;> cases h
 | dg m w =>
  rw [hp] at h
  rw [(JE h0 h1 m w hp).2] at h
  rcases h with h | ⟨n, h⟩ <;> cases h
  rfl
 | on r =>
  obtain ⟨w, b⟩ := r
  have hw := hl_put w b hp
  rw [hp] at h
  cases b with
  | true => rcases h with h | ⟨n, h⟩ <;> cases h; exact hw
  | false => rcases h with h | ⟨n, h⟩ <;> cases h; exact hw
theorem Vz (h : j7 p x g i = some r) (c : ZC x g i) : Nl r (x.doc.jY p g i d) := by
 unfold j7 at h
 have on_ : ∀ {y : Wd}, y.hl = x.hl → ∀ w, ((Out.on y : Out Wd) = .on w ∨ ∃ n, (Out.on y : Out Wd) = .dg n w) → w.hl = x.hl := by
  intro y hy w hw
  rcases hw with hw | ⟨n, hw⟩
  ·cases hw; exact hy
  ·cases hw
 by_cases e : i.op = 10
 ·rw [if_pos e] at h
  obtain ⟨hc, rfl⟩ := bM h
  unfold Wd.jY; rw [if_neg (by omega), if_pos e]
  exact gd.doc (r := .on _) (Vn.symm) (on_ YA)
 rw [if_neg e] at h; clear e
 by_cases e : i.op = 11
 ·rw [if_pos e] at h
  obtain ⟨hc, rfl⟩ := bM h
  unfold Wd.jY; rw [if_neg (by omega), if_neg (by omega), if_pos e]
  exact gd.doc Qt Vy
 rw [if_neg e] at h; clear e
 by_cases e : i.op = 13
 ·rw [if_pos e] at h
  obtain ⟨hc, rfl⟩ := bM h
  obtain ⟨c0, c1⟩ := c.ch (.inl e)
  unfold Wd.jY; rw [if_neg (by omega), if_neg (by omega), if_neg (by omega), if_pos e]
  exact gd.doc (Vq c0 c1 (c.snd e)) (YF c0 c1)
 rw [if_neg e] at h; clear e
 by_cases e : i.op = 14
 ·rw [if_pos e] at h
  obtain ⟨hc, rfl⟩ := bM h
  obtain ⟨c0, c1⟩ := c.ch (.inr (.inl e))
  unfold Wd.jY; rw [if_neg (by omega), if_neg (by omega), if_neg (by omega), if_neg (by omega), if_pos e]
  exact gd.doc (r := .on _) (Vr c0 c1 (c.cH e)).symm (on_ YC)
 rw [if_neg e] at h; clear e
 by_cases e : i.op = 15
 ·rw [if_pos e] at h
  obtain ⟨hc, rfl⟩ := bM h
  obtain ⟨c0, c1⟩ := c.ch (.inr (.inr e))
  unfold Wd.jY; rw [if_neg (by omega), if_neg (by omega), if_neg (by omega), if_neg (by omega), if_neg (by omega), if_pos e]
  exact gd.doc (Vt c0 c1 (c.shut e)) YE
 rw [if_neg e] at h; clear e
 by_cases e : i.op = 20
 ·rw [if_pos e] at h
  obtain ⟨hc, rfl⟩ := bM h
  unfold Wd.jY; simp only [e]; rw [if_neg (by decide), if_neg (by decide), if_neg (by decide), if_neg (by decide), if_neg (by decide), if_neg (by decide), if_neg (by decide), if_neg (by decide), if_neg (by decide), if_neg (by decide)]
  rw [if_pos trivial]
  exact gd.doc Vp YB
 rw [if_neg e] at h; clear e
 by_cases e : i.op = 9
 ·rw [if_pos e] at h
  obtain ⟨hc, rfl⟩ := bM h
  unfold Wd.jY; rw [if_pos e]
  exact gd.doc Qw Yz
 rw [if_neg e] at h; clear e
 by_cases e : i.op = 12
 ·rw [if_pos e] at h
  cases h
  unfold Wd.jY; simp only [e]
  rfl
 rw [if_neg e] at h; clear e
 by_cases e : i.op = 17
 ·rw [if_pos e] at h
  obtain ⟨hc, rfl⟩ := bM h
  unfold Wd.jY; rw [if_neg (by omega), if_neg (by omega), if_neg (by omega), if_neg (by omega), if_neg (by omega), if_neg (by omega), if_neg (by omega), if_pos e]
  exact (Qv (c.hl e)).symm
 rw [if_neg e] at h; clear e
 by_cases e : i.op = 18
 ·rw [if_pos e] at h
  obtain ⟨hc, rfl⟩ := bM h
  unfold Wd.jY; rw [if_neg (by omega), if_neg (by omega), if_neg (by omega), if_neg (by omega), if_neg (by omega), if_neg (by omega), if_neg (by omega), if_neg (by omega), if_pos e]
  exact gd.doc (r := .on _) Vs.symm (on_ YD)
 rw [if_neg e] at h; clear e
 by_cases e : i.op = 19
 ·rw [if_pos e] at h
  obtain ⟨hc, rfl⟩ := bM h
  obtain ⟨c0, c1, c2⟩ := c.lk e
  unfold Wd.jY; rw [if_neg (by omega), if_neg (by omega), if_neg (by omega), if_neg (by omega), if_neg (by omega), if_neg (by omega), if_neg (by omega), if_neg (by omega), if_neg (by omega), if_pos e]
  exact gd.doc (Nk c0 c1 c2) Qx
 rw [if_neg e] at h; clear e
 by_cases e : i.op = 22
 ·rw [if_pos e] at h
  cases h
  unfold Wd.jY; simp only [e]
  rfl
 rw [if_neg e] at h
 cases h
end
section
variable {p : cy} {x : Wd} {g v d : Int} {i : bY} {hs : List aN}
def ZD (p : cy) (x : Wd) (g : Int) (i : bY) (k : Int) : Prop :=
 0 ≤ ((aB p i).getD k.toNat ⟨0, 0, 0⟩).ch ∧ ((aB p i).getD k.toNat ⟨0, 0, 0⟩).ch < x.av.length ∧
 (∀ v, ((aX x.av ((aB p i).getD k.toNat ⟨0, 0, 0⟩).ch).send v).2.2.1 = true → At (x.next g) ((aX x.av ((aB p i).getD k.toNat ⟨0, 0, 0⟩).ch).send v).2.1.g 2) ∧
 ((aX x.av ((aB p i).getD k.toNat ⟨0, 0, 0⟩).ch).recv.2.2.2.2.1 = true → At (x.next g) (aX x.av ((aB p i).getD k.toNat ⟨0, 0, 0⟩).ch).recv.2.2.2.1.g 2)
theorem Nm (he : x.end_ = 0) (hv : enabled (aB p i) x.av ≠ [] → v = d.tmod (enabled (aB p i) x.av).length)
  (hc : enabled (aB p i) x.av ≠ [] → ZD p x g i ((enabled (aB p i) x.av).getD v.toNat 0)) :
  gd hs (x.choose p g i (.num v)) (((x.next g).abs hs).nt p g i d) := by
 unfold Wd.choose Wd.nt
 have e : ((x.next g).abs hs).av = x.av := rfl
 rw [e]
 by_cases h : enabled (aB p i) x.av = []
 ·rw [if_pos h, if_pos h]
  exact CG.symm
 ·rw [if_neg h, if_neg h]
  obtain ⟨c0, c1, c2, c3⟩ := hc h
  rw [← hv h]
  exact GQ he c0 c1 c2 c3
end
def sY (x : Wd) : List aN × Int × List Lk := (x.hl, x.di, x.aC)
section
variable {p : cy} {x y : Wd} {g d k v s : Int} {i : bY} {w : Wt} {r : Out Wd}
theorem zQ : sY (x.received p w s) = sY x := by
 unfold Wd.received; dsimp only
 split <;> rfl
theorem YG : sY (x.sent w) = sY x := by
 unfold Wd.sent
 split <;> rfl
theorem VA : match x.put p k v with
  | .on (y, _) => sY y = sY x
  | .dg _ y => sY y = sY x
  | .fR _ y => sY y = sY x := by
 unfold Wd.put
 dsimp only
 by_cases h : ((aX x.av k).send v).2.2.2 = 10
 ·rw [if_pos h]; rfl
 ·rw [if_neg h]
  show sY (if _ then _ else _) = _
  split
  ·exact zQ
  ·rfl
theorem Nn : sY (x.get k).1 = sY x := by
 have h : sY (if (aX x.av k).recv.2.2.2.2.1 = true then (x.bg k (aX x.av k).recv.1).sent (aX x.av k).recv.2.2.2.1 else x.bg k (aX x.av k).recv.1) = sY x := by
  split
  ·exact YG
  ·rfl
 unfold Wd.get; dsimp only
 split
 ·exact h
 ·exact h
theorem JK : ∀ (l : List Wt) (x : Wd), sY (l.foldl (cJ p) x) = sY x
 | [], x => rfl
 | v :: l, x => by
  rw [List.foldl_cons, JK l]
  unfold cJ
  split
  ·exact zQ
  ·rfl
theorem YH : sY (x.send p g i).fin = sY x := by
 have h := VA (p := p) (x := x) (k := i.a) (v := aJ x g i.b)
 unfold Wd.send
 generalize x.put p i.a (aJ x g i.b) = r at h
 match r, h with
 | .dg n y, h => exact h
 | .fR l y, h => exact h
 | .on (y, true), h => exact h
 | .on (y, false), h => exact h
theorem YI : sY (x.recv g i) = sY x := by
 unfold Wd.recv
 split
 ·exact Nn
 ·exact Nn
theorem YJ : sY (x.shut p i).fin = sY x := by
 unfold Wd.shut
 dsimp only
 split
 ·rfl
 ·split
  ·rfl
  ·exact JK _ _
theorem YK : sY (x.back g i) = sY x := by
 unfold Wd.back
 split
 ·rfl
 ·split <;> rfl
theorem YL (h : j7 p x g i = some r) (h17 : i.op ≠ 17) (QV : i.op ≠ 18) (h19 : i.op ≠ 19) : sY r.fin = sY x := by
 unfold j7 at h
 split at h
 ·obtain ⟨_, rfl⟩ := bM h; exact YK
 split at h
 ·obtain ⟨_, rfl⟩ := bM h; unfold Wd.spawn; split <;> rfl
 split at h
 ·obtain ⟨_, rfl⟩ := bM h; exact YH
 split at h
 ·obtain ⟨_, rfl⟩ := bM h; exact YI
 split at h
 ·obtain ⟨_, rfl⟩ := bM h; exact YJ
 split at h
 ·obtain ⟨_, rfl⟩ := bM h; unfold Wd.emit; split <;> rfl
 split at h
 ·obtain ⟨_, rfl⟩ := bM h; unfold Wd.call; split <;> rfl
 split at h
 ·cases h; rfl
 split at h
 ·cases h; rfl
 ·cases h
theorem ER {d : iz} : sY (x.choose p g i d).fin = sY x := by
 unfold Wd.choose
 split
 ·unfold Wd.kx; dsimp only
  split <;> rfl
 ·cases d with
  | fR l => rfl
  | num v =>
   show sY (x.kT p g i _).fin = _
   generalize (enabled (aB p i) x.av).getD v.toNat 0 = k
   unfold Wd.kT
   dsimp only
   split
   ·rename_i hw
    generalize (aB p i).getD k.toNat ⟨0, 0, 0⟩ = c
    have h := VA (p := p) (x := x.next g) (k := c.ch) (v := aJ (x.next g) g c.bH)
    generalize (x.next g).put p c.ch (aJ (x.next g) g c.bH) = r at h
    match r, h with
    | .dg n y, h => exact h
    | .fR l y, h => exact h
    | .on (y, _), h => exact h
   ·exact Nn (x := x.next g)
theorem YM {d : iz} : sY (x.rand g i d).fin = sY x := by
 cases d <;> rfl
structure qf (p : cy) (N : Nat) (x : Wd) : Prop where
 wv : WV p x
 hl : uW x
 hs : 0 ≤ x.di ∧ x.di ≤ N
 lk : ∀ l ∈ x.aC, l.owner = -1 → l.waits = []
theorem qf.same {N : Nat} (h : qf p N x) (hw : WV p y) (e : sY y = sY x) : qf p (N + 1) y := by
 unfold sY at e
 simp only [Prod.mk.injEq] at e
 obtain ⟨e1, e2, e3⟩ := e
 exact ⟨hw, h.hl.same e1 e2, by rw [e2]; have := h.hs; omega, by rw [e3]; exact h.lk⟩
theorem qf.mono {N N' : Nat} (h : qf p N x) (hn : N ≤ N') : qf p N' x := ⟨h.wv, h.hl, by have := h.hs; omega, h.lk⟩
theorem qf.ready {N : Nat} (h : qf p N x) {r : List Int} : qf p N { x with ready := r } := ⟨h.wv.ready, h.hl.same rfl rfl, h.hs, h.lk⟩
theorem qf.new (hp : eK p) : qf p 0 (Wd.new p) := ⟨wv_new hp, uW.new rfl, by show (0 : Int) ≤ 0 ∧ (0 : Int) ≤ 0; decide, fun l hl _ => by
 have := List.eq_of_mem_replicate hl
 rw [this]⟩
theorem qf.tick {N : Nat} (h : qf p N x) : qf p N x.tick := by
 obtain ⟨t1, t2⟩ := h.hl.tick
 refine ⟨(Gt h.wv).2.1, t1, by rw [t2]; exact h.hs, ?_⟩
 have hh : ∀ (l : List Int) (y : Wd), (l.foldl Wd.eU y).aC = y.aC := by
  intro l
  induction l with
  | nil => intro y; rfl
  | cons g l ih => intro y; rw [List.foldl_cons, ih]; rfl
 have e : x.tick.aC = x.aC := by
  unfold Wd.tick
  split
  ·rfl
  ·dsimp only; rw [hh]
 rw [e]; exact h.lk
theorem xI (h0 : 0 ≤ k) (h1 : k < x.aC.length) : cR x k ∈ x.aC := List.mem_of_getElem? (CC h0 h1)
theorem YN {l : Lk} (h : l.owner = -1 → l.waits = []) (hg : 0 ≤ g) : (l.take g).1.owner = -1 → (l.take g).1.waits = [] := by
 unfold Lk.take
 split
 ·intro e
  have e2 : g = -1 := e
  omega
 ·rename_i hn; intro e; exact absurd e hn
theorem YO {l : Lk} (h : l.owner = -1 → l.waits = []) (hg : ∀ q ∈ l.waits, 0 ≤ q) : (l.gR g).1.owner = -1 → (l.gR g).1.waits = [] := by
 unfold Lk.gR
 split
 ·exact h
 ·cases hw : l.waits with
  | nil => intro _; rfl
  | cons a t =>
   intro e
   have e2 : a = -1 := e
   have := hg a (by rw [hw]; simp)
   omega
theorem Oq {k : Int} {c : Lk} (h : ∀ l ∈ x.aC, l.owner = -1 → l.waits = []) (hc : c.owner = -1 → c.waits = []) : ∀ l ∈ (x.da k c).aC, l.owner = -1 → l.waits = [] := by
 intro l hl
 rcases List.mem_or_eq_of_mem_set hl with hl | hl
 ·exact h l hl
 ·rw [hl]; exact hc
theorem qf.j7 {N : Nat} (h : qf p N x) (hg : At x g 1) (hN : N < 1000000000) (hd : j7 p x g i = some r) (hw : WV p r.fin) : qf p (N + 1) r.fin := by
 by_cases h17 : i.op = 17
 ·unfold Go.Proofs.j7 at hd
  simp only [h17] at hd
  repeat rw [if_neg (by decide)] at hd
  rw [if_pos (by decide)] at hd
  obtain ⟨_, rfl⟩ := bM hd
  have hs := h.hs
  obtain ⟨a, b⟩ := h.hl.sleep (g := g) (i := i) h.hs.1 (by omega)
  refine ⟨hw, a, by show 0 ≤ (x.sleep g i).di ∧ (x.sleep g i).di ≤ _; rcases b with b | b <;> rw [b] <;> omega, ?_⟩
  show ∀ l ∈ (x.sleep g i).aC, _
  have e : (x.sleep g i).aC = x.aC := by unfold Wd.sleep; split <;> rfl
  rw [e]; exact h.lk
 by_cases QV : i.op = 18
 ·unfold Go.Proofs.j7 at hd
  simp only [QV] at hd
  repeat rw [if_neg (by decide)] at hd
  rw [if_pos (by decide)] at hd
  obtain ⟨hc, rfl⟩ := bM hd
  have hl := YN (g := g) (h.lk _ (xI hc.2.1.1 hc.2.1.2)) hg.1
  have e : ((x.lock g i).hl = x.hl ∧ (x.lock g i).di = x.di) ∧ (x.lock g i).aC = (x.da i.a ((cR x i.a).take g).1).aC := by
   unfold Wd.lock; split <;> exact ⟨⟨rfl, rfl⟩, rfl⟩
  refine ⟨hw, h.hl.same e.1.1 e.1.2, by show 0 ≤ (x.lock g i).di ∧ (x.lock g i).di ≤ _; rw [e.1.2]; have := h.hs; omega, ?_⟩
  show ∀ l ∈ (x.lock g i).aC, _
  rw [e.2]
  exact Oq h.lk hl
 by_cases h19 : i.op = 19
 ·unfold Go.Proofs.j7 at hd
  simp only [h19] at hd
  repeat rw [if_neg (by decide)] at hd
  rw [if_pos (by decide)] at hd
  obtain ⟨hc, rfl⟩ := bM hd
  have hm := xI hc.1.1.1 hc.1.1.2
  have hl := YO (g := g) (h.lk _ hm) (fun q hq => (h.wv.lw _ hm q hq).1.1)
  have e : ((x.unlock g i).fin.hl = x.hl ∧ (x.unlock g i).fin.di = x.di) ∧ (x.unlock g i).fin.aC = (x.da i.a ((cR x i.a).gR g).1).aC := by
   unfold Wd.unlock; split
   ·exact ⟨⟨rfl, rfl⟩, rfl⟩
   ·split <;> exact ⟨⟨rfl, rfl⟩, rfl⟩
  exact ⟨hw, h.hl.same e.1.1 e.1.2, by rw [e.1.2]; have := h.hs; omega, by rw [e.2]; exact Oq h.lk hl⟩
 exact h.same hw (YL hd h17 QV h19)
theorem gN.wv (h : gN p g x r) : WV p r.fin := by
 cases r with
 | on y => exact h.1
 | dg n y => exact h.1.fin
 | fR l y => exact h.elim
theorem qf.exec {N : Nat} {rest : Bool} {d : iz} (h : qf p N x) (hp : eK p) (hN : N < 1000000000) (he : lC p x g d = some (r, rest)) (hw : WV p r.fin) : qf p (N + 1) r.fin := by
 have h := h.ready (r := [])
 unfold lC at he
 dsimp only at he
 generalize hx : ({ x with ready := [] } : Wd) = x' at h he
 split at he
 ·rename_i va
  have hg : At x' g 1 := ⟨va.1, va.2.1, va.2.2.2⟩
  split at he
  ·split at he
   ·cases he
   ·rename_i code fZ
    split at he
    ·cases he; exact h.same hw rfl
    ·rename_i i iG
     have hz := (h.wv.iF hg.1 hg.2.1).top
     obtain ⟨c1, c2, c3⟩ := hp.code code (List.mem_of_getElem? fZ)
     have YV := (List.getElem?_eq_some_iff.1 iG).1
     have tH : (aa x' g).top.pc + 1 ≤ 64 := by have := hz.2.2.1; omega
     split at he
     ·obtain ⟨_, e⟩ := bM he; cases e; exact h.same hw rfl
     ·split at he
      ·split at he
       ·split at he
        ·cases he; exact h.same hw ER
        ·cases he
       ·cases he
      ·split at he
       ·split at he
        ·split at he
         ·cases he; exact h.same hw YM
         ·cases he
        ·cases he
       ·split at he
        ·cases he
        ·rename_i r' Hl
         obtain ⟨_, e⟩ := bM he
         cases e
         obtain ⟨n1, n2, n3, n4, n5⟩ := h.wv.next hg tH
         exact qf.j7 (x := x'.next g) ⟨n1, h.hl.same rfl rfl, h.hs, h.lk⟩ n2 hN Hl hw
  ·cases he
 ·cases he; exact h.mono (by omega)
end
def vb (p : cy) (z0 : Wd) (g d : Int) : Wd :=
 let z := { z0 with ready := [] }
 if jy z g then
  match qd p z g with
  | none => z.iB (-7)
  | some i => if i.op ≤ 8 then z.bp g ((aa z g).bW ((aa z g).top.next.pure i)) else (z.next g).jY p g i d
 else z
section
variable {p : cy} {x y : Wd} {g d k v s : Int} {i : bY} {w : Wt} {r : Out Wd} {f : List bY} {N : Nat}
theorem YP {c : aQ} {v : Int} (h : (c.send v).2.2.1 = true) : ∃ w ∈ c.cH, ((c.send v).2.1).g = w.g ∧ ((c.send v).2.1).cs = w.cs := by
 unfold aQ.send at h ⊢
 split at h
 ·cases h
 ·cases hr : c.cH with
  | nil => rw [hr] at h; dsimp only at h; split at h <;> cases h
  | cons a l => rename_i hc; rw [if_neg hc]; exact ⟨a, by simp, rfl, rfl⟩
theorem YQ {c : aQ} (h : c.recv.2.2.2.2.1 = true) : ∃ w ∈ c.snd, c.recv.2.2.2.1.g = w.g := by
 unfold aQ.recv at h ⊢
 cases ig : c.all with
 | nil => rw [ig] at h; cases h
 | cons v l =>
  rw [ig] at h
  cases hs : c.snd with
  | nil => rw [hs] at h; cases h
  | cons w t => exact ⟨w, by simp, rfl⟩
theorem WV.VB (h : WV p x) (k0 : 0 ≤ k) (k1 : k < x.av.length) {v : Int} (e : ((aX x.av k).send v).2.2.1 = true) : At x ((aX x.av k).send v).2.1.g 2 := by
 obtain ⟨w, hw, e1, _⟩ := YP e
 rw [e1]
 exact (h.cH _ (List.mem_of_getElem? (hU k0 k1)) w hw).1
theorem WV.VC (h : WV p x) (k0 : 0 ≤ k) (k1 : k < x.av.length) (e : (aX x.av k).recv.2.2.2.2.1 = true) : At x (aX x.av k).recv.2.2.2.1.g 2 := by
 obtain ⟨w, hw, e1⟩ := YQ e
 rw [e1]
 exact (h.snd _ (List.mem_of_getElem? (hU k0 k1)) w hw).1
theorem WV.VD (h : WV p x) (k0 : 0 ≤ k) (k1 : k < x.av.length) : ∀ v ∈ (aX x.av k).close.2.1, 0 ≤ v.g ∧ v.g < x.gs.length := by
 intro v hv
 have hm : v ∈ (aX x.av k).cH := by
  unfold aQ.close at hv
  split at hv
  ·cases hv
  ·exact hv
 have := (h.cH _ (List.mem_of_getElem? (hU k0 k1)) v hm).1
 exact ⟨this.1, this.2.1⟩
theorem qf.deedC (h : qf p N x) (hi : iA p f i) : ZC x g i := by
 obtain ⟨_, _, _, _, _, _, _, i13, _, _, _, i18, _⟩ := hi
 have hk : i.op = 13 ∨ i.op = 14 ∨ i.op = 15 → 0 ≤ i.a ∧ i.a < x.av.length := fun e => by rw [h.wv.ch]; exact i13 e
 refine ⟨hk, fun e => h.wv.VB (hk (.inl e)).1 (hk (.inl e)).2, fun e => h.wv.VC (hk (.inr (.inl e))).1 (hk (.inr (.inl e))).2, fun e => h.wv.VD (hk (.inr (.inr e))).1 (hk (.inr (.inr e))).2, fun e => ?_, fun _ => h.hl⟩
 obtain ⟨a, b⟩ := i18 (.inr e)
 have hl := h.wv.lk
 have b' : i.a < x.aC.length := by omega
 exact ⟨a, b', fun w hw => (h.wv.lw _ (xI a b') w hw).1.1⟩
theorem Qy : qd p x.doc g = qd p x g := by
 unfold qd Wd.doc
 rw [cL, mF]
theorem tV : jy x.doc g ↔ jy x g := by
 unfold jy Wd.doc
 rw [cL, lN, tS]
 exact Iff.rfl
theorem ES {l : List Int} : ({ x with ready := l } : Wd).doc = { x.doc with ready := l } := rfl
theorem CJ : (x.next g).doc = x.doc.next g := Vk
theorem VE {rest : Bool} (h : qf p N x) (hp : eK p) (he : lC p x g (.num v) = some (r, rest))
  (hv : ∀ kd n, asks p { x with ready := [] } g = some (kd, n) → v = d.tmod n ∧ 0 ≤ v ∧ v < n) : Nl r (vb p x.doc g d) := by
 have h := h.ready (r := [])
 unfold lC at he
 unfold vb
 dsimp only at he ⊢
 rw [← ES]
 generalize hx : ({ x with ready := [] } : Wd) = x' at h he hv ⊢
 by_cases va : jy x' g
 ·rw [if_pos va] at he
  rw [if_pos (tV.2 va), Qy]
  have hg : At x' g 1 := ⟨va.1, va.2.1, va.2.2.2⟩
  have nI := hv
  unfold asks at nI
  rw [if_pos va] at nI
  split at he
  ·rename_i AK
   cases fZ : p.funcs[(aa x' g).top.fn.toNat]? with
   | none => rw [fZ] at he; cases he
   | some code =>
    rw [fZ] at he
    dsimp only at he
    have hin : qd p x' g = code[(aa x' g).top.pc.toNat]? := by unfold qd; rw [fZ]
    rw [hin] at nI ⊢
    cases iG : code[(aa x' g).top.pc.toNat]? with
    | none => rw [iG] at he; dsimp only at he; cases he; exact rfl
    | some i =>
     rw [iG] at he nI
     dsimp only at he nI ⊢
     have hi : iA p code i := (hp.code code (List.mem_of_getElem? fZ)).2.2 i (List.mem_of_getElem? iG)
     have hz := (h.wv.iF hg.1 hg.2.1).top
     have YV := (List.getElem?_eq_some_iff.1 iG).1
     have tH : (aa x' g).top.pc + 1 ≤ 64 := by have := hz.2.2.1; have := (hp.code code (List.mem_of_getElem? fZ)).2.1; omega
     obtain ⟨n1, n2, n3, n4, n5⟩ := h.wv.next hg tH
     by_cases h8 : i.op ≤ 8
     ·rw [if_pos h8]
      rw [if_pos ⟨hi.1, h8⟩] at he
      obtain ⟨_, e⟩ := bM he; cases e
      show _ = Wd.doc _
      unfold Wd.doc
      rw [cL, mF]
      show _ = (x'.bp g _).abs (jz x')
      rw [kV, sW]
     ·rw [if_neg h8, ← CJ]
      rw [if_neg (by omega)] at he
      by_cases mL : i.op = 16
      ·rw [if_pos mL] at he
       rw [if_neg (by omega), if_pos mL] at nI
       split at he
       ·split at he
        ·cases he
         unfold Wd.jY
         simp only [mL]
         repeat rw [if_neg (by decide)]
         rw [if_pos trivial]
         have hen : (x'.next g).av = x'.av := rfl
         have hne : enabled (aB p i) x'.av ≠ [] → v = d.tmod (enabled (aB p i) x'.av).length ∧ 0 ≤ v ∧ v < (enabled (aB p i) x'.av).length := fun hne => by
          rw [if_neg hne] at nI
          exact nI _ _ rfl
         refine gd.doc (x := x'.next g) (Nm va.2.2.1 (fun hne' => (hne hne').1) fun hne' => ?_) ?_
         ·obtain ⟨_, v0, v1⟩ := hne hne'
          have hk : (enabled (aB p i) x'.av).getD v.toNat 0 ∈ enabled (aB p i) x'.av := by
           rw [List.getD_eq_getElem?_getD, List.getElem?_eq_getElem (by omega), Option.getD_some]
           exact List.getElem_mem _
          generalize (enabled (aB p i) x'.av).getD v.toNat 0 = k at hk
          obtain ⟨j, c, rfl, hj, wH, hcan⟩ := zJ hk
          have hm : c ∈ aB p i := List.mem_of_getElem? wH
          have ec : (aB p i).getD (j : Int).toNat ⟨0, 0, 0⟩ = c := by rw [Int.toNat_natCast, List.getD_eq_getElem?_getD, wH]; rfl
          have hok := (hp.cas c (oN hm)).1
          have U7 : c.way = 0 ∨ c.way = 1 := by
           unfold can at hcan
           split at hcan
           ·rename_i e; exact .inl e
           ·split at hcan
            ·rename_i e; exact .inr e
            ·cases hcan
          obtain ⟨k0, k1, _⟩ := hok.2.2 (by rcases U7 with e | e <;> rw [e] <;> decide)
          unfold ZD
          rw [ec]
          have k1' : c.ch < x'.av.length := by rw [h.wv.ch]; exact k1
          exact ⟨k0, k1', fun v e => n1.VB (x := x'.next g) k0 k1' e, fun e => n1.VC (x := x'.next g) k0 k1' e⟩
         ·intro y hy
          have hk := ER (p := p) (x := x') (g := g) (i := i) (d := .num v)
          rcases hy with hy | ⟨n, hy⟩
          ·rw [hy] at hk; exact congrArg (fun q => q.1) hk
          ·rw [hy] at hk; exact congrArg (fun q => q.1) hk
        ·cases he
       ·cases he
      ·rw [if_neg mL] at he
       by_cases VW : i.op = 21
       ·rw [if_pos VW] at he
        rw [if_pos VW] at nI
        split at he
        ·split at he
         ·cases he
          unfold Wd.jY
          simp only [VW]
          repeat rw [if_neg (by decide)]
          rw [if_pos trivial]
          rw [← (nI _ _ rfl).1]
          exact (eL (x := x'.next g)).symm
         ·cases he
        ·cases he
       ·rw [if_neg VW] at he
        cases hd : j7 p (x'.next g) g i with
        | none => rw [hd] at he; cases he
        | some r' =>
         rw [hd] at he
         dsimp only at he
         obtain ⟨_, e⟩ := bM he
         cases e
         exact Vz hd (qf.deedC (x := x'.next g) (N := N) ⟨n1, h.hl.same rfl rfl, h.hs, h.lk⟩ hi)
  ·cases he
 ·rw [if_neg va] at he
  rw [if_neg (fun e => va (tV.1 e))]
  cases he; rfl
end
section
variable {p : cy} {x y : Wd} {g d k v s : Int} {i : bY} {f : List bY} {N : Nat} {hs : List aN}
theorem wg : aa x.doc g = jo (aa x g) := cL
theorem pS : x.doc.gs.length = x.gs.length := tS
theorem At.doc (h : At x g s) : At x.doc g s := ⟨h.1, by rw [pS]; exact h.2.1, by rw [wg, lN]; exact h.2.2⟩
theorem GS (h : WV p x) (ho : uW x) : WV p x.doc := by
 have hp := (mH x.hl.length x.hl (Nat.le_refl _) ho.ok).1
 refine ⟨by rw [pS]; exact h.n1, by rw [pS]; exact h.n2, fun y hy => ?_, h.ch, h.lk, h.buf, fun c hc v hv => ?_, fun c hc v hv => ?_, fun l hl q hq => ?_, fun y hy => (h.hl y (hp.mem_iff.1 hy)).doc, fun q q0 mL => ?_, h.Eg, fun q => ?_, h.out⟩
 ·obtain ⟨z, hz, rfl⟩ := List.mem_map.1 hy
  obtain ⟨a, b, c, e, f⟩ := h.G7 z hz
  refine ⟨by rw [iX]; exact a, by rw [iX]; exact b, by rw [iX]; exact c, fun h2 => ?_, by rw [lN]; exact f⟩
  rw [lN] at h2
  rw [pR h2]; exact e h2
 ·obtain ⟨a, b⟩ := h.cH c hc v hv
  exact ⟨a.doc, by rw [wg, pR a.2.2]; exact b⟩
 ·obtain ⟨a, b⟩ := h.snd c hc v hv
  exact ⟨a.doc, by rw [wg, pR a.2.2]; exact b⟩
 ·obtain ⟨a, b⟩ := h.lw l hl q hq
  exact ⟨a.doc, by rw [wg, pR a.2.2]; exact b⟩
 ·by_cases h2 : (aa x q).st = 2
  ·rw [wg, pR h2] at mL
   exact h.one q q0 mL
  ·have a : cD x.doc.av q = 0 := sQ.2 fun c hc hg => h2 (h.UY hc hg).1.2.2
   have b : hG x.doc.aC q = 0 := xD.2 fun l hl hg => h2 (h.lw l hl q hg).1.2.2
   omega
 ·have := h.h1 q
  unfold Dv at this ⊢
  exact Nat.le_trans (Nat.le_of_eq ((hp.map aN.id).count_eq q)) this
theorem JL {c : aQ} (h : x.Sm) (hc : c.Small 1000000) : (x.bg k c).Sm := by
 refine ⟨fun e he => ?_, by simpa [Wd.bg] using h.2.1, h.2.2⟩
 rcases List.mem_or_eq_of_mem_set he with he | he
 ·exact h.1 e he
 ·rw [he]; exact hc
theorem WV.mA (h : WV p x) (hp : eK p) (hs : x.Sm) (hk : nF x k) : EG p x k v := by
 obtain ⟨_, a, b⟩ := (h.put (n := v) hp hk).1
 exact ⟨JL hs b, a⟩
theorem WV.pZ (h : WV p x) (hp : eK p) (hs : x.Sm) (hk : nF x k) : EH x k := by
 obtain ⟨_, a, b⟩ := (h.get hp hk).1
 exact ⟨JL hs b, a⟩
theorem JM (hl : hs.length ≤ 1000000) : ∀ (l : List Wt) (x : Wd), sM p x l → tP p (x.abs hs) l
 | [], x, _ => trivial
 | v :: l, x, h => by
  obtain ⟨a, b, c, e, f⟩ := h
  have es := zc (p := p) (hs := hs) [v] x (fun w hw => by rw [List.mem_singleton.1 hw]; exact ⟨b, c⟩)
  refine ⟨⟨a.1, a.2.1, by rw [tS]; exact a.2.2.1, a.2.2.2.1, a.2.2.2.2.1, a.2.2.2.2.2.1, a.2.2.2.2.2.2.1, hl⟩, b, by rw [tS]; exact c, fun h2 => ?_, ?_⟩
  ·rw [cL, lN] at h2
   have hr := e h2
   unfold lA aW at hr ⊢
   dsimp only at hr ⊢
   rw [cL, pR h2, tS]
   exact hr
  ·have es2 : (cJ p x v).abs hs = dy p (x.abs hs) v := es
   rw [← es2]
   exact JM hl l _ f
theorem WV.YR (h : WV p x) (hp : eK p) (hr : x.ready = []) (hk : nF x k) : (aX x.av k).close.2.2.2 = 0 → sM p (x.bg k (aX x.av k).close.1) (aX x.av k).close.2.1 := by
 obtain ⟨c, hc, ec⟩ := Ep hk
 have hm := List.mem_of_getElem? hc
 obtain ⟨s1, s2, s3⟩ := oM h hm
 have hb := h.buf c hm
 have hrc := h.cH c hm
 rw [ec]
 obtain ⟨room, buf, snd, cH, closed⟩ := c
 cases closed with
 | true => intro e; simp [aQ.close] at e
 | false =>
  intro _
  have Gm : WV p (x.bg k ⟨room, buf, [], [], true⟩) := h.less hc hb (fun v hv => by cases hv) (fun v hv => by cases hv) (fun q => by simp [cX])
  simp only [aQ.close, Bool.false_eq_true, if_false]
  exact (tM hp cH (x.bg k ⟨room, buf, [], [], true⟩) Gm (by show x.ready.length + cH.length ≤ 1000000; rw [hr]; dsimp only [List.length_nil] at *; omega) (fun v hv => by
   obtain ⟨a, b⟩ := hrc v hv
   refine ⟨a.1, a.2.1, fun _ => ?_⟩
   rcases b with b | b
   ·refine .inl ⟨b, AM h hc a.1 a.2.2 (by rw [b]; decide) ?_⟩
    have : 0 < List.count v.g (cX ⟨room, buf, snd, cH, false⟩) := List.count_pos_iff.2 (List.mem_append_right _ (List.mem_map.2 ⟨v, hv, rfl⟩))
    show List.count v.g (cX ⟨room, buf, [], [], true⟩) + 1 ≤ _
    simp only [cX, List.map_nil, List.append_nil, List.count_nil] at *
    omega
   ·exact .inr b)).1
theorem Qz {c : aQ} : c.close.2.1.length ≤ c.cH.length := by
 unfold aQ.close
 split <;> simp
theorem qf.deedR (h : qf p N x) (hp : eK p) (hg : At x g 1) (hi : iA p f i) (hd : 0 ≤ d) (hr : x.ready = []) : ZB p x.doc g i d := by
 have hw := GS h.wv h.hl
 have hs := hw.sm hp (by show x.ready.length ≤ _; rw [hr]; decide)
 obtain ⟨_, _, _, _, _, i9, i10, i13, Jm, i14, i16, i18, i21⟩ := hi
 have hk : i.op = 13 ∨ i.op = 14 ∨ i.op = 15 → nF x.doc i.a := fun e => by
  obtain ⟨a, b⟩ := i13 e
  exact ⟨a, by rw [hw.ch]; exact b⟩
 have hco : ∀ c ∈ aB p i, c.way = 0 ∨ c.way = 1 → nF x.doc c.ch := fun c hc e => by
  obtain ⟨k0, k1, _⟩ := (hp.cas c (oN hc)).1.2.2 (by rcases e with e | e <;> rw [e] <;> decide)
  exact ⟨k0, by rw [hw.ch]; exact k1⟩
 have hlk : i.op = 18 ∨ i.op = 19 → 0 ≤ i.a ∧ i.a < x.doc.aC.length := fun e => by
  obtain ⟨a, b⟩ := i18 e
  have := hw.lk
  exact ⟨a, by omega⟩
 have hgd : i.op = 18 ∨ i.op = 19 → CD (cR x.doc i.a) ∧ (∀ w ∈ (cR x.doc i.a).waits, 0 ≤ w ∧ w < x.doc.gs.length) := fun e => by
  obtain ⟨a, b⟩ := hlk e
  have hm := xI a b
  have hl := fun w QE => (hw.lw _ hm w QE).1
  exact ⟨⟨h.lk _ hm, fun w QE => by have := (hl w QE).1; omega, by have := hw.Gr hm; omega⟩, fun w QE => ⟨(hl w QE).1, (hl w QE).2.1⟩⟩
 refine ⟨fun e => (i9 (.inl e)).2.2.1, fun e => ⟨i10 (.inl e), fun _ => ?_⟩, fun e => ⟨(i9 (.inr e)).2.2.1, (i9 (.inr e)).2.2.2⟩, fun e => ⟨Jm (.inl e), (hk (.inl e)).1, (hk (.inl e)).2, hw.mA hp hs (hk (.inl e))⟩,
  fun e => ⟨Jm (.inr e), i14 (.inl e), (hk (.inr (.inl e))).1, (hk (.inr (.inl e))).2, hw.pZ hp hs (hk (.inr (.inl e)))⟩, fun e => ?_, fun e => ?_, fun e => i10 (.inr (.inl e)), fun e => ⟨(hlk (.inl e)).1, (hlk (.inl e)).2, (hgd (.inl e)).1⟩, fun e => ⟨(hlk (.inr e)).1, (hlk (.inr e)).2, hgd (.inr e)⟩, fun e => i10 (.inr (.inr (.inl e))), fun e => ⟨i10 (.inr (.inr (.inr e))), by have := i21 e; omega⟩, fun _ => trivial⟩
 ·have hz := (hw.iF hg.1 (by rw [pS]; exact hg.2.1)).top
  exact hz.2.2.2.2
 ·have hk' := hk (.inr (.inr e))
  have hk2 : nF x i.a := hk'
  refine ⟨hk'.1, hk'.2, fun e0 => ?_, ?_⟩
  ·exact JM (hs := jz x) hs.2.2.2.2.2.2.2 _ _ (h.wv.YR hp hr hk2 e0)
  ·have := (hs.1 _ (List.mem_of_getElem? (hU hk'.1 hk'.2))).2.2
   have := Qz (c := aX x.doc.av i.a)
   omega
 ·obtain ⟨a0, b1, ab⟩ := i16 e
  have hcs := hp.cs
  exact ⟨⟨a0, by omega, ab, by omega⟩, fun c hc => by rw [hw.ch]; exact (hp.cas c (oN hc)).1, i14 (.inr e), hd, fun c hc e1 => hw.mA hp hs (hco c hc (.inr e1)), fun c hc e1 => hw.pZ hp hs (hco c hc (.inl e1))⟩
end
section
variable {R : Mem} {L L' : List HP} {M : Mem} {K : Value → Mem → Prop} {Kp : List PanicEntry → Mem → Prop} {a : Al} {p : cy} {x : Wd} {g : Int} {i : bY} {d : Int} {N : Nat}
theorem No (h : Hp R L M) (hx : qf p N x) (hp : eK p) (hw : eN R a p x.doc) (hd : 0 ≤ d) (hr : x.ready.length ≤ 1000000)
  (zg : jy { x with ready := [] } g → g < (vb p x.doc g d).gs.length)
  (k : ∀ R' a' b M', R.le R' → eN R' a' p (vb p x.doc g d) → Hp R' L M' → K (.tuple #[gD a' p (vb p x.doc g d), .bool b]) M') :
  ae Tryz.prog 78 #[gD a p x.doc, .int .i64 g, .int .i64 d] M K Kp := by
 have hv := GS hx.wv hx.hl
 have hs := hv.sm hp hr
 unfold vb at k zg
 dsimp only at k zg
 by_cases va : jy { x.doc with ready := [] } g
 ·rw [if_pos va] at k zg
  have YS : jy { x with ready := [] } g := tV.1 va
  have zg := zg YS
  have hg : At x g 1 := ⟨YS.1, YS.2.1, YS.2.2.2⟩
  have hgd := hg.doc
  have AK := hv.aW hgd.1 hgd.2.1
  have hz := (hv.iF hgd.1 hgd.2.1).top
  obtain ⟨t1, t2, t3, t4, t5⟩ := hz
  have he : x.doc.end_ = 0 := va.2.2.1
  obtain ⟨code, fZ⟩ := aL (l := p.funcs) (i := (aa x.doc g).top.fn.toNat) (by omega)
  have hin : qd p { x.doc with ready := [] } g = code[(aa x.doc g).top.pc.toNat]? := by
   show (match p.funcs[(aa x.doc g).top.fn.toNat]? with | none => none | some code => code[(aa x.doc g).top.pc.toNat]?) = _
   rw [fZ]
  rw [hin] at k zg
  obtain ⟨c1, c2, c3⟩ := hp.code code (List.mem_of_getElem? fZ)
  cases iG : code[(aa x.doc g).top.pc.toNat]? with
  | none =>
   rw [iG] at k
   exact CE h hw AK hs he hgd.2.2 t1 fZ (by have := List.getElem?_eq_none_iff.1 iG; omega) (fun R' a' M' => k R' a' _ M')
  | some i =>
   rw [iG] at k zg
   dsimp only at k zg
   have hi := c3 i (List.mem_of_getElem? iG)
   have YV := (List.getElem?_eq_some_iff.1 iG).1
   by_cases h8 : i.op ≤ 8
   ·rw [if_pos h8] at k
    exact Am h hw AK hs he hgd.2.2 t1 fZ t3 iG hi.2.2.1 hi.1 ⟨t3, by omega⟩ h8 (fun R' a' M' => k R' a' _ M')
   ·rw [if_neg h8] at k zg
    have hx0 := hx.ready (r := [])
    have tH : (aa { x with ready := [] } g).top.pc + 1 ≤ 64 := by
     have : (aa x.doc g).top = (aa x g).top := by rw [wg, mF]
     show (aa x g).top.pc + 1 ≤ 64
     rw [← this]; omega
    obtain ⟨n1, n2, n3, n4, n5⟩ := hx0.wv.next hg tH
    have AH : qf p N (Wd.next { x with ready := [] } g) := ⟨n1, hx.hl.same rfl rfl, hx.hs, hx.lk⟩
    have hD := AH.deedR (d := d) hp n2 hi hd rfl
    have hv1 := GS n1 AH.hl
    rw [CJ] at hD hv1
    refine An h hw AK hs he hgd.2.2 t1 fZ t3 iG hi.2.2.1 hi.1 ⟨t3, by omega⟩ (by omega) zg (fun R1 a1 L1 M1 K1 h1 mM k1 => ?_) (fun R' a' M' => k R' a' _ M')
    exact JJ h1 mM (hv1.aW hg.1 (by have e := n3; rw [← CJ, pS, e]; exact hg.2.1)) (hv1.sm hp (by show (0 : Nat) ≤ _; omega)) hD k1
 ·rw [if_neg va] at k
  refine DA h hw hs ?_ (fun R' a' M' => k R' a' _ M')
  unfold jy at va
  by_cases a : g < 0
  ·exact .inl a
  by_cases b : (x.doc.gs.length : Int) ≤ g
  ·exact .inr (.inl b)
  by_cases c : x.doc.end_ ≠ 0
  ·exact .inr (.inr (.inl c))
  refine .inr (.inr (.inr fun e => va ⟨by omega, by show g < (x.doc.gs.length : Int); omega, by simpa using c, e⟩))
end
end Go.Proofs
namespace Go.Proofs
open Go.AF
set_option maxRecDepth 100000
set_option maxHeartbeats 1000000
attribute [local irreducible] bF dG fa dP aF eY aE b7 aO bj bJ aM
attribute [local irreducible] zd dO
section
variable {R : Mem} {L L' : List HP} {M : Mem} {K : Value → Mem → Prop} {Kp : List PanicEntry → Mem → Prop} {a : Al} {pa : PA} {p : cy} {x z : Wd} {b N : Nat}
theorem Np {A B : Option Addr} {ca cb m n : Nat} {l : List eJ} (h : Hp R L M) (hA : Src R L A (fV.cells l)) (hB : Src R L B (fV.cells l)) (hm : m = l.length) (hn : n = l.length) (hs : l.length ≤ 1000000000) (k : ∀ M', Hp R L M' → K (.int .i64 0) M') :
  ae Tryz.prog 83 #[.slice A m ca, .slice B n cb] M K Kp := by
 subst hm
 subst hn
 refine sD ?_
 refine dJ.2 ⟨fun hn => absurd rfl hn, fun _ => ?_⟩
 refine ⟨fun d vs M => ∃ i : Nat, vs = [.int .i64 (i : Int)] ∧ d = l.length - i ∧ i ≤ l.length ∧ Hp R L M, ⟨_, 0, rfl, rfl, by omega, h⟩, ?_⟩
 clear h
 rintro d _ ii M ⟨i, he, hd, hi, h⟩
 simp only [List.cons.injEq, Value.int.injEq, and_true, true_and] at he
 subst he
 refine aH.2 ⟨fun hlt => ?_, fun hge => k _ h⟩
 obtain ⟨w, hw⟩ := aL (l := l) (i := i) (by omega)
 obtain ⟨b, o, rfl⟩ := hA.iK h (by omega) (by decide)
 obtain ⟨b', o', rfl⟩ := hB.iK h (by omega) (by decide)
 refine ⟨by omega, hlt, aT ?_⟩
 refine aj (hB.at h (j := 0) hw rfl rfl) ?_
 refine aj (hB.at h (j := 1) hw rfl rfl) ?_
 refine aj (hB.at h (j := 2) hw rfl rfl) ?_
 refine aj (hB.at h (j := 3) hw rfl rfl) ?_
 refine aj (hB.at h (j := 4) hw rfl rfl) ?_
 refine aj (hB.at h (j := 5) hw rfl rfl) ?_
 refine aj (hB.at h (j := 6) hw rfl rfl) ?_
 refine aj (hB.at h (j := 7) hw rfl rfl) ?_
 refine aj (hB.at h (j := 8) hw rfl rfl) ?_
 refine aj (hB.at h (j := 9) hw rfl rfl) ?_
 refine aj (hB.at h (j := 10) hw rfl rfl) ?_
 refine ai h ?_
 clear h
 intro q M h
 repeat (refine ak h ?_; clear h; intro M h)
 refine ⟨by omega, hlt, aT ?_⟩
 have VF := hA.cons (P := pt q (gQ w) 114)
 replace h : Hp R (pt q (gQ w) 114 :: L) M := h
 refine aj (VF.at h (j := 0) hw rfl rfl) ?_
 refine aj (VF.at h (j := 1) hw rfl rfl) ?_
 refine aj (VF.at h (j := 2) hw rfl rfl) ?_
 refine aj (VF.at h (j := 3) hw rfl rfl) ?_
 refine aj (VF.at h (j := 4) hw rfl rfl) ?_
 refine aj (VF.at h (j := 5) hw rfl rfl) ?_
 refine aj (VF.at h (j := 6) hw rfl rfl) ?_
 refine aj (VF.at h (j := 7) hw rfl rfl) ?_
 refine aj (VF.at h (j := 8) hw rfl rfl) ?_
 refine aj (VF.at h (j := 9) hw rfl rfl) ?_
 refine aj (VF.at h (j := 10) hw rfl rfl) ?_
 unfold gQ at h
 repeat (refine az h ?_)
 refine aD (by simp) ?_
 rw [aS (by omega)]
 exact ⟨l.length - (i + 1), by omega, i + 1, rfl, rfl, by omega, h.sub bx⟩
theorem QA {r : List Int} : (decide ((({ x.doc with ready := r } : Wd)).end_ = 0 ∧ ∀ y ∈ ({ x.doc with ready := r } : Wd).gs, y.st ≠ 1 ∧ y.st ≠ 3)) = x.stuck := by
 unfold Wd.stuck
 rw [Bool.eq_iff_iff, decide_eq_true_iff, Bool.and_eq_true, beq_iff_eq, Bool.not_eq_true', ← Bool.not_eq_true, List.any_eq_true]
 refine and_congr Iff.rfl ?_
 constructor
 ·rintro h ⟨y, hy, hg⟩
  have := h (jo y) (List.mem_map.2 ⟨y, hy, rfl⟩)
  rw [lN] at this
  unfold Dw at hg
  simp [this.1, this.2] at hg
 ·intro h y hy
  obtain ⟨w, hw, rfl⟩ := List.mem_map.1 hy
  rw [lN]
  constructor
  ·intro e; exact h ⟨w, hw, by simp [Dw, e]⟩
  ·intro e; exact h ⟨w, hw, by simp [Dw, e]⟩
theorem Nq {r : List Int} (h : Hp R L M) [o : AG b L pa p x L'] (hx : qf p N x) (hp : eK p) (hw : eN R a p { x.doc with ready := r }) (k : ∀ M', Hp R (bl (cK pa p) b x :: L') M' → K (.int .i64 0) M') :
  ae Tryz.prog 87 #[.pointer (some ⟨b, 0, none⟩), gD a p { x.doc with ready := r }] M K Kp := by
 refine sF ?_
 replace h := h.pick o.pick
 clear o
 obtain ⟨rs, bu, hl⟩ := hw.aC
 have hlen : x.aC.length ≤ 8 := by have := hx.wv.lk; have := hp.lk; omega
 have hh := hx.wv.En
 refine ai h ?_
 clear h
 intro k1 M h
 refine ax h ?_
 refine ⟨fun d vs M => ∃ i : Nat, vs = [.int .i64 (i : Int)] ∧ d = x.aC.length - i ∧ i ≤ x.aC.length ∧ Hp R (pt k1 (jZ a p { x.doc with ready := r }) tW :: bl (cK pa p) b x :: L') M, ⟨_, 0, rfl, rfl, by omega, h.sub bx⟩, ?_⟩
 clear h
 rintro d _ ii M ⟨i, he, hd, hi, h⟩
 simp only [List.cons.injEq, Value.int.injEq, and_true, true_and] at he
 subst he
 refine aH.2 ⟨fun hlt => ?_, fun hge => ?_⟩
 ·have OK : i < x.aC.length := by have e : (i : Int) < (x.aC.length : Int) := hlt; omega
  obtain ⟨l, hl1⟩ := aL (l := x.aC) (i := i) OK
  obtain ⟨⟨A, n, c⟩, ht, e1, e2⟩ := hl.at (a := l) hl1
  dsimp only at e1 e2
  obtain ⟨bb, oo, hb⟩ := bu.some (by rw [hl.1]; show 0 < x.aC.length; omega) (by decide)
  rw [hb] at bu
  refine ⟨by omega, hlt, bB hb ?_⟩
  refine br (Src.at bu.src h ht (j := 0) rfl (by simp [sN])) ?_
  dsimp only
  refine ai h ?_
  clear h
  intro q M h
  refine ak h ?_
  clear h
  intro M h
  have el : cR x (i : Int) = l := by simp [cR, hl1]
  have hm := List.mem_of_getElem? hl1
  refine MP h (by omega) (by omega) (by rw [el]; have := hx.wv.Gr hm; omega) ?_
  clear h; intro A2 c2 M h
  rw [el] at h ⊢
  refine ⟨_, _, _, _, rfl, ax h ?_⟩
  have hk := hx.lk l hm
  by_cases ho : l.owner = -1
  ·have hn0 : n = 0 := by rw [e1]; simp [vY, ho]
   refine bV (by rw [hn0]; rfl) (aD (by rw [ho]; rfl) (aD (by rw [hk ho]; rfl) ?_))
   rw [aS (by omega)]
   exact ⟨x.aC.length - (i + 1), by omega, i + 1, rfl, rfl, by omega, h.sub bx⟩
  ·have ekl : vY l = l.owner :: l.waits := by unfold vY; rw [if_neg ho]
   rw [ekl] at e1 e2
   obtain ⟨b3, o3, hb3⟩ := e2.some (by simp) (by decide)
   subst hb3
   have P7 := e2.2
   rw [List.length_cons] at e1 P7
   refine aD (by simp; omega) (ax h ⟨by omega, by omega, aT ?_⟩)
   refine aj (Src.at e2.src h (i := 0) (j := 0) rfl rfl (by simp [bR])) ?_
   refine aD (by simp) (ax h ⟨by omega, by omega, by omega, by omega, by omega, by omega, ?_⟩)
   simp only [Int.toNat_natCast]
   have hd1 := (e2.drop 1 (by omega)).src (L := vS A2 c2 l.waits :: bl (cK pa p) b x :: pt q [Value.slice (some ⟨b3, o3, none⟩) n c] 251 :: pt k1 (jZ a p { x.doc with ready := r }) tW :: L')
   replace h : Hp R (vS A2 c2 l.waits :: bl (cK pa p) b x :: pt q [Value.slice (some ⟨b3, o3, none⟩) n c] 251 :: pt k1 (jZ a p { x.doc with ready := r }) tW :: L') M := h.sub bx
   refine vO (l := l.waits) h (Src.row (A := A2)) hd1 rfl (by omega) (by have := hx.wv.Gr hm; omega) ?_
   clear h; intro M h
   refine ff (aD (by rfl) ?_)
   rw [aS (by omega)]
   exact ⟨x.aC.length - (i + 1), by omega, i + 1, rfl, rfl, by omega, h.sub bx⟩
 ·refine Cm (b := b) h (by omega) ?_
  clear h; intro A c M h
  have ehl : x.doc.hl = cq x.hl.length x.hl := rfl
  have ZE := hw.hl
  have hlen2 : (cq x.hl.length x.hl).length ≤ 100 := by rw [(mH x.hl.length x.hl (Nat.le_refl _) hx.hl.ok).1.length_eq]; exact hh
  change RS g6 R a.ah a.ch (cq x.hl.length x.hl) at ZE
  change Hp R (eV A c (cq x.hl.length x.hl) :: bl (cK pa p) b x :: pt k1 [.slice a.pa.f p.funcs.length a.pa.fc, .slice a.pa.c p.dB.length a.pa.cc, .int .i64 p.aC, .slice a.pa.k p.cases.length a.pa.kc, .slice a.ag x.doc.gs.length a.cg, .int .u64 x.clock, .slice a.ac x.av.length a.cc, .slice a.al x.aC.length a.cl, .slice a.ah (cq x.hl.length x.hl).length a.ch, .int .u64 x.di, .slice a.ao x.out.length a.co, .int .i64 x.end_, .int .i64 x.code, .slice a.ar r.length a.cr] tW :: L') M at h
  generalize cq x.hl.length x.hl = sl at h ZE hlen2
  refine aU (ax h (aD (by simp) (ax h ?_)))
  generalize hC : pt k1 [.slice a.pa.f p.funcs.length a.pa.fc, .slice a.pa.c p.dB.length a.pa.cc, .int .i64 p.aC, .slice a.pa.k p.cases.length a.pa.kc, .slice a.ag x.doc.gs.length a.cg, .int .u64 x.clock, .slice a.ac x.av.length a.cc, .slice a.al x.aC.length a.cl, .slice a.ah sl.length a.ch, .int .u64 x.di, .slice a.ao x.out.length a.co, .int .i64 x.end_, .int .i64 x.code, .slice a.ar r.length a.cr] tW = C at h
  refine ⟨fun d vs M => ∃ i : Nat, vs = [.int .i64 (i : Int)] ∧ d = sl.length - i ∧ i ≤ sl.length ∧ Hp R (eV A c sl :: bl (cK pa p) b x :: C :: L') M, ⟨_, 0, rfl, rfl, by omega, h⟩, ?_⟩
  clear h
  rintro d _ jj M ⟨j, he, hd, hj, h⟩
  simp only [List.cons.injEq, Value.int.injEq, and_true, true_and] at he
  subst he
  refine aH.2 ⟨fun hlt => ?_, fun hge => k _ (h.sub bx)⟩
  obtain ⟨w, cv⟩ := aL (l := sl) (i := j) (by omega)
  obtain ⟨b1, o1, kW⟩ := ZE.some (by omega) (by decide)
  rw [kW] at ZE
  refine ⟨by omega, hlt, bB kW ?_⟩
  refine aj (Src.at ZE.src h cv (j := 0) rfl rfl) ?_
  refine aj (Src.at ZE.src h cv (j := 1) rfl rfl) ?_
  refine aj (Src.at ZE.src h cv (j := 2) rfl rfl) ?_
  refine ai h ?_
  clear h
  intro q M h
  repeat (refine ak h ?_; clear h; intro M h)
  have hA : Src R (pt q [.int .u64 w.t, .int .u64 w.seq, .int .i64 w.id] 241 :: eV A c sl :: bl (cK pa p) b x :: C :: L') A (g6.cells sl) := Src.row (A := A)
  obtain ⟨b2, o2, rfl⟩ := hA.iK h (by omega) (by decide)
  refine ⟨by omega, hlt, aT ?_⟩
  refine aj (hA.at h cv (j := 0) rfl rfl) ?_
  refine aj (hA.at h cv (j := 1) rfl rfl) ?_
  refine aj (hA.at h cv (j := 2) rfl rfl) ?_
  refine az h (az h (az h ?_))
  refine aD (by simp) ?_
  rw [aS (by omega)]
  exact ⟨sl.length - (j + 1), by omega, j + 1, rfl, rfl, by omega, h.sub bx⟩
end
section
variable {R : Mem} {L L' : List HP} {M : Mem} {K : Value → Mem → Prop} {Kp : List PanicEntry → Mem → Prop} {a : Al} {pa : PA} {p : cy} {x z : Wd} {b N : Nat}
theorem Nr {r : List Int} (h : Hp R L M) [o : AG b L pa p x L'] (hx : qf p N x) (hp : eK p) (hw : eN R a p { x.doc with ready := r }) (k : ∀ M', Hp R (bl (cK pa p) b x :: L') M' → K (.int .i64 0) M') :
  ae Tryz.prog 40 #[.pointer (some ⟨b, 0, none⟩), gD a p { x.doc with ready := r }] M K Kp := by
 refine sE ?_
 replace h := h.pick o.pick
 clear o
 have ry := (hx.wv.ready (r := [])).sm hp (by show (0 : Nat) ≤ _; omega)
 obtain ⟨s1, s2, s3, _, s5, _⟩ := ry
 change x.av.length ≤ 1000 at s2
 change ∀ c ∈ x.av, c.Small 1000000 at s1
 change x.gs.length ≤ 1000 at s3
 change x.out.length ≤ 1000000 at s5
 have eg : ({ x.doc with ready := r } : Wd).gs.length = x.gs.length := pS
 refine ai h ?_
 clear h
 intro k1 M h
 refine Eh (b := b) h ⟨_, _, rfl, ?_⟩
 refine Ei (b := b) h s5 ?_
 clear h; intro A c M h
 refine aU (ax h ?_)
 refine P4 (b := b) h (ff ⟨cw h, aD (by rw [eg]; simp) ?_⟩)
 refine az h (aD (by simp [Wd.doc, Wd.abs]) (az h (aD (by simp [Wd.doc, Wd.abs]) (az h ?_))))
 refine Jo (b := b) h (ff ⟨cw h, cw h, aD (by simp [Wd.doc, Wd.abs]) ?_⟩)
 refine ax h (aD (by simp [Wd.doc, Wd.abs]) ?_)
 refine ax h (ax h (az h (ax h (ax h (az h (ax h (ax h (ax h (az h (ax h (az h (az h (ax h ?_)))))))))))))
 refine zK (b := b) h (by omega) (mU ⟨fy h rfl, cw h, cw h, ?_⟩)
 refine Jz h hw (by rw [eg]; omega) ?_
 clear h; intro M h
 rw [QA]
 refine mU ⟨fy h rfl, cw h, cw h, aD (by simp) (ax h ?_)⟩
 have hout := hw.out
 change RS bR R a.ao a.co x.out at hout
 generalize hC : pt k1 (jZ a p { x.doc with ready := r }) 81 = C at h
 have hL : ∀ M', Hp R (C :: bl (cK pa p) b x :: L') M' → Hp R (pt k1 (jZ a p { x.doc with ready := r }) 81 :: bl (cK pa p) b x :: L') M' := fun M' h => by rw [hC]; exact h
 refine ⟨fun d vs M => ∃ i : Nat, vs = [.int .i64 (i : Int)] ∧ d = x.out.length - i ∧ i ≤ x.out.length ∧ Hp R (rf A c x.out :: C :: bl (cK pa p) b x :: L') M, ⟨_, 0, rfl, rfl, by omega, h.sub bx⟩, ?_⟩
 clear h
 rintro d _ ii M ⟨i, he, hd, hi, h⟩
 simp only [List.cons.injEq, Value.int.injEq, and_true, true_and] at he
 subst he
 refine aH.2 ⟨fun hlt => ?_, fun hge => ?_⟩
 ·have OK : i < x.out.length := by have e : (i : Int) < (x.out.length : Int) := hlt; omega
  obtain ⟨w, cv⟩ := aL (l := x.out) (i := i) OK
  obtain ⟨b1, o1, kW⟩ := hout.some (by omega) (by decide)
  rw [kW] at hout
  refine ⟨by omega, hlt, bB kW ?_⟩
  refine aj (Src.at hout.src h cv (j := 0) rfl (by simp [bR])) ?_
  have hA : Src R (rf A c x.out :: C :: bl (cK pa p) b x :: L') A (bR.cells x.out) := Src.row (A := A)
  obtain ⟨b2, o2, rfl⟩ := hA.iK h (by omega) (by decide)
  refine ⟨by omega, by omega, aT ?_⟩
  refine aj (hA.at h cv (j := 0) rfl (by simp [bR])) ?_
  refine aD (by simp) ?_
  rw [aS (by omega)]
  exact ⟨x.out.length - (i + 1), by omega, i + 1, rfl, rfl, by omega, h⟩
 replace h := hL _ (h.sub bx)
 refine ax h ?_
 obtain ⟨rs, bu, hl⟩ := hw.gs
 rw [hC] at h
 refine ⟨fun d vs M => ∃ i : Nat, vs = [.int .i64 (i : Int)] ∧ d = x.gs.length - i ∧ i ≤ x.gs.length ∧ Hp R (C :: bl (cK pa p) b x :: L') M, ⟨_, 0, rfl, rfl, by omega, h⟩, ?_⟩
 clear h hd hi hge i d
 rintro d _ ii M ⟨i, he, hd, hi, h⟩
 simp only [List.cons.injEq, Value.int.injEq, and_true, true_and] at he
 subst he
 rw [eg]
 refine aH.2 ⟨fun hlt => ?_, fun hge => ?_⟩
 ·have OK : i < x.gs.length := by omega
  have VL := hl.1
  rw [eg] at VL
  obtain ⟨⟨st, A2, n2, c2, wt⟩, ht, e1, e2, e3, e4⟩ := hl.at (bN (x := { x.doc with ready := r }) (g := (i : Int)) (by omega) (by rw [eg]; omega))
  have ed : aa { x.doc with ready := r } (i : Int) = jo (aa x (i : Int)) := wg
  rw [ed] at e1 e2 e3 e4
  rw [iX] at e2 e3
  rw [lN] at e1
  dsimp only at e1 e2 e3 e4
  subst e1; subst e2; subst e4
  obtain ⟨b1, o1, kW⟩ := bu.some (by omega) (by decide)
  rw [kW] at bu
  refine ⟨by omega, by omega, bB kW ?_⟩
  rw [Int.toNat_natCast] at ht ⊢
  refine aj (Src.at bu.src h ht (j := 0) rfl (by simp [uU])) ?_
  refine br (Src.at bu.src h ht (j := 1) rfl rfl) ?_
  refine aj (Src.at bu.src h ht (j := 2) rfl rfl) ?_
  refine aj (Src.at bu.src h ht (j := 3) rfl rfl) ?_
  refine aj (Src.at bu.src h ht (j := 4) rfl rfl) ?_
  refine aj (Src.at bu.src h ht (j := 5) rfl rfl) ?_
  refine ai h ?_
  clear h
  intro q M h
  repeat (refine ak h ?_; clear h; intro M h)
  refine az h ?_
  have AK := hx.wv.aW (g := (i : Int)) (by omega) (by omega)
  refine xA (b := b) h (by omega) (by omega) (ff ⟨cw h, aD (by simp) (ax h ?_)⟩)
  refine Jg (b := b) h AK ?_
  clear h; intro bs cs M h
  refine aU ⟨cw h, cw h, ?_⟩
  refine Np h (Src.row (A := some ⟨bs, 0, none⟩)) e3.src rfl rfl (by have := AK.2.2.2; omega) ?_
  clear h; intro M h
  refine ff ⟨cw h, cw h, aD rfl ?_⟩
  rw [aS (by omega)]
  exact ⟨x.gs.length - (i + 1), by omega, i + 1, rfl, rfl, by omega, h.sub bx⟩
 clear bu hl rs
 obtain ⟨rs, bu, hl⟩ := hw.av
 change yN R rs x.av at hl
 replace h := hL _ h
 refine ax h ?_
 rw [hC] at h
 have ec : ({ x.doc with ready := r } : Wd).av = x.av := rfl
 rw [ec]
 refine ⟨fun d vs M => ∃ i : Nat, vs = [.int .i64 (i : Int)] ∧ d = x.av.length - i ∧ i ≤ x.av.length ∧ Hp R (C :: bl (cK pa p) b x :: L') M, ⟨_, 0, rfl, rfl, by omega, h⟩, ?_⟩
 clear h hd hi hge i d
 rintro d _ ii M ⟨i, he, hd, hi, h⟩
 simp only [List.cons.injEq, Value.int.injEq, and_true, true_and] at he
 subst he
 refine aH.2 ⟨fun hlt => ?_, fun hge => ?_⟩
 ·obtain ⟨w, cv⟩ := aL (l := x.av) (i := i) (by omega)
  have hlr : i < rs.length := by have := hl.1; omega
  obtain ⟨rc, hrc⟩ := aL (l := rs) (i := i) hlr
  have Ai := hl.2 i rc w hrc cv
  have hch' := Ai
  obtain ⟨A3, ca, B3, cb, D3, cd, rfl, q1, q2, q3⟩ := Ai.eq
  obtain ⟨b1, o1, kW⟩ := bu.some (by omega) (by decide)
  rw [kW] at bu
  refine ⟨by omega, by omega, bB kW ?_⟩
  refine aj (Src.at bu.src h hrc (j := 0) rfl (by simp [xQ])) ?_
  refine br (Src.at bu.src h hrc (j := 1) rfl rfl) ?_
  refine br (Src.at bu.src h hrc (j := 2) rfl rfl) ?_
  refine br (Src.at bu.src h hrc (j := 3) rfl rfl) ?_
  refine uZ (Src.at bu.src h hrc (j := 4) rfl rfl) ?_
  refine ai h ?_
  clear h
  intro q M h
  repeat (refine ak h ?_; clear h; intro M h)
  refine az h (ax h (ax h (ax h (me h ?_))))
  have ew : aX x.av (i : Int) = w := by unfold aX; rw [Int.toNat_natCast, List.getD_eq_getElem?_getD, cv]; rfl
  have hsml := s1 w (List.mem_of_getElem? cv)
  refine MI (b := b) h ⟨by omega, by omega⟩ (by rw [ew]; exact hsml) ?_
  clear h; intro A4 c4 B4 c5 D4 c6 M h
  rw [ew] at h ⊢
  refine ⟨_, _, _, _, _, _, _, _, _, _, rfl, fy h rfl, ?_⟩
  refine LY h hch' (hsml.mono (by omega)) (Src.row (A := A4)) (Src.row (A := B4)) (Src.row (A := D4)) ?_
  clear h; intro M h
  refine ff ⟨fy h rfl, aD rfl ?_⟩
  rw [aS (by omega)]
  exact ⟨x.av.length - (i + 1), by omega, i + 1, rfl, rfl, by omega, h.sub bx⟩
 replace h := hL _ h
 refine aI h rfl ?_
 refine Nq (b := b) h hx hp hw ?_
 clear h; intro M h
 exact ff (k _ (h.sub bx))
end
section
variable {p : cy} {x y : Wd} {g d : Int} {N : Nat}
theorem VG (h : jG g x y) : y.ready.length ≤ y.gs.length := by
 obtain ⟨a, _, c, _⟩ := h
 have := xC (b := 1) y.gs.length y.ready (fun q hq => ⟨(c q hq).1, (c q hq).2.1⟩) (fun q => List.nodup_iff_count.1 a q)
 omega
theorem QB (h : qf p N x) (hp : eK p) (hN : N < 1000000000) (hd : 0 ≤ d) : ∃ v r rest, lC p x g (.num v) = some (r, rest) ∧ (∀ kd n, asks p { x with ready := [] } g = some (kd, n) → v = d.tmod (if 1 > n then 1 else n)) ∧
  qf p (N + 1) r.fin ∧ r.fin.ready.length ≤ 100 ∧ r.fin.doc = vb p x.doc g d ∧ (∀ l y, r ≠ .fR l y) ∧ (jy { x with ready := [] } g → g < (vb p x.doc g d).gs.length) := by
 by_cases h0 : 0 ≤ g
 ·have hbd : ∀ kd n, asks p { x with ready := [] } g = some (kd, n) → 1 ≤ n ∧ n < 1099511627776 := fun kd n e => Ye hp e
  obtain ⟨v, hv⟩ : ∃ v : Int, ∀ kd n, asks p { x with ready := [] } g = some (kd, n) → v = d.tmod n := by
   cases asks p { x with ready := [] } g with
   | none => exact ⟨0, fun kd n e => by cases e⟩
   | some q => exact ⟨d.tmod q.2, fun kd n e => by cases e; rfl⟩
  have hv2 : ∀ kd n, asks p { x with ready := [] } g = some (kd, n) → v = d.tmod n ∧ 0 ≤ v ∧ v < n := fun kd n e => by
   have e1 := hv kd n e
   have e2 := hbd kd n e
   rw [e1]
   exact ⟨rfl, Int.tmod_nonneg n hd, Int.tmod_lt_of_pos d (by omega)⟩
  obtain ⟨r, rest, he, hres⟩ := U8 (d := .num v) h.wv hp h0 (fun v' kd n e1 e2 => by cases e1; exact (hv2 kd n e2).2)
  have Wa : gN p g { x with ready := [] } r := by
   rcases hres with hres | ⟨l, e, _⟩
   ·exact hres.1
   ·cases e
  have hdoc := VE (d := d) h hp he hv2
  have hw := h.exec hp hN he Wa.wv
  have V0 : ∀ l y, r ≠ .fR l y := fun l y e => by subst e; exact Wa
  have hfd : r.fin.doc = vb p x.doc g d := by
   cases r with
   | on y => exact hdoc.symm
   | dg n y => exact hdoc.symm
   | fR l y => exact absurd rfl (V0 l y)
  refine ⟨v, r, rest, he, fun kd n e => ?_, hw, ?_, hfd, V0, fun hc => ?_⟩
  ·have := hbd kd n e
   rw [if_neg (by omega)]; exact hv kd n e
  ·have hn := hw.wv.n2
   cases r with
   | on y => have := VG Wa.2; exact Nat.le_trans this hn
   | dg n y => have := VG Wa.2; exact Nat.le_trans this hn
   | fR l y => exact absurd rfl (V0 l y)
  ·rw [← hfd, pS]
   exact Wa.lt ⟨hc.1, hc.2.1, hc.2.2.2⟩
 ·have hn : ¬ jy { x with ready := [] } g := fun hc => h0 hc.1
  have he : lC p x g (.num 0) = some (.on { x with ready := [] }, true) := by unfold lC; rw [if_neg hn]
  refine ⟨0, _, _, he, fun kd n e => ?_, h.ready.mono (by omega), by show (0 : Nat) ≤ 100; omega, ?_, (fun l y e => by cases e), fun hc => absurd hc hn⟩
  ·unfold asks at e; rw [if_neg hn] at e; cases e
  ·unfold vb
   dsimp only
   rw [← ES, if_neg (fun hc => hn (tV.1 hc))]
   rfl
end
section
variable {R : Mem} {L L' : List HP} {M : Mem} {K : Value → Mem → Prop} {Kp : List PanicEntry → Mem → Prop} {a : Al} {pa : PA} {p : cy} {x z : Wd} {b N : Nat} {g d : Int}
theorem JN {ka kd : Nat} {a0 d n kind : Int} :
  iT R (.func (.func 77) #[] #[.pointer (some ⟨ka, 0, none⟩), .pointer (some ⟨kd, 0, none⟩)]) kind n (.num (d.tmod (if 1 > n then 1 else n)))
   (pt ka [.int .i64 a0] 3 :: pt kd [.int .i64 d] 3 :: L) (pt ka [.int .i64 (IntKind.wrap .i64 (a0 + 1))] 3 :: pt kd [.int .i64 d] 3 :: L) := by
 intro Q M K Kp h k
 refine P2 ⟨by decide, by show _ < 228; decide⟩ ?_
 refine pH (az h ?_)
 refine ak h ?_
 clear h; intro M h
 exact az h ⟨by split <;> omega, k _ h⟩
theorem end_of {R : Mem} {b : Nat} {r : Out Wd} {rest : Bool} {L2 : List HP} (V0 : ∀ l y, r ≠ .fR l y)
  (k : ∀ R' A c t M', R.le R' → RS bR R' A c r.fin.ready → Hp R' (bl (cK pa p) b r.fin :: L2) M' → K (.agg #[.bool t, .slice A r.fin.ready.length c]) M') : pK R pa p b g L2 K Kp r rest := by
 cases r with
 | on y => exact fun R' A c M' h1 h2 h3 => k R' A c _ M' h1 h2 h3
 | dg n y => exact fun R' A c M' h1 h2 h3 => k R' A c _ M' h1 h2 h3
 | fR l y => exact absurd rfl (V0 l y)
theorem Ns {t0 : Bool} {g0 d0 : Int} (h : Hp R L M) [o : AG b L pa p x L'] (hx : qf p N x) (hN : N < 1000000) (hp : eK p) (hpr : oG R pa p) (hw : eN R a p x.doc) (hr : x.ready.length ≤ 1000000)
  (k : ∀ y t R' a' M', qf p (N + 1) y → y.ready.length ≤ 100 → R.le R' → eN R' a' p y.doc → Hp R' (bl (cK pa p) b y :: L') M' → K (.tuple #[gD a' p y.doc, .bool t]) M') :
  ae Tryz.prog 38 #[.pointer (some ⟨b, 0, none⟩), gD a p x.doc, .agg #[.bool t0, .int .i64 g0, .int .i64 d0]] M K Kp := by
 refine sG ?_
 replace h := h.pick o.pick
 clear o
 have hv := GS hx.wv hx.hl
 have ry := hv.sm hp hr
 have td := hx.wv.n2
 have ZE := hx.wv.En
 refine ai h ?_
 clear h
 intro k1 M h
 refine ai h ?_
 clear h
 intro k3 M h
 refine ai h ?_
 clear h
 intro k5 M h
 refine me h ?_
 cases t0 with
 | true =>
  refine aq (aI h rfl ?_)
  refine Nf h hw ry (fun y hy => ⟨(hv.hl y hy).1, (hv.hl y hy).2.1⟩) ?_
  clear h; intro R1 a1 M l1 mM h
  refine ⟨_, _, _, _, _, _, _, _, _, _, _, _, _, _, rfl, ?_⟩
  refine ai h ?_
  clear h
  intro jE M h
  refine bk h rfl rfl rfl ?_
  clear h; intro M h
  refine ax h (ax h (az h (ax h (ax h (az h (ax h (ax h (ax h (az h (ax h (az h (az h (ax h (ax h ?_))))))))))))))
  obtain ⟨w1, w2, w3, w4⟩ := Gt hx.wv
  have AH := hx.tick
  have hd1 : x.doc.EE = x.tick.doc := Vw.symm
  rw [hd1] at mM h ⊢
  refine Cl (b := b) h (by omega) w1 ?_
  clear h; intro R2 A2 c2 M l2 r2 h
  refine aU ⟨cw h, fy h rfl, ?_⟩
  have cv := mM.le l2
  have hrd := cv.ready
  refine vO (l := x.tick.ready) h r2.src hrd.src rfl rfl (by omega) ?_
  clear h; intro M h
  refine ff ⟨cw h, fy h rfl, ?_⟩
  refine bk h rfl rfl rfl ?_
  clear h; intro M h
  refine ⟨cw h, fy h rfl, aI h rfl ?_⟩
  exact k x.tick _ R2 a1 M (AH.mono (by omega)) w4 (Mem.le_trans l1 l2) cv (h.sub bx)
 | false =>
  refine au (az h ?_)
  obtain ⟨dq, hdq, hdm⟩ := mask (x := d0) (y := 65535) (m := 65535) rfl (by omega)
  rw [hdq]
  refine ai h ?_
  clear h
  intro kd M h
  refine ak h ?_
  clear h
  intro M h
  refine ai h ?_
  clear h
  intro ka M h
  refine ak h ?_
  clear h
  intro M h
  refine az h (ax h ?_)
  generalize hC1 : pt k1 (jZ a p x.doc) 81 = C1 at h
  have hL : ∀ (Q : List HP) M', Hp R (C1 :: Q) M' → Hp R (pt k1 (jZ a p x.doc) 81 :: Q) M' := fun Q M' h => by rw [hC1]; exact h
  have h0 : Hp R (C1 :: pt k3 [.bool false, .int .i64 g0, .int .i64 d0] 106 :: bl (cK pa p) b x :: pt ka [.int .i64 0] 3 :: pt kd [.int .i64 (dq : Int)] 3 :: pt k5 gz 81 :: L') M := h.sub bx
  clear h
  obtain ⟨rs, bu, hl⟩ := hw.gs
  refine aH.2 ⟨fun c0 => ⟨fun vs M => ∃ g : Int, vs = [.int .i64 g] ∧ Hp R (C1 :: pt k3 [.bool false, .int .i64 g0, .int .i64 d0] 106 :: bl (cK pa p) b x :: pt ka [.int .i64 0] 3 :: pt kd [.int .i64 (dq : Int)] 3 :: pt k5 gz 81 :: L') M, ?a1, fun _ _ M hJ => ?t1⟩,
   fun c0 => ⟨fun vs M => ∃ g : Int, vs = [.int .i64 g] ∧ Hp R (C1 :: pt k3 [.bool false, .int .i64 g0, .int .i64 d0] 106 :: bl (cK pa p) b x :: pt ka [.int .i64 0] 3 :: pt kd [.int .i64 (dq : Int)] 3 :: pt k5 gz 81 :: L') M, ⟨_, rfl, h0⟩, fun _ _ M hJ => ?t2⟩⟩
  case a1 =>
   refine aH.2 ⟨fun c1 => ?_, fun c1 => ⟨_, rfl, h0⟩⟩
   refine ⟨fun dd vs M => ∃ i : Nat, vs = [.int .i64 g0, .int .i64 (i : Int)] ∧ dd = x.doc.gs.length - i ∧ i ≤ x.doc.gs.length ∧ Hp R (C1 :: pt k3 [.bool false, .int .i64 g0, .int .i64 d0] 106 :: bl (cK pa p) b x :: pt ka [.int .i64 0] 3 :: pt kd [.int .i64 (dq : Int)] 3 :: pt k5 gz 81 :: L') M, ⟨_, 0, rfl, rfl, by omega, h0⟩, ?_⟩
   clear h0
   rintro dd _ gg ii M ⟨i, he, hd, hi, h⟩
   simp only [List.cons.injEq, Value.int.injEq, and_true, true_and] at he
   obtain ⟨rfl, rfl⟩ := he
   refine aH.2 ⟨fun hlt => ?_, fun hge => ⟨_, rfl, h⟩⟩
   refine az h ⟨by omega, ?_⟩
   refine ax (hL _ _ h) ?_
   obtain ⟨gq, hgq, hgm⟩ := mask (x := gg) (y := 65535) (m := 65535) rfl (by omega)
   have hlen : x.doc.gs.length ≤ 100 := hv.n2
   rw [hgq, dD (by omega) (by omega)]
   have em : Int.tmod ((gq : Int) + (i : Int)) (x.doc.gs.length : Int) = (((gq + i) % x.doc.gs.length : Nat) : Int) := by
    rw [← Int.natCast_add, Int.ofNat_tmod]
   rw [em, Int.toNat_natCast]
   have hml : (gq + i) % x.doc.gs.length < x.doc.gs.length := Nat.mod_lt _ (by omega)
   generalize (gq + i) % x.doc.gs.length = m at hml
   obtain ⟨⟨st, A2, n2, c2, wt⟩, ht⟩ := aL (l := rs) (i := m) (by rw [hl.1]; exact hml)
   obtain ⟨b1, o1, kW⟩ := bu.some (by rw [hl.1]; omega) (by decide)
   rw [kW] at bu
   refine ⟨by omega, by omega, bB kW ?_⟩
   refine aj (Src.at bu.src h ht (j := 0) rfl (by simp [uU])) ?_
   refine bh.2 ⟨fun _ => ⟨_, rfl, h⟩, fun _ => ?_⟩
   exact ⟨x.doc.gs.length - (i + 1), by omega, i + 1, by rw [aS (by omega)], rfl, by omega, h⟩
  all_goals
   obtain ⟨g, hg, h⟩ := hJ
   simp only [List.cons.injEq, Value.int.injEq, and_true, true_and] at hg
   subst hg
   clear h0
   rename_i vu
   obtain ⟨v, r, rest, he, nI, hy, hyr, hyd, V0, AK⟩ := QB (g := vu) (d := (dq : Int)) hx hp (by omega) (by omega)
   replace h : Hp R (bl (cK pa p) b x :: pt ka [.int .i64 0] 3 :: pt kd [.int .i64 (dq : Int)] 3 :: pt k5 gz 81 :: C1 :: L') M := h.sub bx
   obtain ⟨v2, hds⟩ : ∃ v2, match asks p { x with ready := [] } vu with | none => pt ka [.int .i64 v2] 3 :: pt kd [.int .i64 (dq : Int)] 3 :: pt k5 gz 81 :: C1 :: L' = pt ka [.int .i64 0] 3 :: pt kd [.int .i64 (dq : Int)] 3 :: pt k5 gz 81 :: C1 :: L' | some (kd', n) => iT R (.func (.func 77) #[] #[.pointer (some ⟨ka, 0, none⟩), .pointer (some ⟨kd, 0, none⟩)]) kd' n (.num v) (pt ka [.int .i64 0] 3 :: pt kd [.int .i64 (dq : Int)] 3 :: pt k5 gz 81 :: C1 :: L') (pt ka [.int .i64 v2] 3 :: pt kd [.int .i64 (dq : Int)] 3 :: pt k5 gz 81 :: C1 :: L') := by
    cases hq : asks p { x with ready := [] } vu with
    | none => exact ⟨0, rfl⟩
    | some q =>
     obtain ⟨kd', n⟩ := q
     refine ⟨IntKind.wrap .i64 (0 + 1), ?_⟩
     have e := nI kd' n hq
     rw [e]
     exact JN
   refine tJ (b := b) h hpr ⟨_, _, _, rfl⟩ he hds (end_of V0 ?_)
   clear h; intro R1 A1 c1 t1 M l1 r1 h
   refine ⟨_, _, _, _, rfl, ?_⟩
   refine ai h ?_
   clear h
   intro Fm M h
   refine ak h ?_
   clear h
   intro M h
   refine ak h ?_
   clear h
   intro M h
   subst hC1
   refine aI h rfl (az h ?_)
   refine No h hx hp (hw.le l1) (by omega) hr AK ?_
   clear h; intro R2 a2 t2 M l2 cv h
   rw [← hyd] at cv ⊢
   refine ⟨jZ a2 p r.fin.doc, rfl, _, rfl, ?_⟩
   refine ai h ?_
   clear h
   intro ir M h
   refine bk h rfl rfl rfl ?_
   clear h; intro M h
   refine me h ?_
   generalize (t1 == t2) = tt
   cases tt with
   | true =>
    refine aq (ax h (ax h ?_))
    refine ax h (ax h (az h (ax h (ax h (az h (ax h (ax h (ax h (az h (ax h (az h (az h (ax h ?_)))))))))))))
    refine vO (l := r.fin.ready) h (r1.le l2).src cv.ready.src rfl rfl (by omega) ?_
    clear h; intro M h
    refine ff ⟨fy h rfl, bV rfl (az h ?_)⟩
    refine bk h rfl rfl rfl ?_
    clear h; intro M h
    refine ⟨cw h, fy h rfl, aI h rfl ?_⟩
    exact k r.fin _ R2 a2 M hy hyr (Mem.le_trans l1 l2) cv (h.sub bx)
   | false =>
    refine au (ax h (ax h (az h (ax h (ax h (az h (ax h (ax h (ax h (az h (ax h (az h (az h (ax h ?_))))))))))))))
    refine ⟨fy h rfl, ?_⟩
    refine bk h rfl rfl rfl ?_
    clear h; intro M h
    refine ⟨fy h rfl, aI h rfl ?_⟩
    exact k r.fin _ R2 a2 M hy hyr (Mem.le_trans l1 l2) cv (h.sub bx)
end
end Go.Proofs
namespace Go.Proofs
open Go.AF
set_option maxRecDepth 100000
set_option maxHeartbeats 1000000
attribute [local irreducible] bF dG fa dP aF eY aE b7 aO bj bJ aM
section
variable {R : Mem} {L L' L2 : List HP} {M : Mem} {K : Value → Mem → Prop} {Kp : List PanicEntry → Mem → Prop} {pa : PA} {p : cy} {dr : Value} {b : Nat} {x : Wd} {g : Int}
theorem ET {d : iz} {y : Wd} {kp : Bool} (h : Hp R L M) [o : AG b L pa p x L'] (hp : oG R pa p) (J6 : ∃ f c d, dr = .func f c d) (he : exec p x g d = some (y, kp)) (ha : asks p { x with ready := [] } g = none)
  (k : ∀ R' A c M', R.le R' → RS bR R' A c y.ready → Hp R' (bl (cK pa p) b y :: L') M' → K (.agg #[.bool kp, .slice A y.ready.length c]) M') :
  ae Tryz.prog 41 #[.pointer (some ⟨b, 0, none⟩), .int .i64 g, dr] M K Kp :=
 UX h hp J6 he (by rw [ha]) k
end
def p0 : cy := ⟨[[⟨20, 0, 0, 0⟩, ⟨10, 0, 0, 0⟩]], [], 0, []⟩
def aw1 : Wd × Bool := (exec p0 (Wd.new p0) 0 (.num 0)).getD (Wd.new p0, false)
def aw2 : Wd × Bool := (exec p0 aw1.1 0 (.num 0)).getD (Wd.new p0, false)
theorem aw1_eq : exec p0 (Wd.new p0) 0 (.num 0) = some (aw1.1, true) := by kernel_rfl
theorem aw2_eq : exec p0 aw1.1 0 (.num 0) = some (aw2.1, false) := by kernel_rfl
section
variable {R : Mem} {L L' : List HP} {M : Mem} {K : Value → Mem → Prop} {Kp : List PanicEntry → Mem → Prop}
theorem JO (h : Hp R L M) (k : ∀ R' M', R.le R' → Hp R' L M' → K (.bool true) M') : ae Tryz.prog 34 #[] M K Kp := by
 refine qE ?_
 refine ai h ?_
 clear h; intro k1 M h
 refine ai h ?_
 clear h; intro k3 M h
 have h1 := (h.pt k1).gY (E := jf) (l := [⟨20, 0, 0, 0⟩, ⟨10, 0, 0, 0⟩]) rfl
 obtain ⟨R1, hle1, Ag, h2⟩ := h1.bz (some ⟨k1, 0, none⟩)
 have h3 := h2.gY (E := sN) (l := [(some ⟨k1, 0, none⟩, 2, 2)]) rfl
 obtain ⟨R2, hle2, QU, h4⟩ := h3.bz (some ⟨k3, 0, none⟩)
 clear h h1 h2 h3
 have hp : oG R2 ⟨some ⟨k3, 0, none⟩, 1, none, 0, none, 0⟩ p0 := ⟨⟨_, QU, rfl, fun i t f a b => by
  match i, a, b with
  | 0, a, b => simp at a; cases b; subst a; exact ⟨Ag.le hle2, rfl⟩
  | i + 1, a, b => simp at a⟩, RS.nil _ _⟩
 have hle : R.le R2 := Mem.le_trans hle1 hle2
 refine Ej (p := p0) (pa := ⟨some ⟨k3, 0, none⟩, 1, none, 0, none, 0⟩) h4 (RS.nil _ _) (by decide) (by decide) ?_
 clear h4
 intro b M h
 refine Bl (au ?_)
 refine ET h hp ⟨_, _, _, rfl⟩ aw1_eq (by kernel_rfl) ?_
 clear h
 intro R3 A1 c1 M hle3 hrs1 h
 refine ⟨_, _, _, _, rfl, ?_⟩
 refine ET h (hp.le hle3) ⟨_, _, _, rfl⟩ aw2_eq (by kernel_rfl) ?_
 clear h
 intro R4 A2 c2 M hle4 Yq h
 refine ⟨_, _, _, _, rfl, ?_⟩
 repeat (first|(refine ai h ?_;clear h;intro kb M h)|(refine ak h ?_;clear h;intro M h)|refine St.to h ?_|(apply Exists.intro;(repeat apply Exists.intro);refine And.intro rfl ?_)|refine ay ?_|refine aq ?_|refine au ?_)
 refine Eh h ?_
 refine ⟨_, _, rfl, ?_⟩
 have e2 : aw2.1.out = [0] := by kernel_rfl
 refine Ei h (by rw [e2]; decide) ?_
 clear h
 intro A c M h
 refine aU ?_
 refine me h (aq ?_)
 refine me h ?_
 refine aq ?_
 have e1 : (aw2.1.end_ == 1) = true := by kernel_rfl
 rw [e2] at h
 rw [e1, e2]
 refine aq (bV (by rfl) ?_)
 refine ⟨by omega, by decide, ?_⟩
 obtain ⟨bo, rfl⟩ := h.bU (A := A) (by decide) (by decide)
 refine aT ?_
 refine aj (Src.at (h.src (A := some ⟨bo, 0, none⟩)) h (i := 0) (j := 0) rfl rfl (by simp [bR])) ?_
 refine bV (by rfl) ?_
 have e4 : aw2.1.gs.length = 1 := by kernel_rfl
 refine xA h (by omega) (by omega) ?_
 have e3 : (aa aw2.1 0).st = 4 := by kernel_rfl
 rw [e3]
 exact ff (k _ _ (Mem.le_trans hle (Mem.le_trans hle3 hle4)) (h.sub bx))
end
end Go.Proofs
