/- A part of proofs about functions of one program: a condition over a partial memory that is enough for a call, and what calls answer by it. No condition of its own. -/
import Derived.Test.YtodeolmcinekoaaChan
namespace Go.Proofs
open Go.AF
set_option linter.unusedVariables false
set_option maxRecDepth 100000

theorem set_comm {M : Mem} {b k : Nat} {x y : Obj} (h : b ≠ k) : (M.set b x).set k y = (M.set k y).set b x := by
  funext i; unfold Mem.set
  by_cases h1 : i = k
  · subst h1; rw [if_pos rfl, if_neg (Ne.symm h), if_pos rfl]
  · rw [if_neg h1, if_neg h1]

def waitV (g c v : Int) : Value := .agg #[.int .i64 g, .int .i64 c, .int .i64 v]

theorem chans_WaitRecv {b R : Nat} {F : List Nat} {buf : List Int} {snd rcv : List Wt} {closed : Bool} {w : Wt} {M : Mem} {K : Value → Mem → Prop} {Kp : List PanicEntry → Mem → Prop}
    (hC : ChanAt M b F R buf snd rcv closed) (hn : rcv.length ≤ 100000)
    (h : ∀ F' M', ChanAt M' b F' R buf snd (rcv ++ [w]) closed → Chg (b :: F) M M' → (∀ x ∈ F', x ∈ F ∨ M x = none) → K (.tuple #[]) M') :
    ACalls Try.prog 36 #[.pointer (some ⟨b, 0, none⟩), .agg #[.int .i64 w.g, .int .i64 w.cs, .int .i64 w.v]] M K Kp := by
  obtain ⟨T, Ab, cb, As, cs, Ar, cr, g1, g2, g3, g4, g5, g6, g7, g8⟩ := id hC
  subst g5
  simp only [List.append_assoc, List.mem_append, not_or] at g6
  refine vc_chans_Chan_WaitRecv b 0 w.g w.cs w.v M K Kp ?_
  intro k1 hk1
  have nb1 := none_ne hk1 g1
  have c1 : Chg [] M (M.set k1 (.cells #[.int .i64 w.g, .int .i64 w.cs, .int .i64 w.v] 54 (0, 0))) := (Chg.refl _ _).set (.inr hk1)
  simp only [ld_set_ne nb1, ld_of g1, ld_set_eq, Nat.zero_add, lit_get0, lit_get1, lit_get2, exI_some, exSl_some]
  show exSl (some (.slice Ar rcv.length cr)) _
  rw [exSl_some]
  intro k2 hk2
  refine el_wait.append_new (r := wCells [w]) (m := 1) (g4.chg c1 (by simp)) hk2 rfl (wCells_plain [w]) (by omega) fun A' c' M2 own c2 fr => ?_
  rw [exSl_some]
  have q1 := c2.at (c1.at g1 (by simp)) g6.2.2
  simp only [put_of q1, wr_of' q1, List.setIfInBounds_toArray, List.set_cons_zero, List.set_cons_succ]
  refine ⟨by simp, ?_⟩
  have c12 : Chg (blk Ar) M M2 := (c1.mono (fun x hx => by simp at hx)).trans c2 (fun x hx => .inl hx)
  have old : ∀ x ∈ blk A', x ∈ blk Ar ∨ M x = none := fun x hx => by
    rcases fr with rfl | ⟨y, rfl, hy⟩
    · exact .inl hx
    · simp only [blk, List.mem_singleton] at hx; subst hx; exact .inr (c1.fresh hy)
  obtain ⟨F', h1, h2, h3⟩ := chan_r (l2 := rcv ++ [w]) (closed' := closed) g1 g2 g3 g4 g6 g7 g8 c12 old (by rw [List.length_append, wCells_app]; exact own)
  rw [List.length_append] at h1 h2
  exact h F' _ h1 h2 h3

theorem chans_Send {b R : Nat} {F : List Nat} {buf : List Int} {snd rcv : List Wt} {closed : Bool} {v : Int} {M : Mem} {K : Value → Mem → Prop} {Kp : List PanicEntry → Mem → Prop}
    (hC : ChanAt M b F R buf snd rcv closed) (hn : rcv.length ≤ 100000) (hb : buf.length ≤ 100000)
    (hcl : closed = true → ∀ M', Chg [] M M' → K (.tuple #[waitV 0 0 0, .bool false, .int .i64 10]) M')
    (hw : closed = false → ∀ w r, rcv = w :: r → ∀ F' M', ChanAt M' b F' R buf snd r closed → Chg (b :: F) M M' → (∀ x ∈ F', x ∈ F ∨ M x = none) → K (.tuple #[waitV w.g w.cs v, .bool true, .int .i64 0]) M')
    (hbuf : closed = false → rcv = [] → buf.length < R → ∀ F' M', ChanAt M' b F' R (buf ++ [v]) snd rcv closed → Chg (b :: F) M M' → (∀ x ∈ F', x ∈ F ∨ M x = none) → K (.tuple #[waitV 0 0 0, .bool false, .int .i64 0]) M')
    (hfull : closed = false → rcv = [] → ¬ buf.length < R → ∀ M', Chg [] M M' → K (.tuple #[waitV 0 0 0, .bool false, .int .i64 6]) M') :
    ACalls Try.prog 38 #[.pointer (some ⟨b, 0, none⟩), .int .i64 v] M K Kp := by
  obtain ⟨T, Ab, cb, As, cs, Ar, cr, g1, g2, g3, g4, g5, g6, g7, g8⟩ := id hC
  subst g5
  simp only [List.append_assoc, List.mem_append, not_or] at g6
  refine vc_chans_Chan_Send b 0 v M K Kp ?_
  intro k1 hk1
  have nb1 := none_ne hk1 g1
  have c1 : Chg [] M (M.set k1 (.cells #[.int .i64 0, .int .i64 0, .int .i64 0] 54 (0, 0))) := (Chg.refl _ _).set (.inr hk1)
  have g1' := c1.at g1 (by simp)
  rw [ld_set_ne nb1, ld_of g1]
  show exB (some (.bool closed)) _
  rw [exB_some]
  simp only [put_set_eq, wr_set_eq, ld_set_eq, Nat.zero_add, List.setIfInBounds_toArray, List.set_cons_zero, List.set_cons_succ, lit_get0, lit_get1, lit_get2, exI_some]
  refine bsp_iff.2 ⟨fun hc => ⟨by simp, by simp, by simp, hcl hc _ c1⟩, fun hc => ?_⟩
  rw [ld_of g1']
  show exSl (some (.slice Ar rcv.length cr)) _
  rw [exSl_some]
  refine bsp_dec.2 ⟨fun hpos => ?_, fun hno => ?_⟩
  · obtain ⟨w, r, hr⟩ : ∃ w r, rcv = w :: r := by
      cases rcv with
      | nil => simp at hpos
      | cons w r => exact ⟨w, r, rfl⟩
    intro k9 hk9
    obtain ⟨n91, hk9'⟩ := set_none_ne hk9
    have nb9 := none_ne hk9' g1
    have c2 : Chg [] M ((M.set k1 (.cells #[.int .i64 0, .int .i64 0, .int .i64 0] 54 (0, 0))).set k9 (.cells #[.int .i64 0, .int .i64 0, .int .i64 0] 54 (0, 0))) := c1.set (.inr hk9')
    rw [ld_of (c2.at g1 (by simp))]
    show exSl (some (.slice Ar rcv.length cr)) _
    rw [exSl_some]
    have g4r := g4
    rw [hr] at g4r
    refine chans_first (w := w) (r := r) (g4r.sl.chg c2 (by simp)) (by rw [hr]; rfl) g4.cap (by omega) fun A' c' M14 own c14 fr => ?_
    refine ⟨_, _, _, _, _, _, rfl, ?_⟩
    have qb := c14.at (c2.at g1 (by simp)) (by simp)
    have q9 := c14.at set_same (by simp)
    have q1 := c14.at (set_at set_same (Ne.symm n91)) (by simp)
    have n91' := Ne.symm n91
    have nb9' := Ne.symm nb9
    have nb1' := Ne.symm nb1
    simp only [put_of q9, put_of qb, put_of q1, wr_of' q9, wr_of' qb, wr_of' q1, ld_of q9, ld_of q1, put_set_eq, wr_set_eq, ld_set_eq, put_set_ne n91, put_set_ne n91', put_set_ne nb9, put_set_ne nb1, put_set_ne nb9', put_set_ne nb1',
      wr_set_ne n91, wr_set_ne n91', wr_set_ne nb9, wr_set_ne nb1, wr_set_ne nb9', wr_set_ne nb1', ld_set_ne n91, ld_set_ne n91', ld_set_ne nb9', ld_set_ne nb1', List.setIfInBounds_toArray, List.set_cons_zero, List.set_cons_succ, lit_get0, lit_get1, lit_get2, exI_some]
    refine ⟨by simp, by simp, by simp, by simp, by simp, by simp, by simp, by simp, ?_⟩
    rw [set_comm nb9]
    have f1 : k1 ∉ blk A' := fun hx => by
      have := fr k1 hx
      rw [set_at set_same (Ne.symm n91)] at this; cases this
    have f9 : k9 ∉ blk A' := fun hx => by
      have := fr k9 hx
      rw [set_same] at this; cases this
    have c15 : Chg [k1, k9] M14 ((M14.set k1 (.cells #[.int .i64 w.g, .int .i64 w.cs, .int .i64 v] 54 (0, 0))).set k9 (.cells #[.int .i64 w.g, .int .i64 w.cs, .int .i64 v] 54 (0, 0))) :=
      ((Chg.refl _ _).set (.inl (by simp))).set (.inl (by simp))
    have c16 := (c2.trans c14 (fun x hx => .inl hx)).trans c15 (fun x hx => by
      simp only [List.mem_cons, List.not_mem_nil, or_false] at hx
      rcases hx with rfl | rfl
      · exact .inr hk1
      · exact .inr hk9')
    obtain ⟨F', h1, h2, h3⟩ := chan_r (l2 := r) (closed' := closed) g1 g2 g3 g4 g6 g7 g8 (c16.mono (fun x hx => by simp at hx)) (fun x hx => .inr (c2.fresh (fr x hx))) (own.chg c15 (fun x hx hL => by
      simp only [List.mem_cons, List.not_mem_nil, or_false] at hL
      rcases hL with rfl | rfl
      · exact f1 hx
      · exact f9 hx))
    exact hw hc w r hr F' _ h1 h2 h3
  · have hr : rcv = [] := List.length_eq_zero_iff.1 (by omega)
    rw [ld_of g1', ld_of g1']
    show exSl (some (.slice Ab buf.length cb)) _
    rw [exSl_some, lit_get0, exI_some]
    refine bsp_dec.2 ⟨fun hlt => ?_, fun hge => ?_⟩
    · show exSl (some (.slice Ab buf.length cb)) _
      rw [exSl_some]
      intro k2 hk2
      refine el_i64.append_new (r := [iv v]) (m := 1) (g2.chg c1 (by simp)) hk2 rfl (by intro x hx; simp only [List.mem_singleton] at hx; subst hx; rfl) (by omega) fun A' c' M2 own c2 fr => ?_
      rw [exSl_some]
      have qb := c2.at g1' g6.1
      have hF0 := (hC.chg c1 (by simp) (by simp)).some
      have k1F : k1 ∉ blk Ab := fun hx => by
        obtain ⟨o, ho⟩ := g2.some hx
        rw [hk1] at ho; cases ho
      have q1 := c2.at set_same k1F
      have nb1' := Ne.symm nb1
      simp only [put_of qb, put_of q1, wr_of' qb, wr_of' q1, ld_of q1, put_set_eq, wr_set_eq, ld_set_eq, put_set_ne nb1, put_set_ne nb1', wr_set_ne nb1, wr_set_ne nb1', ld_set_ne nb1', List.setIfInBounds_toArray, List.set_cons_zero, List.set_cons_succ, lit_get0, lit_get1, lit_get2, exI_some]
      refine ⟨by simp, by simp, by simp, by simp, ?_⟩
      have k1A : k1 ∉ blk A' := by
        rcases fr with rfl | ⟨y, rfl, hy⟩
        · exact k1F
        · simp only [blk, List.mem_singleton]
          rintro rfl
          rw [set_same] at hy; cases hy
      have old : ∀ x ∈ blk A', x ∈ blk Ab ∨ M x = none := fun x hx => by
        rcases fr with rfl | ⟨y, rfl, hy⟩
        · exact .inl hx
        · simp only [blk, List.mem_singleton] at hx; subst hx; exact .inr (c1.fresh hy)
      have c3 : Chg [k1] M2 (M2.set k1 (.cells #[.int .i64 0, .int .i64 0, .int .i64 0] 54 (0, 0))) := (Chg.refl _ _).set (.inl (by simp))
      have c13 : Chg (blk Ab) M (M2.set k1 (.cells #[.int .i64 0, .int .i64 0, .int .i64 0] 54 (0, 0))) := ((c1.mono (fun x hx => by simp at hx)).trans c2 (fun x hx => .inl hx)).trans c3 (fun x hx => by simp at hx; subst hx; exact .inr hk1)
      obtain ⟨F', h1, h2, h3⟩ := chan_b (l2 := buf ++ [v]) (closed' := closed) g1 g2 g3 g4 g6 g7 g8 c13 old (by
        rw [List.length_append, List.map_append]
        exact own.chg c3 (fun x hx hL => by simp only [List.mem_singleton] at hL; subst hL; exact k1A hx))
      rw [List.length_append] at h1 h2
      exact hbuf hc hr (by omega) F' _ h1 h2 h3
    · refine ⟨by simp, by simp, by simp, ?_⟩
      exact hfull hc hr (by omega) _ c1
end Go.Proofs
