/- A part of proofs about functions of one program: a condition over a partial memory that is enough for a call, and what calls answer by it. No condition of its own. -/
import Derived.Test.YtodeolmcinekoaaWin
/- The document's window: machine by machine; it is the program's. -/
namespace Go.Proofs
set_option linter.unusedVariables false
/-- The most picks without a machine, those since it was picked, was it picked. -/
structure RW where
  most : Int
  now : Int
  there : Bool
def rwstep (j : Int) (s : RW) (n : Int) : RW :=
  if n = j then ⟨if 0 > s.most then 0 else s.most, 0, true⟩ else ⟨if s.now + 1 > s.most then s.now + 1 else s.most, s.now + 1, s.there⟩
def rwrun (j : Int) (l : List Int) : RW := l.foldl (rwstep j) ⟨0, 0, false⟩
theorem rwrun_snoc (j : Int) (l : List Int) (n : Int) : rwrun j (l ++ [n]) = rwstep j (rwrun j l) n := by simp [rwrun]
/-- The picks among decisions. -/
def picksOf (l : List (Int × Int)) : List Int := (l.filter fun r => r.1 == 1).map (·.2)
theorem picksOf_snoc (l : List (Int × Int)) (r : Int × Int) : picksOf (l ++ [r]) = picksOf l ++ (if r.1 = 1 then [r.2] else []) := by
  unfold picksOf; rw [List.filter_append, List.map_append]; split <;> simp_all
def rwOut (l : List Int) : Nat → Int
  | 0 => 0
  | i + 1 => if (rwrun i l).most + 1 > rwOut l i then (rwrun i l).most + 1 else rwOut l i
def rwAll (l : List Int) : Nat → Bool
  | 0 => true
  | i + 1 => rwAll l i && (rwrun i l).there
/-- What the document's window is, of so many machines. -/
def rwres (m : Nat) (l : List Int) : Int := if rwAll l m then rwOut l m else 0

structure RWOk (m : Nat) (s : WS) (l : List Int) : Prop where
  at_ : s.at_ = l.length
  seen : ∀ j, j < m → s.seen j = (rwrun j l).there
  now : ∀ j : Nat, j < m → (rwrun j l).now + 1 = s.at_ - s.last j
  pos : ∀ j : Nat, j < m → 0 ≤ (rwrun j l).most
  hi : ∀ j : Nat, j < m → (rwrun j l).most + 1 ≤ s.out ∨ (rwrun j l).most + 1 ≤ s.at_ - s.last j
  lo : ∀ j : Nat, j < m → s.at_ - s.last j ≤ (rwrun j l).most + 1
  out : s.out = 0 ∨ ∃ j : Nat, j < m ∧ s.out ≤ (rwrun j l).most + 1

theorem rwok (m : Nat) (l : List (Int × Int)) (hp : ∀ r ∈ l, 0 ≤ r.2) : RWOk m (wrun m l) (picksOf l) := by
  have key : ∀ n, RWOk m (wrun m (l.take n)) (picksOf (l.take n)) := by
    intro n
    induction n with
    | zero => exact ⟨rfl, fun _ _ => rfl, fun _ _ => rfl, fun _ _ => by simp [rwrun, picksOf], fun _ _ => .inr (by simp [wrun, wini, rwrun, picksOf]), fun _ _ => by simp [wrun, wini, rwrun, picksOf], .inl rfl⟩
    | succ n ih =>
      rcases Nat.lt_or_ge n l.length with hn | hn
      · have e : l.take (n + 1) = l.take n ++ [l[n]] := by rw [List.take_add_one, List.getElem?_eq_getElem hn]; rfl
        have h0 := hp l[n] (List.getElem_mem hn)
        rw [e, wrun_snoc, picksOf_snoc]
        generalize l[n] = r at h0
        generalize wrun m (l.take n) = s at ih
        generalize picksOf (l.take n) = p at ih
        obtain ⟨h1, h2, h3, h4, h5, h6, h7⟩ := ih
        by_cases hr : r.1 = 1
        · rw [if_pos hr]
          have st : ∀ j : Nat, rwrun j (p ++ [r.2]) = rwstep j (rwrun j p) r.2 := fun j => rwrun_snoc _ _ _
          by_cases hm : r.2 < (m : Int)
          · have e1 : wstep m s r = ⟨fun j => if j = r.2.toNat then s.at_ else s.last j, fun j => if j = r.2.toNat then true else s.seen j, s.at_ + 1, if s.at_ - s.last r.2.toNat > s.out then s.at_ - s.last r.2.toNat else s.out⟩ := by unfold wstep; rw [if_pos hr, if_pos hm]
            have ea : (wstep m s r).at_ = s.at_ + 1 := by rw [e1]
            have el : ∀ j, (wstep m s r).last j = if j = r.2.toNat then s.at_ else s.last j := by intro j; rw [e1]
            have es : ∀ j, (wstep m s r).seen j = if j = r.2.toNat then true else s.seen j := by intro j; rw [e1]
            have eo : (wstep m s r).out = if s.at_ - s.last r.2.toNat > s.out then s.at_ - s.last r.2.toNat else s.out := by rw [e1]
            have ho : s.out ≤ (wstep m s r).out ∧ s.at_ - s.last r.2.toNat ≤ (wstep m s r).out := by rw [eo]; split <;> omega
            generalize wstep m s r = s' at *
            have q0 : r.2.toNat < m := by omega
            generalize hq : r.2.toNat = q at *
            have hq2 : r.2 = (q : Int) := by omega
            have mono : ∀ j : Nat, (rwrun j p).most ≤ (rwrun j (p ++ [r.2])).most := fun j => by rw [st]; unfold rwstep; split <;> simp only <;> split <;> omega
            have cas : ∀ j : Nat, (j = q ∧ rwstep (j : Int) (rwrun j p) r.2 = ⟨if 0 > (rwrun j p).most then 0 else (rwrun j p).most, 0, true⟩ ∧ s'.last j = s.at_ ∧ s'.seen j = true) ∨ (j ≠ q ∧ rwstep (j : Int) (rwrun j p) r.2 = ⟨if (rwrun j p).now + 1 > (rwrun j p).most then (rwrun j p).now + 1 else (rwrun j p).most, (rwrun j p).now + 1, (rwrun j p).there⟩ ∧ s'.last j = s.last j ∧ s'.seen j = s.seen j) := fun j => by
              by_cases hc : j = q
              · left; refine ⟨hc, ?_, by rw [el, if_pos hc], by rw [es, if_pos hc]⟩
                unfold rwstep; rw [if_pos (by omega)]
              · right; refine ⟨hc, ?_, by rw [el, if_neg hc], by rw [es, if_neg hc]⟩
                unfold rwstep; rw [if_neg (by omega)]
            refine ⟨by simp [ea, h1], fun j hj => ?_, fun j hj => ?_, fun j hj => ?_, fun j hj => ?_, fun j hj => ?_, ?_⟩
            all_goals try (have a1 := h2 j hj; have a2 := h3 j hj; have a3 := h4 j hj; have a4 := h5 j hj; have a5 := h6 j hj; rw [st])
            · rcases cas j with ⟨hc, c1, c2, c3⟩ | ⟨hc, c1, c2, c3⟩ <;> rw [c1, c3]; exact a1
            · rcases cas j with ⟨hc, c1, c2, c3⟩ | ⟨hc, c1, c2, c3⟩ <;> rw [c1, c2, ea] <;> simp only <;> omega
            · rcases cas j with ⟨hc, c1, c2, c3⟩ | ⟨hc, c1, c2, c3⟩ <;> rw [c1] <;> simp only <;> split <;> omega
            · rcases cas j with ⟨hc, c1, c2, c3⟩ | ⟨hc, c1, c2, c3⟩ <;> rw [c1, c2, ea] <;> simp only
              · rw [if_neg (by omega)]; subst hc; omega
              · split <;> omega
            · rcases cas j with ⟨hc, c1, c2, c3⟩ | ⟨hc, c1, c2, c3⟩ <;> rw [c1, c2, ea] <;> simp only
              · rw [if_neg (by omega)]; omega
              · split <;> omega
            · rw [eo]
              by_cases hx : s.at_ - s.last q > s.out
              · rw [if_pos hx]
                have := h6 _ q0; have := mono q
                exact .inr ⟨q, q0, by omega⟩
              · rw [if_neg hx]
                rcases h7 with h7 | ⟨j, hj, h7⟩
                · exact .inl h7
                · have := mono j; exact .inr ⟨j, hj, by omega⟩
          · have e1 : wstep m s r = ⟨s.last, s.seen, s.at_ + 1, s.out⟩ := by unfold wstep; rw [if_pos hr, if_neg hm]
            rw [e1]
            refine ⟨by simp [h1], fun j hj => ?_, fun j hj => ?_, fun j hj => ?_, fun j hj => ?_, fun j hj => ?_, ?_⟩
            all_goals try (have a1 := h2 j hj; have a2 := h3 j hj; have a3 := h4 j hj; have a4 := h5 j hj; have a5 := h6 j hj; rw [st]; unfold rwstep; rw [if_neg (show ¬ r.2 = (j : Int) by omega)]; simp only)
            · exact a1
            · omega
            · split <;> omega
            · split <;> omega
            · split <;> omega
            · rcases h7 with h7 | ⟨j, hj, h7⟩
              · exact .inl h7
              · refine .inr ⟨j, hj, ?_⟩
                rw [st]; unfold rwstep; rw [if_neg (show ¬ r.2 = (j : Int) by omega)]; simp only; split <;> omega
        · have e1 : wstep m s r = s := by unfold wstep; rw [if_neg hr]
          rw [if_neg hr, List.append_nil, e1]
          exact ⟨h1, h2, h3, h4, h5, h6, h7⟩
      · have e : l.take (n + 1) = l.take n := by rw [List.take_of_length_le (by omega), List.take_of_length_le (by omega)]
        rw [e]; exact ih
  have := key l.length
  rwa [List.take_length] at this

theorem rwOut_le {l : List Int} {X : Int} : ∀ {k : Nat}, rwOut l k ≤ X ↔ 0 ≤ X ∧ ∀ j : Nat, j < k → (rwrun j l).most + 1 ≤ X
  | 0 => by simp [rwOut]
  | k + 1 => by
    have ih := rwOut_le (l := l) (X := X) (k := k)
    simp only [rwOut]
    constructor
    · intro h
      have h1 : rwOut l k ≤ X := by split at h <;> omega
      have h2 : (rwrun k l).most + 1 ≤ X := by split at h <;> omega
      refine ⟨(ih.1 h1).1, fun j hj => ?_⟩
      by_cases hjk : j = k
      · subst hjk; exact h2
      · exact (ih.1 h1).2 j (by omega)
    · intro ⟨h1, h2⟩
      have h3 := ih.2 ⟨h1, fun j hj => h2 j (by omega)⟩
      have h4 := h2 k (by omega)
      split <;> omega
theorem rwAll_iff {l : List Int} : ∀ {k : Nat}, rwAll l k = true ↔ ∀ j : Nat, j < k → (rwrun j l).there = true
  | 0 => by simp [rwAll]
  | k + 1 => by
    have ih := rwAll_iff (l := l) (k := k)
    simp only [rwAll, Bool.and_eq_true, ih]
    constructor
    · intro ⟨h1, h2⟩ j hj
      by_cases hjk : j = k
      · subst hjk; exact h2
      · exact h1 j (by omega)
    · intro h; exact ⟨fun j hj => h j (by omega), h k (by omega)⟩

/-- The two windows are the same. -/
theorem wres_rwres (m : Nat) (l : List (Int × Int)) (hp : ∀ r ∈ l, 0 ≤ r.2) : wres m l = rwres m (picksOf l) := by
  have ok := rwok m l hp
  have hw := wok_run m l
  unfold wres rwres
  generalize wrun m l = s at ok hw
  generalize picksOf l = p at ok
  obtain ⟨h1, h2, h3, h4, h5, h6, h7⟩ := ok
  have ha : wall s m = rwAll p m := by
    rw [Bool.eq_iff_iff, wall_iff, rwAll_iff]
    exact ⟨fun h j hj => by rw [← h2 j hj]; exact h j hj, fun h j hj => by rw [h2 j hj]; exact h j hj⟩
  rw [ha]
  have hself := wmax_self (s := s) (k := m)
  have hr : 0 ≤ rwOut p m ∧ ∀ j : Nat, j < m → (rwrun j p).most + 1 ≤ rwOut p m := rwOut_le.1 (Int.le_refl _)
  obtain ⟨_, _, _, b4, _⟩ := hw
  have : wmax s m = rwOut p m := by
    apply Int.le_antisymm
    · refine wmax_le.2 ⟨?_, fun j hj => ?_⟩
      · rcases h7 with h7 | ⟨j, hj, h7⟩
        · rw [h7]; exact hr.1
        · have := hr.2 j hj; omega
      · have := hr.2 j hj; have := h6 j hj; omega
    · refine rwOut_le.2 ⟨by omega, fun j hj => ?_⟩
      have := hself.2 j hj
      rcases h5 j hj with h | h <;> omega
  rw [this]
end Go.Proofs
