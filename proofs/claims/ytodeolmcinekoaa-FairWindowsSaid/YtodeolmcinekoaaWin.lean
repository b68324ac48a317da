/- A part of proofs about functions of one program: a condition over a partial memory that is enough for a call, and what calls answer by it. No condition of its own. -/
import Derived.Test.YtodeolmcinekoaaLib
/- The window of picks, as a fold; one more pick makes it no less, and at most one more. -/
namespace Go.Proofs
set_option linter.unusedVariables false

structure WS where
  last : Nat → Int
  seen : Nat → Bool
  at_ : Int
  out : Int

def wstep (m : Nat) (s : WS) (r : Int × Int) : WS :=
  if r.1 = 1 then
    (if r.2 < (m : Int) then ⟨fun j => if j = r.2.toNat then s.at_ else s.last j, fun j => if j = r.2.toNat then true else s.seen j, s.at_ + 1, if s.at_ - s.last r.2.toNat > s.out then s.at_ - s.last r.2.toNat else s.out⟩
     else ⟨s.last, s.seen, s.at_ + 1, s.out⟩)
  else s

def wini : WS := ⟨fun _ => -1, fun _ => false, 0, 0⟩
def wrun (m : Nat) (l : List (Int × Int)) : WS := l.foldl (wstep m) wini

def wmax (s : WS) : Nat → Int
  | 0 => s.out
  | i + 1 => if s.at_ - s.last i > wmax s i then s.at_ - s.last i else wmax s i

def wall (s : WS) : Nat → Bool
  | 0 => true
  | i + 1 => wall s i && s.seen i

def wres (m : Nat) (l : List (Int × Int)) : Int := if wall (wrun m l) m then wmax (wrun m l) m else 0

theorem wrun_snoc (m : Nat) (l : List (Int × Int)) (r : Int × Int) : wrun m (l ++ [r]) = wstep m (wrun m l) r := by simp [wrun]

def WOk (s : WS) (n : Nat) : Prop := 0 ≤ s.at_ ∧ s.at_ ≤ n ∧ (∀ j, -1 ≤ s.last j ∧ s.last j < s.at_ + 0 ∨ s.last j = -1) ∧ 0 ≤ s.out ∧ s.out ≤ n + 1

theorem wok_step {m : Nat} {s : WS} {n : Nat} (h : WOk s n) (r : Int × Int) : WOk (wstep m s r) (n + 1) := by
  obtain ⟨h1, h2, h3, h4, h5⟩ := h
  unfold wstep
  split
  · split
    · have h6 := h3 r.2.toNat
      refine ⟨by simp only; omega, by simp only; omega, fun j => ?_, ?_, ?_⟩
      · simp only
        split
        · left; omega
        · have := h3 j; omega
      · simp only; split <;> omega
      · simp only; split <;> omega
    · refine ⟨by simp only; omega, by simp only; omega, fun j => ?_, h4, by simp only; omega⟩
      have := h3 j; simp only; omega
  · exact ⟨h1, by omega, h3, h4, by omega⟩

theorem wok_run (m : Nat) (l : List (Int × Int)) : WOk (wrun m l) l.length := by
  have : ∀ (l : List (Int × Int)) (s : WS) (n : Nat), WOk s n → WOk (l.foldl (wstep m) s) (n + l.length) := by
    intro l
    induction l with
    | nil => intro s n h; exact h
    | cons r l ih =>
      intro s n h
      have := ih (wstep m s r) (n + 1) (wok_step h r)
      rw [List.foldl_cons, List.length_cons, show n + (l.length + 1) = n + 1 + l.length from by omega]
      exact this
  have h0 : WOk wini 0 := ⟨by simp [wini], by simp [wini], fun j => .inr rfl, by simp [wini], by simp [wini]⟩
  have := this l wini 0 h0
  simpa [wrun] using this

theorem wmax_le {s : WS} {X : Int} : ∀ {k : Nat}, wmax s k ≤ X ↔ s.out ≤ X ∧ ∀ j, j < k → s.at_ - s.last j ≤ X
  | 0 => by simp [wmax]
  | k + 1 => by
    have ih := wmax_le (s := s) (X := X) (k := k)
    simp only [wmax]
    constructor
    · intro h
      have h1 : wmax s k ≤ X := by split at h <;> omega
      have h2 : s.at_ - s.last k ≤ X := by split at h <;> omega
      refine ⟨(ih.1 h1).1, fun j hj => ?_⟩
      by_cases hjk : j = k
      · subst hjk; exact h2
      · exact (ih.1 h1).2 j (by omega)
    · intro ⟨h1, h2⟩
      have h3 := ih.2 ⟨h1, fun j hj => h2 j (by omega)⟩
      have h4 := h2 k (by omega)
      split <;> omega

theorem wmax_self {s : WS} {k : Nat} : s.out ≤ wmax s k ∧ ∀ j, j < k → s.at_ - s.last j ≤ wmax s k := wmax_le.1 (Int.le_refl _)

theorem wmax_step {m n : Nat} {s : WS} (h : WOk s n) {r : Int × Int} (h1 : r.1 = 1) (h0 : 0 ≤ r.2) : wmax s m ≤ wmax (wstep m s r) m ∧ wmax (wstep m s r) m ≤ wmax s m + 1 := by
  obtain ⟨b1, b2, b3, b4, b5⟩ := h
  have o1 := wmax_self (s := s) (k := m)
  by_cases hm : r.2 < (m : Int)
  · have hj : r.2.toNat < m := by omega
    have e1 : (wstep m s r).at_ = s.at_ + 1 := by unfold wstep; rw [if_pos h1, if_pos hm]
    have e2 : (wstep m s r).out = if s.at_ - s.last r.2.toNat > s.out then s.at_ - s.last r.2.toNat else s.out := by unfold wstep; rw [if_pos h1, if_pos hm]
    have e3 : ∀ j, (wstep m s r).last j = if j = r.2.toNat then s.at_ else s.last j := by intro j; unfold wstep; rw [if_pos h1, if_pos hm]
    generalize wstep m s r = s' at *
    have o2 := wmax_self (s := s') (k := m)
    rw [e2] at o2
    have p1 : s.out ≤ wmax s' m ∧ s.at_ - s.last r.2.toNat ≤ wmax s' m := by
      have := o2.1
      split at this <;> omega
    constructor
    · refine wmax_le.2 ⟨p1.1, fun j hjm => ?_⟩
      by_cases he : j = r.2.toNat
      · subst he; exact p1.2
      · have := o2.2 j hjm
        rw [e1, e3, if_neg he] at this; omega
    · refine wmax_le.2 ⟨?_, fun j hjm => ?_⟩
      · rw [e2]
        have := o1.2 _ hj
        split <;> omega
      · rw [e1, e3]
        have := o1.2 j hjm
        split <;> omega
  · have e1 : (wstep m s r).at_ = s.at_ + 1 := by unfold wstep; rw [if_pos h1, if_neg hm]
    have e2 : (wstep m s r).out = s.out := by unfold wstep; rw [if_pos h1, if_neg hm]
    have e3 : ∀ j, (wstep m s r).last j = s.last j := by intro j; unfold wstep; rw [if_pos h1, if_neg hm]
    generalize wstep m s r = s' at *
    have o2 := wmax_self (s := s') (k := m)
    constructor
    · refine wmax_le.2 ⟨by rw [← e2]; exact o2.1, fun j hjm => ?_⟩
      have := o2.2 j hjm; rw [e1, e3] at this; omega
    · refine wmax_le.2 ⟨by rw [e2]; omega, fun j hjm => ?_⟩
      have := o1.2 j hjm; rw [e1, e3]; omega

theorem wall_iff {s : WS} : ∀ {k : Nat}, wall s k = true ↔ ∀ j, j < k → s.seen j = true
  | 0 => by simp [wall]
  | k + 1 => by
    have ih := wall_iff (s := s) (k := k)
    simp only [wall, Bool.and_eq_true, ih]
    constructor
    · intro ⟨h1, h2⟩ j hj
      by_cases hjk : j = k
      · subst hjk; exact h2
      · exact h1 j (by omega)
    · intro h; exact ⟨fun j hj => h j (by omega), h k (by omega)⟩

theorem wall_step {m k : Nat} {s : WS} {r : Int × Int} (h : wall s k = true) : wall (wstep m s r) k = true := by
  rw [wall_iff] at h ⊢
  intro j hj
  unfold wstep
  split
  · split
    · simp only; split
      · rfl
      · exact h j hj
    · exact h j hj
  · exact h j hj

/-- Any more picks: no less, and no more than them together. -/
theorem wres_more (m : Nat) (p : List (Int × Int)) : ∀ (q : List (Int × Int)), (∀ r ∈ q, r.1 = 1 ∧ 0 ≤ r.2) → wres m p ≠ 0 → wres m p ≤ wres m (p ++ q) ∧ wres m (p ++ q) ≤ wres m p + q.length := by
  intro q hq hne
  have hall : wall (wrun m p) m = true := by
    unfold wres at hne
    split at hne
    · assumption
    · exact absurd rfl hne
  have key : ∀ (q : List (Int × Int)) (p : List (Int × Int)), (∀ r ∈ q, r.1 = 1 ∧ 0 ≤ r.2) → wall (wrun m p) m = true →
      wall (wrun m (p ++ q)) m = true ∧ wmax (wrun m p) m ≤ wmax (wrun m (p ++ q)) m ∧ wmax (wrun m (p ++ q)) m ≤ wmax (wrun m p) m + q.length := by
    intro q
    induction q with
    | nil => intro p _ h; rw [List.append_nil]; exact ⟨h, Int.le_refl _, by simp⟩
    | cons r q ih =>
      intro p hq h
      have hr := hq r (by simp)
      have h1 := wmax_step (m := m) (wok_run m p) hr.1 hr.2
      have h2 : wall (wrun m (p ++ [r])) m = true := by rw [wrun_snoc]; exact wall_step h
      have := ih (p ++ [r]) (fun x hx => hq x (by simp [hx])) h2
      rw [List.append_assoc, List.singleton_append, wrun_snoc] at this
      refine ⟨this.1, by omega, ?_⟩
      rw [List.length_cons]; omega
  have := key q p hq hall
  unfold wres
  rw [if_pos hall, if_pos this.1]
  exact this.2
end Go.Proofs
