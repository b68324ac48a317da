/- A part of proofs about one program. -/
import Derived.Test.YtnnlgknlialpmaaGreatZShunterChatLib
set_option linter.unusedVariables false
namespace Go.Proofs
structure WS where
 last : Nat → Int
 seen : Nat → Bool
 at_ : Int
 out : Int
def c6 (m : Nat) (s : WS) (r : Int × Int) : WS :=
 if r.1 = 1 then
  (if r.2 < (m : Int) then ⟨fun j => if j = r.2.toNat then s.at_ else s.last j, fun j => if j = r.2.toNat then true else s.seen j, s.at_ + 1, if s.at_ - s.last r.2.toNat > s.out then s.at_ - s.last r.2.toNat else s.out⟩
   else ⟨s.last, s.seen, s.at_ + 1, s.out⟩)
 else s
def Fz : WS := ⟨fun _ => -1, fun _ => false, 0, 0⟩
def eG (m : Nat) (l : List (Int × Int)) : WS := l.foldl (c6 m) Fz
def hO (s : WS) : Nat → Int
 | 0 => s.out
 | i + 1 => if s.at_ - s.last i > hO s i then s.at_ - s.last i else hO s i
def wall (s : WS) : Nat → Bool
 | 0 => true
 | i + 1 => wall s i && s.seen i
def nC (m : Nat) (l : List (Int × Int)) : Int := if wall (eG m l) m then hO (eG m l) m else 0
theorem lM (m : Nat) (l : List (Int × Int)) (r : Int × Int) : eG m (l ++ [r]) = c6 m (eG m l) r := by simp [eG]
def SO (s : WS) (n : Nat) : Prop := 0 ≤ s.at_ ∧ s.at_ ≤ n ∧ (∀ j, -1 ≤ s.last j ∧ s.last j < s.at_ + 0 ∨ s.last j = -1) ∧ 0 ≤ s.out ∧ s.out ≤ n + 1
theorem LK {m : Nat} {s : WS} {n : Nat} (h : SO s n) (r : Int × Int) : SO (c6 m s r) (n + 1) := by
 obtain ⟨h1, h2, h3, h4, h5⟩ := h
 unfold c6
 split
 ·split
  ·have h6 := h3 r.2.toNat
   refine ⟨by simp only; omega, by simp only; omega, fun j => ?_, ?_, ?_⟩
   ·simp only
    split
    ·left; omega
    ·have := h3 j; omega
   ·simp only; split <;> omega
   ·simp only; split <;> omega
  ·refine ⟨by simp only; omega, by simp only; omega, fun j => ?_, h4, by simp only; omega⟩
   have := h3 j; simp only; omega
 ·exact ⟨h1, by omega, h3, h4, by omega⟩
theorem pP (m : Nat) (l : List (Int × Int)) : SO (eG m l) l.length := by
 have : ∀ (l : List (Int × Int)) (s : WS) (n : Nat), SO s n → SO (l.foldl (c6 m) s) (n + l.length) := by
  intro l
  induction l with
  | nil => intro s n h; exact h
  | cons r l ih =>
   intro s n h
   have := ih (c6 m s r) (n + 1) (LK h r)
   rw [List.foldl_cons, List.length_cons, show n + (l.length + 1) = n + 1 + l.length from by omega]
   exact this
 have h0 : SO Fz 0 := ⟨by simp [Fz], by simp [Fz], fun j => .inr rfl, by simp [Fz], by simp [Fz]⟩
 have := this l Fz 0 h0
 simpa [eG] using this
theorem kG {s : WS} {X : Int} : ∀ {k : Nat}, hO s k ≤ X ↔ s.out ≤ X ∧ ∀ j, j < k → s.at_ - s.last j ≤ X
 | 0 => by simp [hO]
 | k + 1 => by
  have ih := kG (s := s) (X := X) (k := k)
  simp only [hO]
  constructor
  ·intro h
   have h1 : hO s k ≤ X := by split at h <;> omega
   have h2 : s.at_ - s.last k ≤ X := by split at h <;> omega
   refine ⟨(ih.1 h1).1, fun j hj => ?_⟩
   by_cases Zw : j = k
   ·subst Zw; exact h2
   ·exact (ih.1 h1).2 j (by omega)
  ·intro ⟨h1, h2⟩
   have h3 := ih.2 ⟨h1, fun j hj => h2 j (by omega)⟩
   have h4 := h2 k (by omega)
   split <;> omega
theorem iL {s : WS} {k : Nat} : s.out ≤ hO s k ∧ ∀ j, j < k → s.at_ - s.last j ≤ hO s k := kG.1 (Int.le_refl _)
theorem Jj {m n : Nat} {s : WS} (h : SO s n) {r : Int × Int} (h1 : r.1 = 1) (h0 : 0 ≤ r.2) : hO s m ≤ hO (c6 m s r) m ∧ hO (c6 m s r) m ≤ hO s m + 1 := by
 obtain ⟨b1, b2, b3, b4, b5⟩ := h
 have o1 := iL (s := s) (k := m)
 by_cases hm : r.2 < (m : Int)
 ·have hj : r.2.toNat < m := by omega
  have e1 : (c6 m s r).at_ = s.at_ + 1 := by unfold c6; rw [if_pos h1, if_pos hm]
  have e2 : (c6 m s r).out = if s.at_ - s.last r.2.toNat > s.out then s.at_ - s.last r.2.toNat else s.out := by unfold c6; rw [if_pos h1, if_pos hm]
  have e3 : ∀ j, (c6 m s r).last j = if j = r.2.toNat then s.at_ else s.last j := by intro j; unfold c6; rw [if_pos h1, if_pos hm]
  generalize c6 m s r = s' at *
  have o2 := iL (s := s') (k := m)
  rw [e2] at o2
  have p1 : s.out ≤ hO s' m ∧ s.at_ - s.last r.2.toNat ≤ hO s' m := by
   have := o2.1
   split at this <;> omega
  constructor
  ·refine kG.2 ⟨p1.1, fun j SP => ?_⟩
   by_cases he : j = r.2.toNat
   ·subst he; exact p1.2
   ·have := o2.2 j SP
    rw [e1, e3, if_neg he] at this; omega
  ·refine kG.2 ⟨?_, fun j SP => ?_⟩
   ·rw [e2]
    have := o1.2 _ hj
    split <;> omega
   ·rw [e1, e3]
    have := o1.2 j SP
    split <;> omega
 ·have e1 : (c6 m s r).at_ = s.at_ + 1 := by unfold c6; rw [if_pos h1, if_neg hm]
  have e2 : (c6 m s r).out = s.out := by unfold c6; rw [if_pos h1, if_neg hm]
  have e3 : ∀ j, (c6 m s r).last j = s.last j := by intro j; unfold c6; rw [if_pos h1, if_neg hm]
  generalize c6 m s r = s' at *
  have o2 := iL (s := s') (k := m)
  constructor
  ·refine kG.2 ⟨by rw [← e2]; exact o2.1, fun j SP => ?_⟩
   have := o2.2 j SP; rw [e1, e3] at this; omega
  ·refine kG.2 ⟨by rw [e2]; omega, fun j SP => ?_⟩
   have := o1.2 j SP; rw [e1, e3]; omega
theorem xL {s : WS} : ∀ {k : Nat}, wall s k = true ↔ ∀ j, j < k → s.seen j = true
 | 0 => by simp [wall]
 | k + 1 => by
  have ih := xL (s := s) (k := k)
  simp only [wall, Bool.and_eq_true, ih]
  constructor
  ·intro ⟨h1, h2⟩ j hj
   by_cases Zw : j = k
   ·subst Zw; exact h2
   ·exact h1 j (by omega)
  ·intro h; exact ⟨fun j hj => h j (by omega), h k (by omega)⟩
theorem Jk {m k : Nat} {s : WS} {r : Int × Int} (h : wall s k = true) : wall (c6 m s r) k = true := by
 rw [xL] at h ⊢
 intro j hj
 unfold c6
 split
 ·split
  ·simp only; split
   ·rfl
   ·exact h j hj
  ·exact h j hj
 ·exact h j hj
end Go.Proofs
