/- A part of proofs about functions of one program: a condition over a partial memory that is enough for a call, and what calls answer by it. No condition of its own. -/
import Derived.Test.YtfjgcljdnhkmaaaCloM
/- Small facts about runs. -/
namespace Go.Proofs
open Go.AF
set_option linter.unusedVariables false
set_option maxRecDepth 100000
set_option maxHeartbeats 1000000
attribute [local irreducible] exI exB exS exP exSl exV nilc stc nwc semK semU bsp
theorem len_putG {x : Wd} {g : Int} {y : Gor} : (x.putG g y).gs.length = x.gs.length := by simp [Wd.putG]
theorem len_wake {x : Wd} {g : Int} : (x.wake g).gs.length = x.gs.length := by simp [Wd.wake, Wd.putG]
theorem len_putReg {x : Wd} {g q v : Int} : (x.putReg g q v).gs.length = x.gs.length := len_putG
theorem len_block {x : Wd} {g : Int} {i : Ins} : (x.block g i).gs.length = x.gs.length := len_putG
theorem len_chosen {x : Wd} {g k : Int} : (x.chosen g k).gs.length = x.gs.length := len_putG
theorem len_received {p : Prg} {x : Wd} {v : Wt} {s : Int} : (x.received p v s).gs.length = x.gs.length := by
  unfold Wd.received
  dsimp only
  rw [len_wake]
  split
  · rw [len_chosen, len_putReg]
  · rw [len_putReg, len_putReg]
theorem len_sent {x : Wd} {v : Wt} : (x.sent v).gs.length = x.gs.length := by
  unfold Wd.sent
  rw [len_wake]
  split
  · rw [len_chosen]
  · rfl
theorem len_get {x : Wd} {k : Int} : (x.get k).1.gs.length = x.gs.length := by
  unfold Wd.get
  dsimp only
  split <;> dsimp only <;> split <;> first | exact len_sent | rfl
def outLe (n : Nat) : Out Wd → Prop
  | .on y => n ≤ y.gs.length
  | .trap _ y => n ≤ y.gs.length
theorem len_fin {r : Out Wd} {n : Nat} (h : outLe n r) : n ≤ r.fin.gs.length := by cases r <;> exact h
theorem len_send {p : Prg} {x : Wd} {g : Int} {i : Ins} : outLe x.gs.length (x.send p g i) := by
  unfold Wd.send Wd.put
  dsimp only
  generalize (chAt x.chans i.a).send (topReg x g i.b) = s
  by_cases h : s.2.2.2 = 10
  · rw [if_pos h]; exact Nat.le_refl _
  · rw [if_neg h]
    have hl : (if s.2.2.1 = true then (x.putCh i.a s.1).received p s.2.1 1 else x.putCh i.a s.1).gs.length = x.gs.length := by
      split
      · rw [len_received]; rfl
      · rfl
    generalize (if s.2.2.1 = true then (x.putCh i.a s.1).received p s.2.1 1 else x.putCh i.a s.1) = y at hl
    cases (s.2.2.2 == 0)
    · show _ ≤ (Wd.block _ _ _).gs.length
      rw [len_block]
      exact Nat.le_of_eq hl.symm
    · exact Nat.le_of_eq hl.symm
theorem len_recv {x : Wd} {g : Int} {i : Ins} : (x.recv g i).gs.length = x.gs.length := by
  unfold Wd.recv
  split
  · rw [len_putReg, len_putReg, len_get]
  · rw [len_block]; exact len_get
theorem len_shutStep {p : Prg} {x : Wd} {v : Wt} : (shutStep p x v).gs.length = x.gs.length := by
  unfold shutStep
  split
  · rw [len_received]
  · rfl
theorem len_shutAll {p : Prg} : ∀ {l : List Wt} {x : Wd}, (l.foldl (shutStep p) x).gs.length = x.gs.length
  | [], _ => rfl
  | v :: l, x => by rw [List.foldl_cons, len_shutAll, len_shutStep]
theorem len_shut {p : Prg} {x : Wd} {i : Ins} : outLe x.gs.length (x.shut p i) := by
  unfold Wd.shut
  dsimp only
  split
  · exact Nat.le_refl _
  · split
    · exact Nat.le_refl _
    · show _ ≤ (List.foldl _ _ _ : Wd).gs.length
      rw [len_shutAll]; exact Nat.le_refl _
theorem len_back {x : Wd} {g : Int} {i : Ins} : (x.back g i).gs.length = x.gs.length := by
  unfold Wd.back
  split
  · exact len_putG
  · split
    · exact len_putG
    · exact len_putG
theorem len_deed {p : Prg} {x : Wd} {g : Int} {i : Ins} {r : Out Wd} (h : deed p x g i = some r) : outLe x.gs.length r := by
  unfold deed at h
  split at h
  · split at h <;> cases h; exact Nat.le_of_eq len_back.symm
  split at h
  · split at h <;> cases h
    unfold Wd.spawn
    split
    · exact Nat.le_refl _
    · show _ ≤ (Wd.putReg _ _ _ _).gs.length
      rw [len_putReg, len_wake]; simp
  split at h
  · split at h <;> cases h; exact len_send
  split at h
  · split at h <;> cases h; exact Nat.le_of_eq len_recv.symm
  split at h
  · split at h <;> cases h; exact len_shut
  split at h
  · split at h <;> cases h
    unfold Wd.emit
    split <;> exact Nat.le_refl _
  · cases h
theorem len_exec {p : Prg} {x y : Wd} {g : Int} {kp : Bool} (h : exec p x g = some (y, kp)) : x.gs.length ≤ y.gs.length := by
  unfold exec at h
  dsimp only at h
  split at h
  · split at h
    · split at h
      · split at h
        · cases h
        · split at h
          · cases h; exact Nat.le_refl _
          · split at h
            · split at h <;> cases h
              rw [len_putG]; exact Nat.le_refl _
            · split at h
              · cases h
              · rename_i hd
                split at h <;> cases h
                have := len_fin (len_deed hd)
                simpa [Wd.next, Wd.putG] using this
      · cases h
    · cases h; exact Nat.le_refl _
  · cases h
theorem Wk_len {p : Prg} {tr : List Int} {k : Nat} {w : Wd} : ∀ (d : Nat) {y : Wd}, k + d ≤ tr.length → Wk p tr k = some w → Wk p tr (k + d) = some y → w.gs.length ≤ y.gs.length
  | 0, y, _, h1, h2 => by rw [Nat.add_zero, h1] at h2; cases h2; exact Nat.le_refl _
  | d + 1, y, hl, h1, h2 => by
    obtain ⟨g, hg⟩ := idx_ex (l := tr) (i := k + d) (by omega)
    obtain ⟨w', kp, h3, h4⟩ := Wk_prev hg h2
    exact Nat.le_trans (Wk_len d (by omega) h1 h3) (len_exec h4)
theorem flat3 (f : Nat → Int) : ∀ (m q j : Nat), q < m → j < 3 → ((List.range m).flatMap fun g => [f g, f g, f g])[3 * q + j]? = some (f q)
  | 0, _, _, h, _ => by omega
  | m + 1, q, j, hq, hj => by
    have hl : ∀ m : Nat, ((List.range m).flatMap fun g => [f g, f g, f g]).length = 3 * m := by
      intro m; induction m with
      | zero => rfl
      | succ m ih => rw [List.range_succ, List.flatMap_append, List.length_append, ih]; simp; omega
    rw [List.range_succ, List.flatMap_append]
    by_cases h : q < m
    · rw [List.getElem?_append_left (by rw [hl]; omega)]
      exact flat3 f m q j h hj
    · have : q = m := by omega
      subst this
      rw [List.getElem?_append_right (by rw [hl]; omega), hl]
      rw [show 3 * q + j - 3 * q = j from by omega]
      obtain rfl | rfl | rfl : j = 0 ∨ j = 1 ∨ j = 2 := by omega
      all_goals rfl
theorem trC_a {n : Nat} {s : Bool} {k : Nat} (h : k < nS n s) : (trC n s)[k]? = some 0 := by
  unfold trC
  rw [List.append_assoc, List.getElem?_append_left (by simpa using h)]
  rw [List.getElem?_replicate, if_pos h]
theorem trC_b {n : Nat} {s : Bool} {q j : Nat} (h : q < nS n s) (hj : j < 3) : (trC n s)[nS n s + (3 * q + j)]? = some ((q : Int) + 1) := by
  unfold trC
  rw [List.append_assoc, List.getElem?_append_right (by simp)]
  rw [List.length_replicate, show nS n s + (3 * q + j) - nS n s = 3 * q + j from by omega]
  rw [List.getElem?_append_left]
  · exact flat3 (fun g => (g : Int) + 1) _ q j h hj
  · have := flat3 (fun g => (g : Int) + 1) _ q j h hj
    exact (List.getElem?_eq_some_iff.1 this).1
theorem trC_c {n : Nat} {s : Bool} {j : Nat} (hj : j < 2) : (trC n s)[4 * nS n s + j]? = some 0 := by
  have hl := trC_len n s
  unfold trC at hl ⊢
  rw [List.length_append] at hl
  rw [List.getElem?_append_right (by simp at hl ⊢; omega)]
  have e : ∀ a : Nat, a + 2 = 4 * nS n s + 2 → 4 * nS n s + j - a = j := by omega
  rw [e _ (by simpa using hl)]
  obtain rfl | rfl : j = 0 ∨ j = 1 := by omega
  all_goals rfl
end Go.Proofs
