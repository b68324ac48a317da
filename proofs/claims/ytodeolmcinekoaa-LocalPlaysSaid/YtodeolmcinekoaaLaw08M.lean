/- A part of proofs about functions of one program: a condition over a partial memory that is enough for a call, and what calls answer by it. No condition of its own. -/
import Derived.Test.YtodeolmcinekoaaLocal2
/- Four queues and a global row, as values: nobody is lost. -/
namespace Go.Proofs
set_option linter.unusedVariables false
structure S8 where
  xs : List Loc
  g : List Int
  next : Int
  out : List Int
def Loc.all (x : Loc) : List Int := (if x.next = -1 then [] else [x.next]) ++ x.l
def S8.all (s : S8) : List Int := s.xs.flatMap Loc.all ++ (s.g ++ s.out)
def got8 (v : Int) : List Int := if 0 ≤ v then [v] else []
def lc (xs : List Loc) (i : Nat) : Loc := xs.getD i ⟨-1, 1, []⟩
def does8 (s : S8) (kind i k : Nat) (n : Int) : S8 :=
  if kind = 0 ∨ kind = 1 then ⟨s.xs.set i ((lc s.xs i).ready s.next s.g).1, ((lc s.xs i).ready s.next s.g).2.1, s.next + 1, s.out⟩
  else if kind = 2 ∨ kind = 3 then ⟨s.xs.set i ((lc s.xs i).put s.next s.g).1, ((lc s.xs i).put s.next s.g).2.1, s.next + 1, s.out⟩
  else if kind = 4 then ⟨s.xs.set i (lc s.xs i).get.1, s.g, s.next, s.out ++ got8 (lc s.xs i).get.2⟩
  else if kind = 5 then ⟨s.xs.set i ((lc s.xs i).fetch s.g n).1, ((lc s.xs i).fetch s.g n).2.1, s.next, s.out ++ got8 ((lc s.xs i).fetch s.g n).2.2⟩
  else if kind = 6 then (if i = k then s else ⟨(s.xs.set i ((lc s.xs i).steal (lc s.xs k)).1).set k ((lc s.xs i).steal (lc s.xs k)).2.1, s.g, s.next, s.out ++ got8 ((lc s.xs i).steal (lc s.xs k)).2.2⟩)
  else if kind = 9 then ⟨s.xs.set i ((lc s.xs i).turn s.g).1, ((lc s.xs i).turn s.g).2.1, s.next, s.out⟩
  else if kind = 7 then ⟨s.xs, s.g ++ [s.next], s.next + 1, s.out⟩
  else ⟨s.xs, s.g.drop n.toNat, s.next, s.out ++ s.g.take n.toNat⟩
theorem cnt_set {xs : List Loc} {i : Nat} {x y : Loc} (a : Int) (h : xs[i]? = some x) : ((xs.set i y).flatMap Loc.all).count a + x.all.count a = (xs.flatMap Loc.all).count a + y.all.count a := by
  induction xs generalizing i with
  | nil => simp at h
  | cons z xs ih =>
    cases i with
    | zero => simp only [List.getElem?_cons_zero, Option.some.injEq] at h; subst h; simp only [List.set_cons_zero, List.flatMap_cons, List.count_append]; omega
    | succ i => have := ih (i := i) (by simpa using h); simp only [List.set_cons_succ, List.flatMap_cons, List.count_append]; omega
theorem cnt_td (a : Int) (l : List Int) (n : Nat) : (l.take n).count a + (l.drop n).count a = l.count a := by rw [← List.count_append, List.take_append_drop]
theorem cnt_put (x : Loc) (v : Int) (g : List Int) (a : Int) : (x.put v g).1.all.count a + (x.put v g).2.1.count a = x.all.count a + g.count a + [v].count a := by
  unfold Loc.put Loc.all
  have := cnt_td a x.l (x.l.length / 2)
  split <;> simp only [List.count_append] <;> omega
theorem cnt_next (x : Loc) (v : Int) (hv : v ≠ -1) (a : Int) : (({ x with next := v } : Loc).all).count a + (if x.next = -1 then ([] : List Int) else [x.next]).count a = x.all.count a + [v].count a := by
  unfold Loc.all
  simp only [List.count_append, if_neg hv]; omega
theorem cnt_off (x : Loc) (a : Int) : (({ x with next := -1 } : Loc).all).count a + (if x.next = -1 then ([] : List Int) else [x.next]).count a = x.all.count a := by
  unfold Loc.all
  simp only [List.count_append, if_true, List.count_nil]; omega
theorem cnt_ready (x : Loc) (v : Int) (hv : v ≠ -1) (g : List Int) (a : Int) : (x.ready v g).1.all.count a + (x.ready v g).2.1.count a = x.all.count a + g.count a + [v].count a := by
  have h1 := cnt_next x v hv a
  unfold Loc.ready
  split
  · rename_i h; rw [if_pos h] at h1; simp only [List.count_nil] at h1; dsimp only; omega
  · rename_i h; rw [if_neg h] at h1; rw [cnt_put]; omega
theorem cnt_turn (x : Loc) (g : List Int) (a : Int) : (x.turn g).1.all.count a + (x.turn g).2.1.count a = x.all.count a + g.count a := by
  have h1 := cnt_off x a
  unfold Loc.turn
  split
  · rfl
  · rename_i h; rw [if_neg h] at h1; rw [cnt_put]; omega
/-- All that stands in it is no name of nobody. -/
def Loc.Pos (x : Loc) : Prop := -1 ≤ x.next ∧ ∀ v ∈ x.l, 0 ≤ v
theorem got8_one {v : Int} (h : 0 ≤ v) : got8 v = [v] := if_pos h
theorem cnt_get (x : Loc) (hx : x.Pos) (a : Int) : x.get.1.all.count a + (got8 x.get.2).count a = x.all.count a := by
  obtain ⟨h1, h2⟩ := hx
  have h3 := cnt_off x a
  unfold Loc.get
  split
  · rename_i h; rw [if_neg h] at h3; rw [got8_one (show 0 ≤ x.next by omega)]; omega
  · rename_i h
    split
    · rfl
    · rename_i v l e
      rw [got8_one (h2 v (by rw [e]; simp))]
      unfold Loc.all
      rw [e]
      simp only [List.count_append, List.count_cons, List.count_nil]; omega
theorem cnt_fetch (x : Loc) (g : List Int) (hg : ∀ v ∈ g, 0 ≤ v) (p : Int) (a : Int) : (x.fetch g p).1.all.count a + (x.fetch g p).2.1.count a + (got8 (x.fetch g p).2.2).count a = x.all.count a + g.count a := by
  have h1 := cnt_td a g (x.fetchN g p)
  unfold Loc.fetch
  split
  · rfl
  · rename_i v out e
    rw [e] at h1
    rw [got8_one (hg v (List.mem_of_mem_take (by rw [e]; simp)))]
    unfold Loc.all
    simp only [List.count_append, List.count_cons, List.count_nil] at h1 ⊢; omega
theorem cnt_steal (x f : Loc) (hf : f.Pos) (hx : x.l.length ≤ x.room) (a : Int) : (x.steal f).1.all.count a + (x.steal f).2.1.all.count a + (got8 (x.steal f).2.2).count a = x.all.count a + f.all.count a := by
  obtain ⟨h1, h2⟩ := hf
  have h3 := cnt_td a f.l (x.stealN f)
  have h4 := cnt_off f a
  unfold Loc.steal
  split
  · rename_i e
    by_cases hn : f.next = -1
    · have : got8 f.next = [] := by unfold got8; rw [if_neg (by omega)]
      dsimp only
      rw [this]; rw [if_pos hn] at h4; simp only [List.count_nil] at h4 ⊢; omega
    · dsimp only; rw [got8_one (by omega)]; rw [if_neg hn] at h4; omega
  · rename_i v out e
    rw [e] at h3
    rw [got8_one (h2 v (List.mem_of_mem_take (by rw [e]; simp)))]
    unfold Loc.all
    simp only [List.count_append, List.count_cons, List.count_nil] at h3 ⊢; omega
theorem get_pos {x : Loc} (hx : x.Pos) : (x.next = -1 ∧ x.l = [] ∧ x.get.2 = -1) ∨ ((x.next ≠ -1 ∨ x.l ≠ []) ∧ 0 ≤ x.get.2) := by
  obtain ⟨h1, h2⟩ := hx
  unfold Loc.get
  split
  · rename_i h; exact .inr ⟨.inl h, by dsimp only; omega⟩
  · rename_i h
    split
    · rename_i e; exact .inl ⟨by omega, e, rfl⟩
    · rename_i v l e; exact .inr ⟨.inr (by rw [e]; simp), h2 v (by rw [e]; simp)⟩
theorem fetchN_pos (x : Loc) (g : List Int) (p : Int) : 1 ≤ x.fetchN g p := by unfold Loc.fetchN; generalize g.length / p.toNat = q; split <;> omega
theorem fetch_pos {x : Loc} {g : List Int} (hg : ∀ v ∈ g, 0 ≤ v) (p : Int) : (g = [] ∧ (x.fetch g p).2.2 = -1) ∨ (g ≠ [] ∧ 0 ≤ (x.fetch g p).2.2) := by
  have hn := fetchN_pos x g p
  unfold Loc.fetch
  split
  · rename_i e
    have := congrArg List.length e
    rw [List.length_take, List.length_nil] at this
    exact .inl ⟨List.length_eq_zero_iff.1 (by omega), rfl⟩
  · rename_i v out e
    exact .inr ⟨by rintro rfl; simp at e, hg v (List.mem_of_mem_take (by rw [e]; simp))⟩
theorem steal_pos {x f : Loc} (hf : f.Pos) (hx : x.l.length ≤ x.room) : (f.l = [] ∧ (x.steal f).2.2 = f.next) ∨ (f.l ≠ [] ∧ 0 ≤ (x.steal f).2.2) := by
  obtain ⟨h1, h2⟩ := hf
  unfold Loc.steal
  split
  · rename_i e
    have := congrArg List.length e
    rw [List.length_take, List.length_nil] at this
    unfold Loc.stealN at this
    exact .inl ⟨List.length_eq_zero_iff.1 (by omega), rfl⟩
  · rename_i v out e
    exact .inr ⟨by intro h; rw [h] at e; simp at e, h2 v (List.mem_of_mem_take (by rw [e]; simp))⟩
/-- Each number stands in one place. -/
structure S8.Ok (s : S8) (n : Nat) : Prop where
  len : s.xs.length = 4
  next : s.next = n
  room : ∀ x ∈ s.xs, x.l.length ≤ x.room ∧ x.room ≤ 1024 ∧ 0 < x.room
  perm : ∀ a, s.all.count a = ((List.range n).map Int.ofNat).count a
def nums (n : Nat) : List Int := (List.range n).map Int.ofNat
theorem nums_succ (n : Nat) (a : Int) : (nums (n + 1)).count a = (nums n).count a + [(n : Int)].count a := by
  unfold nums; rw [List.range_succ, List.map_append, List.count_append]; rfl
theorem S8.Ok.perm' {s : S8} {n : Nat} (h : s.Ok n) : s.all.Perm (nums n) := List.perm_iff_count.2 h.perm
theorem S8.Ok.total {s : S8} {n : Nat} (h : s.Ok n) : s.all.length = n := by rw [h.perm'.length_eq]; simp [nums]
theorem S8.Ok.nn {s : S8} {n : Nat} (h : s.Ok n) : ∀ v ∈ s.all, 0 ≤ v := fun v hv => by
  have := h.perm'.mem_iff.1 hv
  obtain ⟨k, _, rfl⟩ := List.mem_map.1 this
  exact Int.natCast_nonneg k
theorem S8.Ok.gl {s : S8} {n : Nat} (h : s.Ok n) : s.g.length ≤ n ∧ s.out.length ≤ n := by
  have := h.total
  unfold S8.all at this
  simp only [List.length_append] at this
  omega
theorem S8.Ok.gp {s : S8} {n : Nat} (h : s.Ok n) : ∀ v ∈ s.g, 0 ≤ v := fun v hv => h.nn v (by unfold S8.all; simp [hv])
theorem S8.Ok.pos {s : S8} {n : Nat} (h : s.Ok n) {x : Loc} (hx : x ∈ s.xs) : x.Pos := by
  have hall : ∀ v ∈ x.all, 0 ≤ v := fun v hv => h.nn v (by
    unfold S8.all
    exact List.mem_append_left _ (List.mem_flatMap.2 ⟨x, hx, hv⟩))
  refine ⟨?_, fun v hv => hall v (by unfold Loc.all; simp [hv])⟩
  by_cases hn : x.next = -1
  · omega
  · have := hall x.next (by unfold Loc.all; rw [if_neg hn]; simp)
    omega
theorem lc_at {xs : List Loc} {i : Nat} (h : i < xs.length) : xs[i]? = some (lc xs i) := by
  unfold lc; rw [List.getD_eq_getElem?_getD, List.getElem?_eq_getElem h]; rfl
theorem lc_mem {xs : List Loc} {i : Nat} (h : i < xs.length) : lc xs i ∈ xs := List.mem_of_getElem? (lc_at h)
theorem put_bd {x : Loc} (h : x.l.length ≤ x.room ∧ x.room ≤ 1024 ∧ 0 < x.room) (v : Int) (g : List Int) : (x.put v g).1.l.length ≤ (x.put v g).1.room ∧ (x.put v g).1.room ≤ 1024 ∧ 0 < (x.put v g).1.room := by
  unfold Loc.put; split
  · dsimp only; simp only [List.length_append, List.length_singleton]; omega
  · dsimp only; simp only [List.length_drop]; omega
theorem ready_bd {x : Loc} (h : x.l.length ≤ x.room ∧ x.room ≤ 1024 ∧ 0 < x.room) (v : Int) (g : List Int) : (x.ready v g).1.l.length ≤ (x.ready v g).1.room ∧ (x.ready v g).1.room ≤ 1024 ∧ 0 < (x.ready v g).1.room := by
  unfold Loc.ready; split
  · exact h
  · exact put_bd (x := { x with next := v }) h _ _
theorem turn_bd {x : Loc} (h : x.l.length ≤ x.room ∧ x.room ≤ 1024 ∧ 0 < x.room) (g : List Int) : (x.turn g).1.l.length ≤ (x.turn g).1.room ∧ (x.turn g).1.room ≤ 1024 ∧ 0 < (x.turn g).1.room := by
  unfold Loc.turn; split
  · exact h
  · exact put_bd (x := { x with next := -1 }) h _ _
theorem get_bd {x : Loc} (h : x.l.length ≤ x.room ∧ x.room ≤ 1024 ∧ 0 < x.room) : x.get.1.l.length ≤ x.get.1.room ∧ x.get.1.room ≤ 1024 ∧ 0 < x.get.1.room := by
  unfold Loc.get; split
  · exact h
  · split
    · exact h
    · rename_i e; dsimp only; rw [e, List.length_cons] at h; omega
theorem fetch_bd {x : Loc} (h : x.l.length ≤ x.room ∧ x.room ≤ 1024 ∧ 0 < x.room) (g : List Int) (p : Int) : (x.fetch g p).1.l.length ≤ (x.fetch g p).1.room ∧ (x.fetch g p).1.room ≤ 1024 ∧ 0 < (x.fetch g p).1.room := by
  have hn1 : x.l.length + (x.fetchN g p - 1) ≤ x.room := by unfold Loc.fetchN; generalize g.length / p.toNat = q; split <;> omega
  unfold Loc.fetch; split
  · exact h
  · rename_i v out e
    have := congrArg List.length e
    rw [List.length_take, List.length_cons] at this
    dsimp only; simp only [List.length_append]; omega
theorem steal_bd {x f : Loc} (h : x.l.length ≤ x.room ∧ x.room ≤ 1024 ∧ 0 < x.room) (hf : f.l.length ≤ f.room ∧ f.room ≤ 1024 ∧ 0 < f.room) :
    ((x.steal f).1.l.length ≤ (x.steal f).1.room ∧ (x.steal f).1.room ≤ 1024 ∧ 0 < (x.steal f).1.room) ∧ ((x.steal f).2.1.l.length ≤ (x.steal f).2.1.room ∧ (x.steal f).2.1.room ≤ 1024 ∧ 0 < (x.steal f).2.1.room) := by
  have hn1 : x.l.length + (x.stealN f - 1) ≤ x.room := by unfold Loc.stealN; omega
  unfold Loc.steal; split
  · exact ⟨h, hf⟩
  · rename_i v out e
    have := congrArg List.length e
    rw [List.length_take, List.length_cons] at this
    dsimp only; simp only [List.length_append, List.length_drop]; omega
theorem mem_set8 {xs : List Loc} {i : Nat} {x y : Loc} (h : y ∈ xs.set i x) : y ∈ xs ∨ y = x := by
  rcases List.mem_or_eq_of_mem_set h with h | h
  · exact .inl h
  · exact .inr h
/-- What one call leaves. -/
theorem does8_ok {s : S8} {n : Nat} (h : s.Ok n) (kind i k : Nat) (hi : i < 4) (hk : k < 4) (N : Int) : ∃ n', n' ≤ n + 1 ∧ (does8 s kind i k N).Ok n' := by
  obtain ⟨h1, h2, h3, h4⟩ := id h
  have hxi := lc_at (xs := s.xs) (i := i) (by omega)
  have hmi := lc_mem (xs := s.xs) (i := i) (by omega)
  have hmk := lc_mem (xs := s.xs) (i := k) (by omega)
  have hxk := lc_at (xs := s.xs) (i := k) (by omega)
  have pi := h.pos hmi
  have pk := h.pos hmk
  have bi := h3 _ hmi
  have bk := h3 _ hmk
  have one : ∀ (y : Loc) (g out : List Int) (next : Int) (n' : Nat), next = n' → (y.l.length ≤ y.room ∧ y.room ≤ 1024 ∧ 0 < y.room) →
      (∀ a, y.all.count a + g.count a + out.count a + (nums n).count a = (lc s.xs i).all.count a + s.g.count a + s.out.count a + (nums n').count a) → (S8.mk (s.xs.set i y) g next out).Ok n' := by
    intro y g out next n' e1 e2 e3
    refine ⟨by simpa using h1, e1, fun z hz => ?_, fun a => ?_⟩
    · rcases mem_set8 hz with hz | rfl
      · exact h3 z hz
      · exact e2
    · have q1 := cnt_set (y := y) a hxi
      have q2 := e3 a
      have q3 := h4 a
      unfold S8.all at q3 ⊢
      unfold nums at q2
      simp only [List.count_append] at q3 ⊢
      omega
  unfold does8
  split
  · refine ⟨n + 1, Nat.le_refl _, one _ _ _ _ _ (by rw [h2]; simp) (ready_bd bi _ _) fun a => ?_⟩
    have := cnt_ready (lc s.xs i) s.next (by omega) s.g a
    have := nums_succ n a
    rw [h2] at *
    omega
  split
  · refine ⟨n + 1, Nat.le_refl _, one _ _ _ _ _ (by rw [h2]; simp) (put_bd bi _ _) fun a => ?_⟩
    have := cnt_put (lc s.xs i) s.next s.g a
    have := nums_succ n a
    rw [h2] at *
    omega
  split
  · refine ⟨n, by omega, one _ _ _ _ _ h2 (get_bd bi) fun a => ?_⟩
    have := cnt_get (lc s.xs i) pi a
    rw [List.count_append]; omega
  split
  · refine ⟨n, by omega, one _ _ _ _ _ h2 (fetch_bd bi _ _) fun a => ?_⟩
    have := cnt_fetch (lc s.xs i) s.g h.gp N a
    rw [List.count_append]; omega
  split
  · split
    · exact ⟨n, by omega, h⟩
    · rename_i hik
      have st := steal_bd bi bk
      refine ⟨n, by omega, by simpa using h1, h2, fun z hz => ?_, fun a => ?_⟩
      · rcases mem_set8 hz with hz | rfl
        · rcases mem_set8 hz with hz | rfl
          · exact h3 z hz
          · exact st.1
        · exact st.2
      · have q1 := cnt_set (y := ((lc s.xs i).steal (lc s.xs k)).1) a hxi
        have q2 := cnt_set (xs := s.xs.set i ((lc s.xs i).steal (lc s.xs k)).1) (y := ((lc s.xs i).steal (lc s.xs k)).2.1) (i := k) (x := lc s.xs k) a (by rw [List.getElem?_set_ne hik]; exact hxk)
        have q3 := cnt_steal (lc s.xs i) (lc s.xs k) pk bi.1 a
        have q4 := h4 a
        unfold S8.all at q4 ⊢
        simp only [List.count_append] at q4 ⊢
        omega
  split
  · refine ⟨n, by omega, one _ _ _ _ _ h2 (turn_bd bi _) fun a => ?_⟩
    have := cnt_turn (lc s.xs i) s.g a
    omega
  split
  · refine ⟨n + 1, Nat.le_refl _, h1, by rw [h2]; simp, h3, fun a => ?_⟩
    have q4 := h4 a
    have := nums_succ n a
    unfold S8.all at q4 ⊢
    unfold nums at this
    rw [h2]
    simp only [List.count_append] at q4 ⊢
    omega
  · refine ⟨n, by omega, h1, h2, h3, fun a => ?_⟩
    have q4 := h4 a
    have := cnt_td a s.g N.toNat
    unfold S8.all at q4 ⊢
    simp only [List.count_append] at q4 ⊢
    omega
end Go.Proofs
