/- A part of proofs about one program. -/
import Derived.Test.YtnnlgknlialpmaaGreatZTraceSeenOpC
set_option linter.unusedVariables false
namespace Go.AF
variable {E : s9}
theorem Mem.eT (A B D : Mem) : (A.union B).union D = A.union (B.union D) := by
 funext b; unfold Mem.union; cases A b <;> rfl
theorem Mem.gv {A B D : Mem} : A.dj (B.union D) ↔ A.dj B ∧ A.dj D := by
 constructor
 ·intro h
  refine ⟨fun b => ?_, fun b => ?_⟩ <;> rcases h b with h1 | h1
  ·exact .inl h1
  ·unfold Mem.union at h1; cases hb : B b with
   | none => exact .inr rfl
   | some o => rw [hb] at h1; cases h1
  ·exact .inl h1
  ·unfold Mem.union at h1; cases hb : B b with
   | none => rw [hb] at h1; exact .inr h1
   | some o => rw [hb] at h1; cases h1
 ·rintro ⟨h1, h2⟩ b
  rcases h1 b with h | h
  ·exact .inl h
  ·rcases h2 b with h' | h'
   ·exact .inl h'
   ·right; simp [Mem.union, h, h']
theorem Mem.lg {A B D : Mem} : (A.union B).dj D ↔ A.dj D ∧ B.dj D := by
 constructor
 ·intro h
  refine ⟨fun b => ?_, fun b => ?_⟩ <;> rcases h b with h1 | h1
  ·unfold Mem.union at h1; cases ha : A b with
   | none => exact .inl rfl
   | some o => rw [ha] at h1; cases h1
  ·exact .inr h1
  ·unfold Mem.union at h1; cases ha : A b with
   | none => rw [ha] at h1; exact .inl h1
   | some o => rw [ha] at h1; cases h1
  ·exact .inr h1
 ·rintro ⟨h1, h2⟩ b
  rcases h1 b with h | h
  ·rcases h2 b with h' | h'
   ·left; simp [Mem.union, h, h']
   ·exact .inr h'
  ·exact .inr h
def Fr {α : Type} (F : Mem) (K : α → Mem → Prop) : α → Mem → Prop := fun a M' => ∃ M1, M' = M1.union F ∧ M1.dj F ∧ K a M1
theorem kM {M F : Mem} {b : Nat} {o : Obj} : (M.union F).set b o = (M.set b o).union F := by
 funext i; simp only [Mem.union, Mem.set]; by_cases h : i = b <;> simp [h]
theorem JF {M F : Mem} {a : Addr} {v : Value} {x : Obj} (h : M a.block = some x) : (M.union F).put a v = (M.put a v).union F := by
 funext i; simp only [Mem.union, Mem.put]
 by_cases hi : i = a.block
 ·subst hi; simp [h]
 ·simp [hi]
theorem CO {M F : Mem} {a : Addr} {n : Nat} {x : Obj} (h : M a.block = some x) : (M.union F).freeze a n = (M.freeze a n).union F := by
 funext i; simp only [Mem.union, Mem.freeze]
 by_cases hi : i = a.block
 ·subst hi; simp [h]
 ·simp [hi]
theorem nD {M F : Mem} {b : Nat} (h : (M.union F) b = none) : M b = none ∧ F b = none := by
 unfold Mem.union at h; cases hb : M b with
 | none => rw [hb] at h; exact ⟨rfl, h⟩
 | some o => rw [hb] at h; cases h
theorem LV {M F : Mem} {a : Addr} (h : M.wr a = true) : (M.union F).wr a = true := by
 obtain ⟨c, e, f, hb, _⟩ := uf h
 unfold Mem.wr at h ⊢
 rw [Mem.union_left hb]; rw [hb] at h; exact h
theorem JG (P : Program) {α : Type} (s : Sem α) : ∀ {M F : Mem} {K : α → Mem → Prop} {Kp : Value → Mem → Prop}, dV P s M K Kp → M.dj F → dV P s (M.union F) (Fr F K) (Fr F Kp) := by
 induction s with
 | pure a => intro M F K Kp h hd; exact ⟨M, rfl, hd, h⟩
 | load m a k ih =>
  intro M F K Kp h hd
  simp only [dV] at h ⊢
  split at h
  ·rename_i v hv; rw [DZ hv]; exact ih v h hd
  ·exact h.elim
 | store m a v k ih =>
  intro M F K Kp h hd
  simp only [dV] at h ⊢
  obtain ⟨c, e, f, hb, _⟩ := uf h.2.1
  refine ⟨h.1, LV h.2.1, ?_⟩
  rw [JF hb]
  exact ih h.2.2 (LB hd)
 | new o k ih =>
  intro M F K Kp h hd
  simp only [dV] at h ⊢
  intro b hb
  obtain ⟨h1, h2⟩ := nD hb
  rw [kM]
  exact ih b (h b h1) (ta hd h2)
 | shape r k ih =>
  intro M F K Kp h hd
  simp only [dV] at h ⊢
  split at h
  ·rename_i hb; rw [Mem.union_left hb]; exact ih _ h hd
  ·exact h.elim
 | freeze a n k ih =>
  intro M F K Kp h hd
  simp only [dV] at h ⊢
  obtain ⟨x, hx⟩ := Option.isSome_iff_exists.1 h.2.1
  refine ⟨h.1, by rw [Mem.union_left hx]; rfl, ?_⟩
  rw [CO hx]
  exact ih h.2.2 (Bt hd)
 | frozen a k ih =>
  intro M F K Kp h hd
  simp only [dV] at h ⊢
  split at h
  ·rename_i hb; rw [Mem.union_left hb]; exact ih _ h hd
  ·exact h.elim
 | getObj r k ih =>
  intro M F K Kp h hd
  simp only [dV] at h ⊢
  split at h
  ·exact h.elim
  ·rename_i o hno hb
   rw [Mem.union_left hb]
   cases o with
   | cells c e f => exact absurd rfl (hno c e f)
   | _ => exact ih _ h hd
  ·exact h.elim
 | setObj r o k ih =>
  intro M F K Kp h hd
  simp only [dV] at h ⊢
  split at h
  ·exact h.elim
  ·rename_i x hno hb
   rw [Mem.union_left hb]
   have := ih h (Bs hd hb)
   rw [← kM] at this
   cases x with
   | cells c e f => exact absurd rfl (hno c e f)
   | _ => exact this
  ·exact h.elim
 | choose q k ih =>
  intro M F K Kp h hd
  simp only [dV] at h ⊢
  by_cases hq : q.forced = true
  ·simp only [hq, if_true] at h ⊢; exact ih _ h hd
  ·simp only [hq] at h ⊢; exact fun t => ih _ (h t) hd
 | sys c k ih => intro M F K Kp h; exact h.elim
 | program k ih => intro M F K Kp h hd; exact ih P h hd
 | mark m k ih => intro M F K Kp h hd; exact ih h hd
 | halt x => intro M F K Kp h hd; cases x <;> first | exact h.elim | exact ⟨M, rfl, hd, h⟩
theorem gi.frame {F G : Mem} {K : Mem → Prop} {w : World} (hF : F.dj G) (h : gi E (F.union G) K w) : gi E G (fun M' => ∃ M1, M' = M1.union F ∧ M1.dj F ∧ K M1) w := by
 obtain ⟨M, hk, hd, hi⟩ := h
 obtain ⟨h1, h2⟩ := Mem.gv.1 hd
 exact ⟨M.union F, ⟨M, rfl, h1, hk⟩, Mem.lg.2 ⟨h2, hF⟩, by rw [Mem.eT]; exact hi⟩
theorem aa.frame {P : Program} {f : FuncId} {args : Array Value} {M F : Mem} {K : Value → Mem → Prop} {Kp : List PanicEntry → Mem → Prop} (h : aa P f args M K Kp) (hd : M.dj F) :
  aa P f args (M.union F) (Fr F K) (Fr F Kp) := fun E G w hg hi => by
 obtain ⟨g1, g2⟩ := Mem.lg.1 hg
 refine (h E (F.union G) w (Mem.gv.2 ⟨hd, g1⟩) (by rw [← Mem.eT]; exact hi)).mono fun e w' he => ?_
 cases e with
 | returned v => exact gi.frame g2 he
 | panicked c => exact gi.frame g2 he
 | outgrown => exact he
theorem Eg {P : Program} {K : Value → Mem → Prop} {Kp : List PanicEntry → Mem → Prop} {F : Mem} {n : Next} {M' : Mem} (h : Fr F (mO P K Kp) n M') : mO P (Fr F K) (Fr F Kp) n M' := by
 obtain ⟨M1, rfl, hd, h⟩ := h
 cases n <;> first
  | exact h.elim
  | exact ⟨M1, rfl, hd, h⟩
  | exact aa.frame h hd
def single (b : Nat) (o : Obj) : Mem := fun i => if i = b then some o else none
theorem td {M : Mem} {b : Nat} {o : Obj} (h : M b = none) : M.set b o = M.union (single b o) := by
 funext i; simp only [Mem.set, Mem.union, single]
 by_cases hi : i = b
 ·subst hi; simp [h]
 ·simp [hi]; cases M i <;> rfl
theorem kN {M : Mem} {b : Nat} {o : Obj} : M.dj (single b o) ↔ M b = none := by
 constructor
 ·intro h; rcases h b with h | h
  ·exact h
  ·simp [single] at h
 ·intro h i
  by_cases hi : i = b
  ·subst hi; exact .inl h
  ·right; simp [single, hi]
end Go.AF
