/- A part of proofs about one program. -/
import Derived.WalkKit
set_option linter.unusedVariables false
namespace Go.AF
abbrev Mem := Nat → Option Obj
def Mem.empty : Mem := fun _ => none
def Mem.union (M F : Mem) : Mem := fun b => match M b with | some o => some o | none => F b
def Mem.dj (M F : Mem) : Prop := ∀ b, M b = none ∨ F b = none
abbrev s9 := Os × (Nat → Question → Nat) × Array (Nat × ByteArray)
def World.Tk (w : World) : s9 := (w.os, w.tape, w.output)
def Mem.In (M : Mem) (E : s9) (w : World) : Prop := (∀ b o, M b = some o → w.heap[b]? = some o) ∧ World.Tk w = E
variable {E : s9}
def Mem.set (M : Mem) (b : Nat) (o : Obj) : Mem := fun i => if i = b then some o else M i
def Mem.ld (M : Mem) (a : Addr) : Option Value :=
 match M a.block with
 | some (.cells c _ _) => if a.spot.isSome then none else c[a.off]?
 | _ => none
def Mem.wr (M : Mem) (a : Addr) : Bool :=
 match M a.block with
 | some (.cells c _ f) => a.spot.isNone && decide (a.off < c.size) && !(decide (f.1 ≤ a.off) && decide (a.off < f.2))
 | _ => false
def Obj.yC (o : Obj) (k : Nat) (v : Value) : Obj :=
 match o with
 | .cells c e f => .cells (c.setIfInBounds k v) e f
 | o => o
def Mem.put (M : Mem) (a : Addr) (v : Value) : Mem := fun i => if i = a.block then (M i).map (Obj.yC · a.off v) else M i
def Mem.freeze (M : Mem) (a : Addr) (n : Nat) : Mem := fun i => if i = a.block then (M i).map (fun o => match o with
 | .cells c elem (lo, hi) => .cells c elem (if lo == hi then (a.off, a.off + n) else (min lo a.off, max hi (a.off + n)))
 | o => o) else M i
def Value.plainCell : Value → Bool
 | .agg _ => false
 | .tuple _ => false
 | _ => true
def dV (P : Program) {α : Type} : Sem α → Mem → (α → Mem → Prop) → (Value → Mem → Prop) → Prop
 | .pure a, M, K, _ => K a M
 | .load _ a k, M, K, Kp => match M.ld a with
  | some v => dV P (k v) M K Kp
  | none => False
 | .store _ a v k, M, K, Kp => Value.plainCell v = true ∧ M.wr a = true ∧ dV P k (M.put a v) K Kp
 | .new o k, M, K, Kp => ∀ b, M b = none → dV P (k b) (M.set b o) K Kp
 | .shape r k, M, K, Kp => match M r with
  | some (.cells c elem _) => dV P (k (some (elem, c.size))) M K Kp
  | _ => False
 | .freeze a n k, M, K, Kp => n ≠ 0 ∧ (M a.block).isSome = true ∧ dV P k (M.freeze a n) K Kp
 | .frozen a k, M, K, Kp => match M a.block with
  | some (.cells _ _ f) => dV P (k (decide (f.1 ≤ a.off) && decide (a.off < f.2))) M K Kp
  | _ => False
 | .getObj r k, M, K, Kp => match M r with
  | some (.cells ..) => False
  | some o => dV P (k o) M K Kp
  | none => False
 | .setObj r o k, M, K, Kp => match M r with
  | some (.cells ..) => False
  | some _ => dV P k (M.set r o) K Kp
  | none => False
 | .choose q k, M, K, Kp => if q.forced then dV P (k 0) M K Kp else ∀ t, dV P (k (q.cut t)) M K Kp
 | .sys _ _, _, _, _ => False
 | .program k, M, K, Kp => dV P (k P) M K Kp
 | .mark _ k, M, K, Kp => dV P k M K Kp
 | .halt (.panic v), M, _, Kp => Kp v M
 | .halt _, _, _, _ => False
def gi (E : s9) (F : Mem) (K : Mem → Prop) (w : World) : Prop := ∃ M, K M ∧ M.dj F ∧ (M.union F).In E w
theorem gi.mono {F : Mem} {K K' : Mem → Prop} {w : World} (h : gi E F K w) (hk : ∀ M, K M → K' M) : gi E F K' w :=
 let ⟨M, a, b, c⟩ := h; ⟨M, hk M a, b, c⟩
def jv {α : Type} (P : Program) (s : Sem α) (w : World) (K : α → World → Prop) (Kp : Value → World → Prop) : Prop :=
 match s.run P w with
 | .ok a w' => K a w'
 | .halt (.panic v) w' => Kp v w'
 | .halt _ _ => False
theorem Mem.union_left {M F : Mem} {b : Nat} {o : Obj} (h : M b = some o) : (M.union F) b = some o := by simp [Mem.union, h]
theorem Mem.In.left {M F : Mem} {w : World} (h : (M.union F).In E w) {b : Nat} {o : Obj} (hb : M b = some o) : w.heap[b]? = some o := h.1 b o (Mem.union_left hb)
theorem Mem.In.right {M F : Mem} {w : World} (h : (M.union F).In E w) (hd : M.dj F) {b : Nat} {o : Obj} (hb : F b = some o) : w.heap[b]? = some o :=
 h.1 b o (by rcases hd b with h1 | h1 <;> simp_all [Mem.union])
theorem Mem.In.lt {M : Mem} {w : World} (h : M.In E w) {b : Nat} {o : Obj} (hb : M b = some o) : b < w.heap.size := by
 have := h.1 b o hb
 exact (Array.getElem?_eq_some_iff.1 this).1
theorem Mem.In.fresh {M : Mem} {w : World} (h : M.In E w) : M w.heap.size = none := by
 cases hb : M w.heap.size with
 | none => rfl
 | some o => exact absurd (h.lt hb) (Nat.lt_irrefl _)
theorem Ii {M : Mem} {w : World} (h : M.In E w) {a : Addr} {v : Value} (hv : M.ld a = some v) : w.cell? a = some v := by
 unfold Mem.ld at hv
 cases hb : M a.block with
 | none => simp [hb] at hv
 | some o =>
  cases o with
  | cells c e f =>
   simp only [hb] at hv
   simp only [World.cell?, h.1 _ _ hb]
   exact hv
  | _ => simp [hb] at hv
theorem DZ {M F : Mem} {a : Addr} {v : Value} (hv : M.ld a = some v) : (M.union F).ld a = some v := by
 unfold Mem.ld at *
 cases hb : M a.block with
 | none => simp [hb] at hv
 | some o => rw [Mem.union_left hb]; rw [hb] at hv; exact hv
theorem uf {M : Mem} {a : Addr} (h : M.wr a = true) : ∃ c e f, M a.block = some (.cells c e f) ∧ a.spot = none ∧ a.off < c.size ∧ ¬ (f.1 ≤ a.off ∧ a.off < f.2) := by
 unfold Mem.wr at h
 cases hb : M a.block with
 | none => simp [hb] at h
 | some o =>
  cases o with
  | cells c e f =>
   simp only [hb, Bool.and_eq_true, Option.isNone_iff_eq_none, decide_eq_true_eq, Bool.not_eq_true', Bool.and_eq_false_iff, decide_eq_false_iff_not] at h
   exact ⟨c, e, f, rfl, h.1.1, h.1.2, by omega⟩
  | _ => simp [hb] at h
theorem LB {M F : Mem} {a : Addr} {v : Value} (h : M.dj F) : (M.put a v).dj F := by
 intro b
 rcases h b with h1 | h1
 ·left; unfold Mem.put; split <;> simp_all
 ·exact .inr h1
theorem Tl {M F : Mem} {w : World} {a : Addr} {v : Value} (hd : M.dj F) (h : (M.union F).In E w) (hw : M.wr a = true) : ((M.put a v).union F).In E (w.setCell a v) := by
 obtain ⟨c, e, f, hb, hs, ho, _⟩ := uf hw
 refine ⟨?_, h.2⟩
 intro b o hbo
 have hlt : a.block < w.heap.size := h.lt (Mem.union_left (F := F) hb)
 by_cases hba : b = a.block
 ·subst hba
  simp only [Mem.union, Mem.put, if_true, hb, Option.map_some] at hbo
  have Tm := h.1 _ _ (Mem.union_left (F := F) hb)
  simp only [World.setCell, Array.getElem?_modify, Tm, if_true, Option.map_some, hs, Option.isSome_none, Bool.false_eq_true, if_false]
  rw [← hbo]; rfl
 ·have hbo' : (M.union F) b = some o := by
   simp only [Mem.union, Mem.put, if_neg hba] at hbo ⊢; exact hbo
  have := h.1 _ _ hbo'
  simp only [World.setCell, Array.getElem?_modify, if_neg (Ne.symm hba)]
  exact this
theorem ta {M F : Mem} {b : Nat} {o : Obj} (h : M.dj F) (hf : F b = none) : (M.set b o).dj F := by
 intro i
 by_cases hi : i = b
 ·subst hi; exact .inr hf
 ·rcases h i with h1 | h1
  ·left; simp [Mem.set, hi, h1]
  ·exact .inr h1
theorem Tn {M F : Mem} {w : World} {o : Obj} (h : (M.union F).In E w) : ((M.set w.heap.size o).union F).In E { w with heap := w.heap.push o } := by
 refine ⟨?_, h.2⟩
 intro b o' hb
 by_cases hbs : b = w.heap.size
 ·subst hbs
  simp [Mem.union, Mem.set] at hb
  simp [hb]
 ·have hb' : (M.union F) b = some o' := by simpa [Mem.union, Mem.set, hbs] using hb
  have h1 := h.1 _ _ hb'
  have := h.lt hb'
  rw [Array.getElem?_push, if_neg (by omega)]
  exact h1
theorem Js {M F : Mem} {w : World} {r : Nat} {o o' : Obj} (hd : M.dj F) (h : (M.union F).In E w) (hr : M r = some o) :
  ((M.set r o').union F).In E { w with heap := w.heap.setIfInBounds r o' } := by
 have hlt := h.lt (Mem.union_left (F := F) hr)
 refine ⟨?_, h.2⟩
 intro b x hb
 by_cases hbr : b = r
 ·subst hbr
  simp [Mem.union, Mem.set] at hb
  simp [hlt, hb]
 ·have hb' : (M.union F) b = some x := by simpa [Mem.union, Mem.set, hbr] using hb
  have h1 := h.1 _ _ hb'
  simp only [Array.getElem?_setIfInBounds_ne (Ne.symm hbr)]
  exact h1
theorem Bs {M F : Mem} {r : Nat} {o o' : Obj} (hd : M.dj F) (hr : M r = some o) : (M.set r o').dj F :=
 ta hd (by rcases hd r with h | h <;> simp_all)
theorem Jt {M F : Mem} {w : World} {a : Addr} {n : Nat} (hn : n ≠ 0) (h : (M.union F).In E w) (hs : (M a.block).isSome = true) : ((M.freeze a n).union F).In E (w.freeze a n) := by
 obtain ⟨x, hx⟩ := Option.isSome_iff_exists.1 hs
 unfold World.freeze
 rw [if_neg hn]
 refine ⟨?_, h.2⟩
 intro b o hb
 by_cases hba : b = a.block
 ·subst hba
  simp only [Mem.union, Mem.freeze, if_true, hx, Option.map_some] at hb
  have h1 := h.1 _ _ (Mem.union_left (F := F) hx)
  simp only [Array.getElem?_modify, h1, if_true, Option.map_some]
  rw [← hb]; cases x <;> rfl
 ·have hb' : (M.union F) b = some o := by simpa [Mem.union, Mem.freeze, hba] using hb
  have h1 := h.1 _ _ hb'
  simp only [Array.getElem?_modify, if_neg (Ne.symm hba)]
  exact h1
theorem Bt {M F : Mem} {a : Addr} {n : Nat} (h : M.dj F) : (M.freeze a n).dj F := by
 intro b
 rcases h b with h1 | h1
 ·left; unfold Mem.freeze; split <;> simp_all
 ·exact .inr h1
theorem LC {M : Mem} {w : World} {n : Nat} (h : M.In E w) : M.In E { w with drawn := n } := h
theorem Ju (P : Program) {α : Type} (s : Sem α) : ∀ {M F : Mem} {w : World} {K : α → Mem → Prop} {Kp : Value → Mem → Prop},
  dV P s M K Kp → M.dj F → (M.union F).In E w → jv P s w (fun a => gi E F (K a)) (fun v => gi E F (Kp v)) := by
 induction s with
 | pure a => intro M F w K Kp h hd hi; exact ⟨M, h, hd, hi⟩
 | load m a k ih =>
  intro M F w K Kp h hd hi
  simp only [dV] at h
  cases hv : M.ld a with
  | none => simp [hv] at h
  | some v =>
   simp only [hv] at h
   have hc := Ii hi (DZ (F := F) hv)
   unfold jv
   simp only [Sem.run, hc]
   exact ih v h hd hi
 | store m a v k ih =>
  intro M F w K Kp h hd hi
  simp only [dV] at h
  obtain ⟨hp, hw, h⟩ := h
  obtain ⟨c, e, f, hb, hs, ho, hf⟩ := uf hw
  have hcell : w.cell? a = some c[a.off] := by
   simp [World.cell?, hi.left hb, hs, ho]
  have hfr : w.frozen? a = false := by
   simp only [World.frozen?, hi.left hb]
   rw [Bool.and_eq_false_iff, decide_eq_false_iff_not, decide_eq_false_iff_not]
   omega
  have := ih h (LB (a := a) (v := v) hd) (Tl (a := a) (v := v) hd hi hw)
  unfold jv at this ⊢
  cases v <;> first | (simp [Value.plainCell] at hp; done) | (simp only [Sem.run, hcell, hfr, Bool.false_eq_true, if_false]; exact this)
 | new o k ih =>
  intro M F w K Kp h hd hi
  simp only [dV] at h
  have hfr := hi.fresh
  have hM : M w.heap.size = none := by
   cases hm : M w.heap.size with
   | none => rfl
   | some x => simp [Mem.union, hm] at hfr
  have hF : F w.heap.size = none := by simpa [Mem.union, hM] using hfr
  unfold jv
  simp only [Sem.run]
  exact ih _ (h _ hM) (ta hd hF) (Tn hi)
 | shape r k ih =>
  intro M F w K Kp h hd hi
  simp only [dV] at h
  split at h
  ·rename_i c e f hb
   have : w.shape? r = some (e, c.size) := by simp [World.shape?, hi.left hb]
   unfold jv
   simp only [Sem.run, this]
   exact ih _ h hd hi
  ·exact h.elim
 | freeze a n k ih =>
  intro M F w K Kp h hd hi
  simp only [dV] at h
  obtain ⟨hn, hs, h⟩ := h
  unfold jv
  simp only [Sem.run]
  exact ih h (Bt hd) (Jt hn hi hs)
 | frozen a k ih =>
  intro M F w K Kp h hd hi
  simp only [dV] at h
  split at h
  ·rename_i c e f hb
   have : w.frozen? a = (decide (f.1 ≤ a.off) && decide (a.off < f.2)) := by simp [World.frozen?, hi.left hb]
   unfold jv
   simp only [Sem.run, this]
   exact ih _ h hd hi
  ·exact h.elim
 | getObj r k ih =>
  intro M F w K Kp h hd hi
  simp only [dV] at h
  split at h
  ·exact h.elim
  ·rename_i o hno hb
   have := hi.left hb
   unfold jv
   simp only [Sem.run, this]
   cases o with
   | cells c e f => exact absurd rfl (hno c e f)
   | _ => exact ih _ h hd hi
  ·exact h.elim
 | setObj r o k ih =>
  intro M F w K Kp h hd hi
  simp only [dV] at h
  split at h
  ·exact h.elim
  ·rename_i x hno hb
   have := hi.left hb
   have g := ih h (Bs (o' := o) hd hb) (Js (o' := o) hd hi hb)
   unfold jv at g ⊢
   simp only [Sem.run, this]
   cases x with
   | cells c e f => exact absurd rfl (hno c e f)
   | _ => exact g
  ·exact h.elim
 | choose q k ih =>
  intro M F w K Kp h hd hi
  simp only [dV] at h
  unfold jv
  simp only [Sem.run]
  by_cases hq : q.forced = true
  ·simp only [hq, if_true] at h ⊢; exact ih _ h hd hi
  ·simp only [hq] at h ⊢; exact ih _ (h _) hd (LC hi)
 | sys c k ih => intro M F w K Kp h; exact h.elim
 | program k ih =>
  intro M F w K Kp h hd hi
  simp only [dV] at h
  unfold jv
  simp only [Sem.run]
  exact ih _ h hd hi
 | mark m k ih =>
  intro M F w K Kp h hd hi
  simp only [dV] at h
  unfold jv
  simp only [Sem.run]
  exact ih h hd hi
 | halt x =>
  intro M F w K Kp h hd hi
  cases x <;> first | exact h.elim | exact ⟨M, h, hd, hi⟩
theorem iN (P : Program) {α : Type} (s : Sem α) : ∀ {M : Mem} {K K' : α → Mem → Prop} {Kp vO : Value → Mem → Prop},
  dV P s M K Kp → (∀ a M', K a M' → K' a M') → (∀ v M', Kp v M' → vO v M') → dV P s M K' vO := by
 induction s with
 | pure a => intro M K K' Kp vO h h1 h2; exact h1 _ _ h
 | load m a k ih =>
  intro M K K' Kp vO h h1 h2
  simp only [dV] at h ⊢
  split at h
  ·exact ih _ h h1 h2
  ·exact h.elim
 | store m a v k ih => intro M K K' Kp vO h h1 h2; simp only [dV] at h ⊢; exact ⟨h.1, h.2.1, ih h.2.2 h1 h2⟩
 | new o k ih => intro M K K' Kp vO h h1 h2; simp only [dV] at h ⊢; exact fun b hb => ih _ (h b hb) h1 h2
 | shape r k ih =>
  intro M K K' Kp vO h h1 h2
  simp only [dV] at h ⊢
  split at h
  ·exact ih _ h h1 h2
  ·exact h.elim
 | freeze a n k ih => intro M K K' Kp vO h h1 h2; simp only [dV] at h ⊢; exact ⟨h.1, h.2.1, ih h.2.2 h1 h2⟩
 | frozen a k ih =>
  intro M K K' Kp vO h h1 h2
  simp only [dV] at h ⊢
  split at h
  ·exact ih _ h h1 h2
  ·exact h.elim
 | getObj r k ih =>
  intro M K K' Kp vO h h1 h2
  simp only [dV] at h ⊢
  split at h
  ·exact h.elim
  ·exact ih _ h h1 h2
  ·exact h.elim
 | setObj r o k ih =>
  intro M K K' Kp vO h h1 h2
  simp only [dV] at h ⊢
  split at h
  ·exact h.elim
  ·exact ih h h1 h2
  ·exact h.elim
 | choose q k ih =>
  intro M K K' Kp vO h h1 h2
  simp only [dV] at h ⊢
  by_cases hq : q.forced = true
  ·simp only [hq, if_true] at h ⊢; exact ih _ h h1 h2
  ·simp only [hq] at h ⊢; exact fun t => ih _ (h t) h1 h2
 | sys c k ih => intro M K K' Kp vO h; exact h.elim
 | program k ih => intro M K K' Kp vO h h1 h2; simp only [dV] at h ⊢; exact ih _ h h1 h2
 | mark m k ih => intro M K K' Kp vO h h1 h2; simp only [dV] at h ⊢; exact ih h h1 h2
 | halt x => intro M K K' Kp vO h h1 h2; cases x <;> first | exact h.elim | exact h2 _ _ h
theorem gq (P : Program) {α β : Type} (s : Sem α) (f : α → Sem β) : ∀ {M : Mem} {K : β → Mem → Prop} {Kp : Value → Mem → Prop},
  dV P s M (fun a M' => dV P (f a) M' K Kp) Kp → dV P (s.bind f) M K Kp := by
 induction s with
 | pure a => intro M K Kp h; exact h
 | load m a k ih =>
  intro M K Kp h
  simp only [dV, Sem.bind] at h ⊢
  split at h
  ·exact ih _ h
  ·exact h.elim
 | store m a v k ih => intro M K Kp h; simp only [dV, Sem.bind] at h ⊢; exact ⟨h.1, h.2.1, ih h.2.2⟩
 | new o k ih => intro M K Kp h; simp only [dV, Sem.bind] at h ⊢; exact fun b hb => ih _ (h b hb)
 | shape r k ih =>
  intro M K Kp h
  simp only [dV, Sem.bind] at h ⊢
  split at h
  ·exact ih _ h
  ·exact h.elim
 | freeze a n k ih => intro M K Kp h; simp only [dV, Sem.bind] at h ⊢; exact ⟨h.1, h.2.1, ih h.2.2⟩
 | frozen a k ih =>
  intro M K Kp h
  simp only [dV, Sem.bind] at h ⊢
  split at h
  ·exact ih _ h
  ·exact h.elim
 | getObj r k ih =>
  intro M K Kp h
  simp only [dV, Sem.bind] at h ⊢
  split at h
  ·exact h.elim
  ·exact ih _ h
  ·exact h.elim
 | setObj r o k ih =>
  intro M K Kp h
  simp only [dV, Sem.bind] at h ⊢
  split at h
  ·exact h.elim
  ·exact ih h
  ·exact h.elim
 | choose q k ih =>
  intro M K Kp h
  simp only [dV, Sem.bind] at h ⊢
  by_cases hq : q.forced = true
  ·simp only [hq, if_true] at h ⊢; exact ih _ h
  ·simp only [hq] at h ⊢; exact fun t => ih _ (h t)
 | sys c k ih => intro M K Kp h; exact h.elim
 | program k ih => intro M K Kp h; simp only [dV, Sem.bind] at h ⊢; exact ih _ h
 | mark m k ih => intro M K Kp h; simp only [dV, Sem.bind] at h ⊢; exact ih h
 | halt x => intro M K Kp h; cases x <;> first | exact h.elim | exact h
end Go.AF
