/- A part of proofs about one program. -/
import Derived.Test.YtnnlgknlialpmaaGreatZReplayToldHp
set_option linter.unusedVariables false
namespace Go.AF
structure gi (α : Type) where
 z : Nat
 f : α → List Value
 len : ∀ a, (f a).length = z
 plain : ∀ a, ∀ v ∈ f a, Value.plainCell v = true
def gi.cells {α : Type} (E : gi α) (l : List α) : List Value := l.flatMap E.f
section
variable {α : Type} {E : gi α}
theorem gi.bN {a : α} {l : List α} : E.cells (a :: l) = E.f a ++ E.cells l := rfl
theorem gi.mX {l m : List α} : E.cells (l ++ m) = E.cells l ++ E.cells m := by simp [gi.cells]
theorem gi.cG {l : List α} : (E.cells l).length = l.length * E.z := by
 induction l with
 | nil => simp [gi.cells]
 | cons a l ih => rw [bN, List.length_append, ih, E.len, List.length_cons, Nat.succ_mul]; omega
theorem gi.jb {l : List α} : ∀ v ∈ E.cells l, Value.plainCell v = true := by
 intro v hv
 obtain ⟨a, _, h⟩ := List.mem_flatMap.1 hv
 exact E.plain a v h
theorem gi.iE : ∀ {l : List α} {k : Nat}, (E.cells l).drop (k * E.z) = E.cells (l.drop k)
 | l, 0 => by simp
 | [], k + 1 => by simp [gi.cells]
 | a :: l, k + 1 => by
  rw [bN, List.drop_succ_cons, List.drop_append, E.len, Nat.succ_mul, show k * E.z + E.z - E.z = k * E.z from by omega, List.drop_of_length_le (by rw [E.len]; omega), List.nil_append]
  exact iE
theorem gi.kf : ∀ {l : List α} {k : Nat}, (E.cells l).take (k * E.z) = E.cells (l.take k)
 | l, 0 => by simp [gi.cells]
 | [], k + 1 => by simp [gi.cells]
 | a :: l, k + 1 => by
  rw [bN, List.take_succ_cons, bN, List.take_append, E.len, Nat.succ_mul, show k * E.z + E.z - E.z = k * E.z from by omega, List.take_of_length_le (by rw [E.len]; omega)]
  rw [kf]
theorem gi.lX {l : List α} {i j : Nat} {a : α} {v : Value} (h : l[i]? = some a) (hv : (E.f a)[j]? = some v) : (E.cells l)[i * E.z + j]? = some v := by
 have hl := (List.getElem?_eq_some_iff.1 h).1
 have e : l.drop i = a :: l.drop (i + 1) := by rw [List.drop_eq_getElem_cons hl, (List.getElem?_eq_some_iff.1 h).2]
 have d := E.iE (l := l) (k := i)
 rw [e, bN] at d
 rw [← List.getElem?_drop, d, List.getElem?_append_left (List.getElem?_eq_some_iff.1 hv).1, hv]
theorem gi.xM : ∀ {l : List α} {i j : Nat} {a b : α} {v : Value}, l[i]? = some a → j < E.z → (E.f a).set j v = E.f b → (E.cells l).set (i * E.z + j) v = E.cells (l.set i b)
 | [], i, j, a, b, v, h, _, _ => by simp at h
 | x :: l, 0, j, a, b, v, h, hj, hb => by
  simp only [List.getElem?_cons_zero, Option.some.injEq] at h
  subst h
  rw [bN, List.set_cons_zero, bN, Nat.zero_mul, Nat.zero_add, List.set_append_left (h := by rw [E.len]; exact hj), hb]
 | x :: l, i + 1, j, a, b, v, h, hj, hb => by
  rw [bN, List.set_cons_succ, bN, List.set_append_right (h := by rw [E.len, Nat.succ_mul]; omega), E.len, Nat.succ_mul, show i * E.z + E.z + j - E.z = i * E.z + j from by omega]
  rw [xM (by simpa using h) hj hb]
theorem gi.ia {a : α} {n : Nat} : E.cells (List.replicate n a) = (List.replicate n (E.f a)).flatten := by
 induction n with
 | zero => rfl
 | succ n ih => rw [List.replicate_succ, bN, ih, List.replicate_succ, List.flatten_cons]
end
def b8 {α : Type} (E : gi α) (T : Nat) (A : Option Addr) (c : Nat) (l : List α) : HP := own E.z T A l.length c (E.cells l)
section
variable {α : Type} {E : gi α} {R : Mem} {L L' kN : List HP} {M : Mem} {T : Nat} {A : Option Addr} {c : Nat} {l r : List α}
theorem Hp.ck (h : Hp R L M) (E : gi α) (T : Nat) : Hp R (b8 E T none 0 [] :: L) M := h.JW _ _
theorem Hp.G4 (h : Hp R (b8 E T A c l :: L) M) (k : Nat) : Hp R (b8 E T A c (l.take k) :: L) M := by
 rcases Nat.lt_or_ge k l.length with hk | hk
 ·have := h.GX (m := k) (by omega)
  rw [E.kf] at this
  unfold b8; rw [List.length_take, Nat.min_eq_left (by omega)]; exact this
 ·rw [List.take_of_length_le hk]; exact h
theorem Hp.oG {b : Nat} {cs : List Value} (h : Hp R (pt b cs T :: L) M) (he : cs = E.cells l) : Hp R (b8 E T (some ⟨b, 0, none⟩) l.length l :: L) M := by
 subst he; exact h.yH E.cG
theorem Src.at {b o o' i j : Nat} {a : α} {v : Value} (hs : Src R L (some ⟨b, o, none⟩) (E.cells l)) (h : Hp R L M) (hi : l[i]? = some a) (hv : (E.f a)[j]? = some v) (e : o' = o + (i * E.z + j)) : M.ld ⟨b, o', none⟩ = some v :=
 (hs M h).at e (E.lX hi hv)
theorem Src.dP {b o o' i : Nat} {a : α} (hs : Src R L (some ⟨b, o, none⟩) (E.cells l)) (h : Hp R L M) (hi : l[i]? = some a) (e : o' = o + i * E.z) : M.dP ⟨b, o', none⟩ 0 E.z = some (E.f a) := by
 refine (hs M h).dP e ?_ (E.len a)
 have hl := (List.getElem?_eq_some_iff.1 hi).1
 have e : l.drop i = a :: l.drop (i + 1) := by rw [List.drop_eq_getElem_cons hl, (List.getElem?_eq_some_iff.1 hi).2]
 rw [E.iE, e, E.bN, List.take_append, E.len, List.take_of_length_le (by rw [E.len]; exact Nat.le_refl _), Nat.sub_self, List.take_zero, List.append_nil]
theorem Src.fa {A : Option Addr} (hs : Src R L A (E.cells l)) (h : Hp R L M) (hl : 0 < l.length) (hz : 0 < E.z) : ∃ b o, A = some ⟨b, o, none⟩ := hs.Tu (by rw [E.cG]; exact Nat.mul_pos hl hz) h
theorem Src.drop {A : Option Addr} {m : Nat} (hs : Src R L A (E.cells l)) (hc : l.length ≤ c) : Src R L (iO A m c E.z) (E.cells (l.drop m)) := by
 have := hs.Tt (m := m) (c := c) (z := E.z) (by rw [E.cG]; exact Nat.mul_le_mul_right _ hc)
 rwa [E.iE] at this
theorem Src.Ly {A : Option Addr} (hs : Src R L A (E.cells l)) (k : Nat) : Src R L A (E.cells (l.take k)) := by
 have := hs.take (k * E.z); rwa [E.kf] at this
class bZ (A : Option Addr) (L : List HP) (α : outParam Type) (E : outParam (gi α)) (T c : outParam Nat) (l : outParam (List α)) (L' : outParam (List HP)) : Prop where
 pick : cv L (b8 E T A c l) L'
instance bZ.here : bZ A (b8 E T A c l :: L) α E T c l L := ⟨.here⟩
instance (priority := low) bZ.there {P : HP} [h : bZ A L α E T c l L'] : bZ A (P :: L) α E T c l (P :: L') := ⟨.there h.pick⟩
class iF (b : Nat) (L : List HP) (cs : outParam (List Value)) (T : outParam Nat) (L' : outParam (List HP)) : Prop where
 pick : cv L (pt b cs T) L'
instance iF.here {b : Nat} {cs : List Value} : iF b (pt b cs T :: L) cs T L := ⟨.here⟩
instance (priority := low) iF.there {b : Nat} {cs : List Value} {P : HP} [h : iF b L cs T L'] : iF b (P :: L) cs T (P :: L') := ⟨.there h.pick⟩
theorem Hp.row (h : Hp R L M) (A : Option Addr) [hp : bZ A L α E T c l L'] : Hp R (b8 E T A c l :: L') M := h.pick hp.pick
theorem Hp.pt (h : Hp R L M) (b : Nat) {cs : List Value} [hp : iF b L cs T L'] : Hp R (AF.pt b cs T :: L') M := h.pick hp.pick
theorem Hp.src (h : Hp R L M) [hp : bZ A L α E T c l L'] : Src R L A (E.cells l) := Src.own hp.pick
theorem Hp.gT (h : Hp R L M) (A : Option Addr) [hp : bZ A L α E T c l L'] : l.length ≤ c := (h.pick hp.pick).cap
theorem Hp.bj (h : Hp R L M) [hp : bZ A L α E T c l L'] (hl : 0 < l.length) (hz : 0 < E.z) : ∃ b, A = some ⟨b, 0, none⟩ := by
 obtain ⟨b, e, _⟩ := (h.pick hp.pick).MR (i := 0) (by rw [E.cG]; exact Nat.mul_pos hl hz)
 exact ⟨b, e⟩
theorem gp {b o' : Nat} {a' : α} (i j : Nat) {a : α} {v : Value} {G : Mem → Prop} (h : Hp R L M) [hp : bZ (some ⟨b, 0, none⟩) L α E T c l L'] (hi : l[i]? = some a) (hj : j < E.z) (hv : (E.f a).set j v = E.f a') (e : o' = i * E.z + j)
  (k : ∀ M', Hp R (b8 E T (some ⟨b, 0, none⟩) c (l.set i a') :: L') M' → G M') : aF M ⟨b, o', none⟩ v G := by
 subst e
 have hl := (List.getElem?_eq_some_iff.1 hi).1
 have hlt : i * E.z + j < (E.cells l).length := by
  rw [E.cG]
  have : (i + 1) * E.z ≤ l.length * E.z := Nat.mul_le_mul_right _ hl
  rw [Nat.succ_mul] at this; omega
 refine EV h hp.pick hlt fun M' h' => k M' ?_
 unfold b8
 rw [List.length_set, ← E.xM hi hj hv]
 exact h'
theorem Hp.EX {P : Program} {t bytes ty d m : Nat} {zero : List Value} {B : Option Addr} {K : Value → Mem → Prop} {Kp : List PanicEntry → Mem → Prop}
  (h : Hp R L M) [ha : bZ A L α E T c l L'] (El : bn P t T E.z bytes zero) (hr : Src R L B (E.cells r)) (hm : m = r.length) (hb : (l.length + r.length) * bytes ≤ 140737488355328)
  (g : ∀ A' c' M', Hp R (b8 E T A' c' (l ++ r) :: L') M' → K (.slice A' (l ++ r).length c') M') :
  bh P (Builtin.append_ #[t, t] ty #[.slice A l.length c, .slice B m d]) M K Kp := by
 subst hm
 refine h.J0 ha.pick El hr E.cG E.jb hb fun A' c' M' h => ?_
 have := g A' c' M' (by unfold b8; rw [List.length_append, E.mX]; exact h)
 rwa [List.length_append] at this
theorem Hp.bu {P : Program} {t bytes ty k d m : Nat} {zero rc : List Value} {K : Value → Mem → Prop} {Kp : List PanicEntry → Mem → Prop}
  (h : Hp R L M) [ha : bZ A L α E T c l L'] [hk : iF k L' rc T kN] (El : bn P t T E.z bytes zero) (r : List α) (he : rc = E.cells r) (hm : m = r.length) (hb : (l.length + r.length) * bytes ≤ 140737488355328)
  (g : ∀ A' c' M', Hp R (b8 E T A' c' (l ++ r) :: kN) M' → K (.slice A' (l ++ r).length c') M') :
  bh P (Builtin.append_ #[t, t] ty #[.slice A l.length c, .slice (some ⟨k, 0, none⟩) m d]) M K Kp := by
 subst hm; subst he
 refine h.JZ ha.pick hk.pick El E.cG E.jb hb fun A' c' M' h => ?_
 have := g A' c' M' (by unfold b8; rw [List.length_append, E.mX]; exact h)
 rwa [List.length_append] at this
theorem Hp.jc {P : Program} {t bytes ty k d m : Nat} {zero : List Value} {B : Option Addr} {K : Value → Mem → Prop} {Kp : List PanicEntry → Mem → Prop} (E : gi α)
  (h : Hp R L M) [hk : iF k L [] T L'] (El : bn P t T E.z bytes zero) (r : List α) (hr : Src R L B (E.cells r)) (hm : m = r.length) (hb : r.length * bytes ≤ 140737488355328)
  (g : ∀ A' c' M', Hp R (b8 E T A' c' r :: L') M' → K (.slice A' r.length c') M') :
  bh P (Builtin.append_ #[t, t] ty #[.slice (some ⟨k, 0, none⟩) 0 0, .slice B m d]) M K Kp := by
 subst hm
 exact h.copy hk.pick El hr E.cG E.jb hb g
theorem Hp.J1 {P : Program} {t bytes n : Nat} {a : α} {K : Value → Mem → Prop} {Kp : List PanicEntry → Mem → Prop}
  (h : Hp R L M) (El : bn P t T E.z bytes (E.f a)) (hb : n * bytes ≤ 140737488355328)
  (k : ∀ b M', Hp R (b8 E T (some ⟨b, 0, none⟩) n (List.replicate n a) :: L) M' → K (.slice (some ⟨b, 0, none⟩) n n) M') :
  bh P (Instr.makeSlice t (.int .i64 (n : Int)) (.int .i64 (n : Int))) M K Kp := by
 refine h.make El hb fun b M' h => k b M' ?_
 unfold b8
 rw [List.length_replicate, E.ia]
 exact h
def RS {α : Type} (E : gi α) (R : Mem) (A : Option Addr) (c : Nat) (l : List α) : Prop := Sl R A (E.cells l) ∧ l.length ≤ c
theorem RS.le {R R' : Mem} (h : RS E R A c l) (hle : R.le R') : RS E R' A c l := ⟨h.1.le hle, h.2⟩
theorem RS.src (h : RS E R A c l) : Src R L A (E.cells l) := Src.ro h.1
theorem RS.nil (E : gi α) (R : Mem) : RS E R none 0 [] := ⟨rfl, Nat.le_refl _⟩
theorem RS.take (h : RS E R A c l) (k : Nat) : RS E R A c (l.take k) := ⟨by have := h.1.take (k * E.z); rwa [E.kf] at this, Nat.le_trans (List.length_take_le' ..) h.2⟩
theorem RS.drop (h : RS E R A c l) (m : Nat) (hm : m ≤ c) : RS E R (iO A m c E.z) (c - m) (l.drop m) := ⟨by
 have := h.1.Qo (m := m) (c := c) (z := E.z) (by rw [E.cG]; exact Nat.mul_le_mul_right _ h.2)
 rwa [E.iE] at this, by rw [List.length_drop]; have := h.2; omega⟩
theorem Hp.tX (h : Hp R L M) (A : Option Addr) [hp : bZ A L α E T c l L'] : ∃ R', R.le R' ∧ RS E R' A c l ∧ Hp R' L' M := by
 have h2 := h.pick hp.pick
 obtain ⟨R', h3, h4, h5⟩ := h2.G1
 exact ⟨R', h3, ⟨h4, h2.cap⟩, h5⟩
theorem RS.some (h : RS E R A c l) (hl : 0 < l.length) (hz : 0 < E.z) : ∃ b o, A = some ⟨b, o, none⟩ := by
 obtain ⟨b, o, e⟩ := h.1.Lx (by rw [E.cG]; exact Nat.mul_pos hl hz); exact ⟨b, o, e⟩
structure pE (α : Type) where
 p : Nat → α → HP
def ax (r : pE α) (b : Nat) (x : α) : HP := r.p b x
class bO (r : pE α) (b : Nat) (L : List HP) (x : outParam α) (L' : outParam (List HP)) : Prop where
 pick : cv L (ax r b x) L'
instance bO.here {r : pE α} {b : Nat} {x : α} : bO r b (ax r b x :: L) x L := ⟨.here⟩
instance (priority := low) bO.there {r : pE α} {b : Nat} {x : α} {P : HP} [h : bO r b L x L'] : bO r b (P :: L) x (P :: L') := ⟨.there h.pick⟩
theorem Hp.obj (h : Hp R L M) (r : pE α) (b : Nat) {x : α} [hp : bO r b L x L'] : Hp R (r.p b x :: L') M := h.pick hp.pick
theorem Hp.front (h : Hp R L M) (r : pE α) (b : Nat) {x : α} [hp : bO r b L x L'] : Hp R (ax r b x :: L') M := h.pick hp.pick
theorem Hp.tu {r : pE α} {b : Nat} {x : α} (h : Hp R (r.p b x :: L) M) : Hp R (ax r b x :: L) M := h
end
inductive Sub : List HP → List HP → Prop
 | refl {L : List HP} : Sub L L
 | cons {P : HP} {L L' T : List HP} : cv L P L' → Sub L' T → Sub L (P :: T)
 | drop {P : HP} {L T : List HP} : Sub L T → Sub (P :: L) T
theorem bF.sub {L T : List HP} (hs : Sub L T) : ∀ A, bF L A → bF T A := by
 induction hs with
 | refl => exact fun _ h => h
 | cons hp _ ih => exact fun A h => (bF.pick hp h).tail ih
 | drop _ ih => exact fun A h => ih A h.drop
theorem Hp.sub {R : Mem} {L T : List HP} {M : Mem} (h : Hp R L M) (hs : Sub L T) : Hp R T M := h.map (bF.sub hs)
theorem Src.sub {R : Mem} {L T : List HP} {A : Option Addr} {l : List Value} (h : Src R T A l) (hs : Sub L T) : Src R L A l := fun M hM => h M (hM.sub hs)
class Drop (L T : List HP) : Prop where
 sub : Sub L T
instance (priority := high) Drop.refl {L : List HP} : Drop L L := ⟨.refl⟩
instance Drop.keep {P : HP} {L T : List HP} [h : Drop L T] : Drop (P :: L) (P :: T) := ⟨.cons .here h.sub⟩
instance (priority := low) Drop.drop {P : HP} {L T : List HP} [h : Drop L T] : Drop (P :: L) T := ⟨.drop h.sub⟩
theorem Hp.gk {R : Mem} {L T : List HP} {M : Mem} (h : Hp R L M) [d : Drop L T] : Hp R T M := h.sub d.sub
theorem Hp.bH {R : Mem} {P : HP} {L T : List HP} {M : Mem} (h : Hp R (P :: L) M) [d : Drop L T] : Hp R (P :: T) M := h.map fun _ hs => hs.tail (bF.sub d.sub)
def bq : gi Int := ⟨1, fun n => [.int .i64 n], fun _ => rfl, fun _ v hv => by simp at hv; subst hv; rfl⟩
def G5 : gi Int := ⟨1, fun n => [.int .u64 n], fun _ => rfl, fun _ v hv => by simp at hv; subst hv; rfl⟩
def iU : gi Int := ⟨1, fun n => [.int .u32 n], fun _ => rfl, fun _ v hv => by simp at hv; subst hv; rfl⟩
def js : gi Nat := ⟨1, fun b => [.pointer (some ⟨b, 0, none⟩)], fun _ => rfl, fun _ v hv => by simp at hv; subst hv; rfl⟩
theorem c5 {α : Type} {l : List α} {i : Nat} {w : α} (h : l[i]? = some w) : l.take (i + 1) = l.take i ++ [w] := by rw [List.take_add_one, h]; rfl
theorem aL {α : Type} {l : List α} {i : Nat} (h : i < l.length) : ∃ w, l[i]? = some w := ⟨l[i], List.getElem?_eq_getElem h⟩
attribute [irreducible] b8 ax
end Go.AF
