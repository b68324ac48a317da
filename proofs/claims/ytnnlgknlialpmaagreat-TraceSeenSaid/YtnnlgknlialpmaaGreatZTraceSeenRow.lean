/- A part of proofs about one program. -/
import Derived.Test.YtnnlgknlialpmaaGreatZTraceSeenHp
set_option linter.unusedVariables false
namespace Go.AF
structure hU (α : Type) where
 z : Nat
 f : α → List Value
 len : ∀ a, (f a).length = z
 plain : ∀ a, ∀ v ∈ f a, Value.plainCell v = true
def hU.cells {α : Type} (E : hU α) (l : List α) : List Value := l.flatMap E.f
section
variable {α : Type} {E : hU α}
theorem hU.bX {a : α} {l : List α} : E.cells (a :: l) = E.f a ++ E.cells l := rfl
theorem hU.we {l m : List α} : E.cells (l ++ m) = E.cells l ++ E.cells m := by simp [hU.cells]
theorem hU.dI {l : List α} : (E.cells l).length = l.length * E.z := by
 induction l with
 | nil => simp [hU.cells]
 | cons a l ih => rw [bX, List.length_append, ih, E.len, List.length_cons, Nat.succ_mul]; omega
theorem hU.pJ {l : List α} : ∀ v ∈ E.cells l, Value.plainCell v = true := by
 intro v hv
 obtain ⟨a, _, h⟩ := List.mem_flatMap.1 hv
 exact E.plain a v h
theorem hU.lz : ∀ {l : List α} {k : Nat}, (E.cells l).drop (k * E.z) = E.cells (l.drop k)
 | l, 0 => by simp
 | [], k + 1 => by simp [hU.cells]
 | a :: l, k + 1 => by
  rw [bX, List.drop_succ_cons, List.drop_append, E.len, Nat.succ_mul, show k * E.z + E.z - E.z = k * E.z from by omega, List.drop_of_length_le (by rw [E.len]; omega), List.nil_append]
  exact lz
theorem hU.nK : ∀ {l : List α} {k : Nat}, (E.cells l).take (k * E.z) = E.cells (l.take k)
 | l, 0 => by simp [hU.cells]
 | [], k + 1 => by simp [hU.cells]
 | a :: l, k + 1 => by
  rw [bX, List.take_succ_cons, bX, List.take_append, E.len, Nat.succ_mul, show k * E.z + E.z - E.z = k * E.z from by omega, List.take_of_length_le (by rw [E.len]; omega)]
  rw [nK]
theorem hU.mV {l : List α} {i j : Nat} {a : α} {v : Value} (h : l[i]? = some a) (hv : (E.f a)[j]? = some v) : (E.cells l)[i * E.z + j]? = some v := by
 have hl := (List.getElem?_eq_some_iff.1 h).1
 have e : l.drop i = a :: l.drop (i + 1) := by rw [List.drop_eq_getElem_cons hl, (List.getElem?_eq_some_iff.1 h).2]
 have d := E.lz (l := l) (k := i)
 rw [e, bX] at d
 rw [← List.getElem?_drop, d, List.getElem?_append_left (List.getElem?_eq_some_iff.1 hv).1, hv]
theorem hU.BN : ∀ {l : List α} {i j : Nat} {a b : α} {v : Value}, l[i]? = some a → j < E.z → (E.f a).set j v = E.f b → (E.cells l).set (i * E.z + j) v = E.cells (l.set i b)
 | [], i, j, a, b, v, h, _, _ => by simp at h
 | x :: l, 0, j, a, b, v, h, hj, hb => by
  simp only [List.getElem?_cons_zero, Option.some.injEq] at h
  subst h
  rw [bX, List.set_cons_zero, bX, Nat.zero_mul, Nat.zero_add, List.set_append_left (h := by rw [E.len]; exact hj), hb]
 | x :: l, i + 1, j, a, b, v, h, hj, hb => by
  rw [bX, List.set_cons_succ, bX, List.set_append_right (h := by rw [E.len, Nat.succ_mul]; omega), E.len, Nat.succ_mul, show i * E.z + E.z + j - E.z = i * E.z + j from by omega]
  rw [BN (by simpa using h) hj hb]
theorem hU.kL {a : α} {n : Nat} : E.cells (List.replicate n a) = (List.replicate n (E.f a)).flatten := by
 induction n with
 | zero => rfl
 | succ n ih => rw [List.replicate_succ, bX, ih, List.replicate_succ, List.flatten_cons]
end
def bE {α : Type} (E : hU α) (T : Nat) (A : Option Addr) (c : Nat) (l : List α) : HP := own E.z T A l.length c (E.cells l)
section
variable {α : Type} {E : hU α} {R : Mem} {L L' nJ : List HP} {M : Mem} {T : Nat} {A : Option Addr} {c : Nat} {l r : List α}
theorem Hp.bY (h : Hp R L M) (E : hU α) (T : Nat) : Hp R (bE E T none 0 [] :: L) M := h.PZ _ _
theorem Hp.Mt (h : Hp R (bE E T A c l :: L) M) (k : Nat) : Hp R (bE E T A c (l.take k) :: L) M := by
 rcases Nat.lt_or_ge k l.length with hk | hk
 ·have := h.Mm (m := k) (by omega)
  rw [E.nK] at this
  unfold bE; rw [List.length_take, Nat.min_eq_left (by omega)]; exact this
 ·rw [List.take_of_length_le hk]; exact h
theorem Hp.gW {b : Nat} {cs : List Value} (h : Hp R (pt b cs T :: L) M) (he : cs = E.cells l) : Hp R (bE E T (some ⟨b, 0, none⟩) l.length l :: L) M := by
 subst he; exact h.CU E.dI
theorem Src.at {b o o' i j : Nat} {a : α} {v : Value} (hs : Src R L (some ⟨b, o, none⟩) (E.cells l)) (h : Hp R L M) (hi : l[i]? = some a) (hv : (E.f a)[j]? = some v) (e : o' = o + (i * E.z + j)) : M.ld ⟨b, o', none⟩ = some v :=
 (hs M h).at e (E.mV hi hv)
theorem Src.fK {b o o' i : Nat} {a : α} (hs : Src R L (some ⟨b, o, none⟩) (E.cells l)) (h : Hp R L M) (hi : l[i]? = some a) (e : o' = o + i * E.z) : M.fK ⟨b, o', none⟩ 0 E.z = some (E.f a) := by
 refine (hs M h).fK e ?_ (E.len a)
 have hl := (List.getElem?_eq_some_iff.1 hi).1
 have e : l.drop i = a :: l.drop (i + 1) := by rw [List.drop_eq_getElem_cons hl, (List.getElem?_eq_some_iff.1 hi).2]
 rw [E.lz, e, E.bX, List.take_append, E.len, List.take_of_length_le (by rw [E.len]; exact Nat.le_refl _), Nat.sub_self, List.take_zero, List.append_nil]
theorem Src.g8 {A : Option Addr} (hs : Src R L A (E.cells l)) (h : Hp R L M) (hl : 0 < l.length) (hz : 0 < E.z) : ∃ b o, A = some ⟨b, o, none⟩ := hs.isAt (by rw [E.dI]; exact Nat.mul_pos hl hz) h
theorem Src.drop {A : Option Addr} {m : Nat} (hs : Src R L A (E.cells l)) (hc : l.length ≤ c) : Src R L (lO A m c E.z) (E.cells (l.drop m)) := by
 have := hs.slAt (m := m) (c := c) (z := E.z) (by rw [E.dI]; exact Nat.mul_le_mul_right _ hc)
 rwa [E.lz] at this
theorem Src.Sv {A : Option Addr} (hs : Src R L A (E.cells l)) (k : Nat) : Src R L A (E.cells (l.take k)) := by
 have := hs.take (k * E.z); rwa [E.nK] at this
class cK (A : Option Addr) (L : List HP) (α : outParam Type) (E : outParam (hU α)) (T c : outParam Nat) (l : outParam (List α)) (L' : outParam (List HP)) : Prop where
 pick : dc L (bE E T A c l) L'
instance cK.here : cK A (bE E T A c l :: L) α E T c l L := ⟨.here⟩
instance (priority := low) cK.there {P : HP} [h : cK A L α E T c l L'] : cK A (P :: L) α E T c l (P :: L') := ⟨.there h.pick⟩
class jY (b : Nat) (L : List HP) (cs : outParam (List Value)) (T : outParam Nat) (L' : outParam (List HP)) : Prop where
 pick : dc L (pt b cs T) L'
instance jY.here {b : Nat} {cs : List Value} : jY b (pt b cs T :: L) cs T L := ⟨.here⟩
instance (priority := low) jY.there {b : Nat} {cs : List Value} {P : HP} [h : jY b L cs T L'] : jY b (P :: L) cs T (P :: L') := ⟨.there h.pick⟩
theorem Hp.row (h : Hp R L M) (A : Option Addr) [hp : cK A L α E T c l L'] : Hp R (bE E T A c l :: L') M := h.pick hp.pick
theorem Hp.pt (h : Hp R L M) (b : Nat) {cs : List Value} [hp : jY b L cs T L'] : Hp R (AF.pt b cs T :: L') M := h.pick hp.pick
theorem Hp.src (h : Hp R L M) [hp : cK A L α E T c l L'] : Src R L A (E.cells l) := Src.own hp.pick
theorem Hp.jZ (h : Hp R L M) (A : Option Addr) [hp : cK A L α E T c l L'] : l.length ≤ c := (h.pick hp.pick).cap
theorem Hp.bM (h : Hp R L M) [hp : cK A L α E T c l L'] (hl : 0 < l.length) (hz : 0 < E.z) : ∃ b, A = some ⟨b, 0, none⟩ := by
 obtain ⟨b, e, _⟩ := (h.pick hp.pick).TL (i := 0) (by rw [E.dI]; exact Nat.mul_pos hl hz)
 exact ⟨b, e⟩
theorem iR {b o' : Nat} {a' : α} (i j : Nat) {a : α} {v : Value} {G : Mem → Prop} (h : Hp R L M) [hp : cK (some ⟨b, 0, none⟩) L α E T c l L'] (hi : l[i]? = some a) (hj : j < E.z) (hv : (E.f a).set j v = E.f a') (e : o' = i * E.z + j)
  (k : ∀ M', Hp R (bE E T (some ⟨b, 0, none⟩) c (l.set i a') :: L') M' → G M') : aM M ⟨b, o', none⟩ v G := by
 subst e
 have hl := (List.getElem?_eq_some_iff.1 hi).1
 have hlt : i * E.z + j < (E.cells l).length := by
  rw [E.dI]
  have : (i + 1) * E.z ≤ l.length * E.z := Nat.mul_le_mul_right _ hl
  rw [Nat.succ_mul] at this; omega
 refine JW h hp.pick hlt fun M' h' => k M' ?_
 unfold bE
 rw [List.length_set, ← E.BN hi hj hv]
 exact h'
theorem Hp.JY {P : Program} {t bytes ty d m : Nat} {zero : List Value} {B : Option Addr} {K : Value → Mem → Prop} {Kp : List PanicEntry → Mem → Prop}
  (h : Hp R L M) [ha : cK A L α E T c l L'] (El : bj P t T E.z bytes zero) (hr : Src R L B (E.cells r)) (hm : m = r.length) (hb : (l.length + r.length) * bytes ≤ 140737488355328)
  (g : ∀ A' c' M', Hp R (bE E T A' c' (l ++ r) :: L') M' → K (.slice A' (l ++ r).length c') M') :
  bk P (Builtin.append_ #[t, t] ty #[.slice A l.length c, .slice B m d]) M K Kp := by
 subst hm
 refine h.P4 ha.pick El hr E.dI E.pJ hb fun A' c' M' h => ?_
 have := g A' c' M' (by unfold bE; rw [List.length_append, E.we]; exact h)
 rwa [List.length_append] at this
theorem Hp.aT {P : Program} {t bytes ty k d m : Nat} {zero rc : List Value} {K : Value → Mem → Prop} {Kp : List PanicEntry → Mem → Prop}
  (h : Hp R L M) [ha : cK A L α E T c l L'] [hk : jY k L' rc T nJ] (El : bj P t T E.z bytes zero) (r : List α) (he : rc = E.cells r) (hm : m = r.length) (hb : (l.length + r.length) * bytes ≤ 140737488355328)
  (g : ∀ A' c' M', Hp R (bE E T A' c' (l ++ r) :: nJ) M' → K (.slice A' (l ++ r).length c') M') :
  bk P (Builtin.append_ #[t, t] ty #[.slice A l.length c, .slice (some ⟨k, 0, none⟩) m d]) M K Kp := by
 subst hm; subst he
 refine h.P3 ha.pick hk.pick El E.dI E.pJ hb fun A' c' M' h => ?_
 have := g A' c' M' (by unfold bE; rw [List.length_append, E.we]; exact h)
 rwa [List.length_append] at this
theorem Hp.lY {P : Program} {t bytes ty k d m : Nat} {zero : List Value} {B : Option Addr} {K : Value → Mem → Prop} {Kp : List PanicEntry → Mem → Prop} (E : hU α)
  (h : Hp R L M) [hk : jY k L [] T L'] (El : bj P t T E.z bytes zero) (r : List α) (hr : Src R L B (E.cells r)) (hm : m = r.length) (hb : r.length * bytes ≤ 140737488355328)
  (g : ∀ A' c' M', Hp R (bE E T A' c' r :: L') M' → K (.slice A' r.length c') M') :
  bk P (Builtin.append_ #[t, t] ty #[.slice (some ⟨k, 0, none⟩) 0 0, .slice B m d]) M K Kp := by
 subst hm
 exact h.copy hk.pick El hr E.dI E.pJ hb g
theorem Hp.yH {P : Program} {t bytes n : Nat} {a : α} {K : Value → Mem → Prop} {Kp : List PanicEntry → Mem → Prop}
  (h : Hp R L M) (El : bj P t T E.z bytes (E.f a)) (hb : n * bytes ≤ 140737488355328)
  (k : ∀ b M', Hp R (bE E T (some ⟨b, 0, none⟩) n (List.replicate n a) :: L) M' → K (.slice (some ⟨b, 0, none⟩) n n) M') :
  bk P (Instr.makeSlice t (.int .i64 (n : Int)) (.int .i64 (n : Int))) M K Kp := by
 refine h.make El hb fun b M' h => k b M' ?_
 unfold bE
 rw [List.length_replicate, E.kL]
 exact h
def RS {α : Type} (E : hU α) (R : Mem) (A : Option Addr) (c : Nat) (l : List α) : Prop := Sl R A (E.cells l) ∧ l.length ≤ c
theorem RS.le {R R' : Mem} (h : RS E R A c l) (hle : R.le R') : RS E R' A c l := ⟨h.1.le hle, h.2⟩
theorem RS.src (h : RS E R A c l) : Src R L A (E.cells l) := Src.ro h.1
theorem RS.nil (E : hU α) (R : Mem) : RS E R none 0 [] := ⟨rfl, Nat.le_refl _⟩
theorem RS.take (h : RS E R A c l) (k : Nat) : RS E R A c (l.take k) := ⟨by have := h.1.take (k * E.z); rwa [E.nK] at this, Nat.le_trans (List.length_take_le' ..) h.2⟩
theorem RS.drop (h : RS E R A c l) (m : Nat) (hm : m ≤ c) : RS E R (lO A m c E.z) (c - m) (l.drop m) := ⟨by
 have := h.1.XR (m := m) (c := c) (z := E.z) (by rw [E.dI]; exact Nat.mul_le_mul_right _ h.2)
 rwa [E.lz] at this, by rw [List.length_drop]; have := h.2; omega⟩
theorem Hp.cW (h : Hp R L M) (A : Option Addr) [hp : cK A L α E T c l L'] : ∃ R', R.le R' ∧ RS E R' A c l ∧ Hp R' L' M := by
 have h2 := h.pick hp.pick
 obtain ⟨R', h3, h4, h5⟩ := h2.Mp
 exact ⟨R', h3, ⟨h4, h2.cap⟩, h5⟩
theorem RS.some (h : RS E R A c l) (hl : 0 < l.length) (hz : 0 < E.z) : ∃ b o, A = some ⟨b, o, none⟩ := by
 obtain ⟨b, o, e⟩ := h.1.Su (by rw [E.dI]; exact Nat.mul_pos hl hz); exact ⟨b, o, e⟩
structure tj (α : Type) where
 p : Nat → α → HP
def ay (r : tj α) (b : Nat) (x : α) : HP := r.p b x
class cq (r : tj α) (b : Nat) (L : List HP) (x : outParam α) (L' : outParam (List HP)) : Prop where
 pick : dc L (ay r b x) L'
instance cq.here {r : tj α} {b : Nat} {x : α} : cq r b (ay r b x :: L) x L := ⟨.here⟩
instance (priority := low) cq.there {r : tj α} {b : Nat} {x : α} {P : HP} [h : cq r b L x L'] : cq r b (P :: L) x (P :: L') := ⟨.there h.pick⟩
theorem Hp.obj (h : Hp R L M) (r : tj α) (b : Nat) {x : α} [hp : cq r b L x L'] : Hp R (r.p b x :: L') M := h.pick hp.pick
theorem Hp.front (h : Hp R L M) (r : tj α) (b : Nat) {x : α} [hp : cq r b L x L'] : Hp R (ay r b x :: L') M := h.pick hp.pick
theorem Hp.wg {r : tj α} {b : Nat} {x : α} (h : Hp R (r.p b x :: L) M) : Hp R (ay r b x :: L) M := h
end
inductive Sub : List HP → List HP → Prop
 | refl {L : List HP} : Sub L L
 | cons {P : HP} {L L' T : List HP} : dc L P L' → Sub L' T → Sub L (P :: T)
 | drop {P : HP} {L T : List HP} : Sub L T → Sub (P :: L) T
theorem b6.sub {L T : List HP} (hs : Sub L T) : ∀ A, b6 L A → b6 T A := by
 induction hs with
 | refl => exact fun _ h => h
 | cons hp _ ih => exact fun A h => (b6.pick hp h).tail ih
 | drop _ ih => exact fun A h => ih A h.drop
theorem Hp.sub {R : Mem} {L T : List HP} {M : Mem} (h : Hp R L M) (hs : Sub L T) : Hp R T M := h.map (b6.sub hs)
theorem Src.sub {R : Mem} {L T : List HP} {A : Option Addr} {l : List Value} (h : Src R T A l) (hs : Sub L T) : Src R L A l := fun M hM => h M (hM.sub hs)
class Drop (L T : List HP) : Prop where
 sub : Sub L T
instance (priority := high) Drop.refl {L : List HP} : Drop L L := ⟨.refl⟩
instance Drop.keep {P : HP} {L T : List HP} [h : Drop L T] : Drop (P :: L) (P :: T) := ⟨.cons .here h.sub⟩
instance (priority := low) Drop.drop {P : HP} {L T : List HP} [h : Drop L T] : Drop (P :: L) T := ⟨.drop h.sub⟩
theorem Hp.wh {R : Mem} {L T : List HP} {M : Mem} (h : Hp R L M) [d : Drop L T] : Hp R T M := h.sub d.sub
theorem Hp.b7 {R : Mem} {P : HP} {L T : List HP} {M : Mem} (h : Hp R (P :: L) M) [d : Drop L T] : Hp R (P :: T) M := h.map fun _ hs => hs.tail (b6.sub d.sub)
def bl : hU Int := ⟨1, fun n => [.int .i64 n], fun _ => rfl, fun _ v hv => by simp at hv; subst hv; rfl⟩
def AR : hU Int := ⟨1, fun n => [.int .u64 n], fun _ => rfl, fun _ v hv => by simp at hv; subst hv; rfl⟩
def mB : hU Nat := ⟨1, fun b => [.pointer (some ⟨b, 0, none⟩)], fun _ => rfl, fun _ v hv => by simp at hv; subst hv; rfl⟩
theorem eo {α : Type} {l : List α} {i : Nat} {w : α} (h : l[i]? = some w) : l.take (i + 1) = l.take i ++ [w] := by rw [List.take_add_one, h]; rfl
theorem aU {α : Type} {l : List α} {i : Nat} (h : i < l.length) : ∃ w, l[i]? = some w := ⟨l[i], List.getElem?_eq_getElem h⟩
attribute [irreducible] bE ay
end Go.AF
