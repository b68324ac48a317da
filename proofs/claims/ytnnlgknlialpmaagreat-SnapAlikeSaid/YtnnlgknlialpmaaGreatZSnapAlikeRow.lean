/- A part of proofs about one program. -/
import Derived.Test.YtnnlgknlialpmaaGreatZSnapAlikeHp
set_option linter.unusedVariables false
namespace Go.AF
structure fO (α : Type) where
 z : Nat
 f : α → List Value
 len : ∀ a, (f a).length = z
 plain : ∀ a, ∀ v ∈ f a, Value.plainCell v = true
def fO.cells {α : Type} (E : fO α) (l : List α) : List Value := l.flatMap E.f
section
variable {α : Type} {E : fO α}
theorem fO.bZ {a : α} {l : List α} : E.cells (a :: l) = E.f a ++ E.cells l := rfl
theorem fO.nt {l m : List α} : E.cells (l ++ m) = E.cells l ++ E.cells m := by simp [fO.cells]
theorem fO.cj {l : List α} : (E.cells l).length = l.length * E.z := by
 induction l with
 | nil => simp [fO.cells]
 | cons a l ih => rw [bZ, List.length_append, ih, E.len, List.length_cons, Nat.succ_mul]; omega
theorem fO.iK {l : List α} : ∀ v ∈ E.cells l, Value.plainCell v = true := by
 intro v hv
 obtain ⟨a, _, h⟩ := List.mem_flatMap.1 hv
 exact E.plain a v h
theorem fO.lS : ∀ {l : List α} {k : Nat}, (E.cells l).drop (k * E.z) = E.cells (l.drop k)
 | l, 0 => by simp
 | [], k + 1 => by simp [fO.cells]
 | a :: l, k + 1 => by
  rw [bZ, List.drop_succ_cons, List.drop_append, E.len, Nat.succ_mul, show k * E.z + E.z - E.z = k * E.z from by omega, List.drop_of_length_le (by rw [E.len]; omega), List.nil_append]
  exact lS
theorem fO.ox : ∀ {l : List α} {k : Nat}, (E.cells l).take (k * E.z) = E.cells (l.take k)
 | l, 0 => by simp [fO.cells]
 | [], k + 1 => by simp [fO.cells]
 | a :: l, k + 1 => by
  rw [bZ, List.take_succ_cons, bZ, List.take_append, E.len, Nat.succ_mul, show k * E.z + E.z - E.z = k * E.z from by omega, List.take_of_length_le (by rw [E.len]; omega)]
  rw [ox]
theorem fO.iY {l : List α} {i j : Nat} {a : α} {v : Value} (h : l[i]? = some a) (hv : (E.f a)[j]? = some v) : (E.cells l)[i * E.z + j]? = some v := by
 have hl := (List.getElem?_eq_some_iff.1 h).1
 have e : l.drop i = a :: l.drop (i + 1) := by rw [List.drop_eq_getElem_cons hl, (List.getElem?_eq_some_iff.1 h).2]
 have d := E.lS (l := l) (k := i)
 rw [e, bZ] at d
 rw [← List.getElem?_drop, d, List.getElem?_append_left (List.getElem?_eq_some_iff.1 hv).1, hv]
theorem fO.Da : ∀ {l : List α} {i j : Nat} {a b : α} {v : Value}, l[i]? = some a → j < E.z → (E.f a).set j v = E.f b → (E.cells l).set (i * E.z + j) v = E.cells (l.set i b)
 | [], i, j, a, b, v, h, _, _ => by simp at h
 | x :: l, 0, j, a, b, v, h, hj, hb => by
  simp only [List.getElem?_cons_zero, Option.some.injEq] at h
  subst h
  rw [bZ, List.set_cons_zero, bZ, Nat.zero_mul, Nat.zero_add, List.set_append_left (h := by rw [E.len]; exact hj), hb]
 | x :: l, i + 1, j, a, b, v, h, hj, hb => by
  rw [bZ, List.set_cons_succ, bZ, List.set_append_right (h := by rw [E.len, Nat.succ_mul]; omega), E.len, Nat.succ_mul, show i * E.z + E.z + j - E.z = i * E.z + j from by omega]
  rw [Da (by simpa using h) hj hb]
theorem fO.lC {a : α} {n : Nat} : E.cells (List.replicate n a) = (List.replicate n (E.f a)).flatten := by
 induction n with
 | zero => rfl
 | succ n ih => rw [List.replicate_succ, bZ, ih, List.replicate_succ, List.flatten_cons]
end
def bE {α : Type} (E : fO α) (T : Nat) (A : Option Addr) (c : Nat) (l : List α) : HP := own E.z T A l.length c (E.cells l)
section
variable {α : Type} {E : fO α} {R : Mem} {L L' nY : List HP} {M : Mem} {T : Nat} {A : Option Addr} {c : Nat} {l r : List α}
theorem Hp.bP (h : Hp R L M) (E : fO α) (T : Nat) : Hp R (bE E T none 0 [] :: L) M := h.Sw _ _
theorem Hp.OY (h : Hp R (bE E T A c l :: L) M) (k : Nat) : Hp R (bE E T A c (l.take k) :: L) M := by
 rcases Nat.lt_or_ge k l.length with hk | hk
 ·have := h.OR (m := k) (by omega)
  rw [E.ox] at this
  unfold bE; rw [List.length_take, Nat.min_eq_left (by omega)]; exact this
 ·rw [List.take_of_length_le hk]; exact h
theorem Hp.fQ {b : Nat} {cs : List Value} (h : Hp R (pt b cs T :: L) M) (he : cs = E.cells l) : Hp R (bE E T (some ⟨b, 0, none⟩) l.length l :: L) M := by
 subst he; exact h.Ee E.cj
theorem Src.at {b o o' i j : Nat} {a : α} {v : Value} (hs : Src R L (some ⟨b, o, none⟩) (E.cells l)) (h : Hp R L M) (hi : l[i]? = some a) (hv : (E.f a)[j]? = some v) (e : o' = o + (i * E.z + j)) : M.ld ⟨b, o', none⟩ = some v :=
 (hs M h).at e (E.iY hi hv)
theorem Src.fN {b o o' i : Nat} {a : α} (hs : Src R L (some ⟨b, o, none⟩) (E.cells l)) (h : Hp R L M) (hi : l[i]? = some a) (e : o' = o + i * E.z) : M.fN ⟨b, o', none⟩ 0 E.z = some (E.f a) := by
 refine (hs M h).fN e ?_ (E.len a)
 have hl := (List.getElem?_eq_some_iff.1 hi).1
 have e : l.drop i = a :: l.drop (i + 1) := by rw [List.drop_eq_getElem_cons hl, (List.getElem?_eq_some_iff.1 hi).2]
 rw [E.lS, e, E.bZ, List.take_append, E.len, List.take_of_length_le (by rw [E.len]; exact Nat.le_refl _), Nat.sub_self, List.take_zero, List.append_nil]
theorem Src.gD {A : Option Addr} (hs : Src R L A (E.cells l)) (h : Hp R L M) (hl : 0 < l.length) (hz : 0 < E.z) : ∃ b o, A = some ⟨b, o, none⟩ := hs.isAt (by rw [E.cj]; exact Nat.mul_pos hl hz) h
theorem Src.drop {A : Option Addr} {m : Nat} (hs : Src R L A (E.cells l)) (hc : l.length ≤ c) : Src R L (kP A m c E.z) (E.cells (l.drop m)) := by
 have := hs.slAt (m := m) (c := c) (z := E.z) (by rw [E.cj]; exact Nat.mul_le_mul_right _ hc)
 rwa [E.lS] at this
theorem Src.UH {A : Option Addr} (hs : Src R L A (E.cells l)) (k : Nat) : Src R L A (E.cells (l.take k)) := by
 have := hs.take (k * E.z); rwa [E.ox] at this
class cJ (A : Option Addr) (L : List HP) (α : outParam Type) (E : outParam (fO α)) (T c : outParam Nat) (l : outParam (List α)) (L' : outParam (List HP)) : Prop where
 pick : cZ L (bE E T A c l) L'
instance cJ.here : cJ A (bE E T A c l :: L) α E T c l L := ⟨.here⟩
instance (priority := low) cJ.there {P : HP} [h : cJ A L α E T c l L'] : cJ A (P :: L) α E T c l (P :: L') := ⟨.there h.pick⟩
class jV (b : Nat) (L : List HP) (cs : outParam (List Value)) (T : outParam Nat) (L' : outParam (List HP)) : Prop where
 pick : cZ L (pt b cs T) L'
instance jV.here {b : Nat} {cs : List Value} : jV b (pt b cs T :: L) cs T L := ⟨.here⟩
instance (priority := low) jV.there {b : Nat} {cs : List Value} {P : HP} [h : jV b L cs T L'] : jV b (P :: L) cs T (P :: L') := ⟨.there h.pick⟩
theorem Hp.row (h : Hp R L M) (A : Option Addr) [hp : cJ A L α E T c l L'] : Hp R (bE E T A c l :: L') M := h.pick hp.pick
theorem Hp.pt (h : Hp R L M) (b : Nat) {cs : List Value} [hp : jV b L cs T L'] : Hp R (AF.pt b cs T :: L') M := h.pick hp.pick
theorem Hp.src (h : Hp R L M) [hp : cJ A L α E T c l L'] : Src R L A (E.cells l) := Src.own hp.pick
theorem Hp.kH (h : Hp R L M) (A : Option Addr) [hp : cJ A L α E T c l L'] : l.length ≤ c := (h.pick hp.pick).cap
theorem Hp.bF (h : Hp R L M) [hp : cJ A L α E T c l L'] (hl : 0 < l.length) (hz : 0 < E.z) : ∃ b, A = some ⟨b, 0, none⟩ := by
 obtain ⟨b, e, _⟩ := (h.pick hp.pick).VZ (i := 0) (by rw [E.cj]; exact Nat.mul_pos hl hz)
 exact ⟨b, e⟩
theorem iL {b o' : Nat} {a' : α} (i j : Nat) {a : α} {v : Value} {G : Mem → Prop} (h : Hp R L M) [hp : cJ (some ⟨b, 0, none⟩) L α E T c l L'] (hi : l[i]? = some a) (hj : j < E.z) (hv : (E.f a).set j v = E.f a') (e : o' = i * E.z + j)
  (k : ∀ M', Hp R (bE E T (some ⟨b, 0, none⟩) c (l.set i a') :: L') M' → G M') : aP M ⟨b, o', none⟩ v G := by
 subst e
 have hl := (List.getElem?_eq_some_iff.1 hi).1
 have hlt : i * E.z + j < (E.cells l).length := by
  rw [E.cj]
  have : (i + 1) * E.z ≤ l.length * E.z := Nat.mul_le_mul_right _ hl
  rw [Nat.succ_mul] at this; omega
 refine Ml h hp.pick hlt fun M' h' => k M' ?_
 unfold bE
 rw [List.length_set, ← E.Da hi hj hv]
 exact h'
theorem Hp.Db {P : Program} {t bytes ty d m : Nat} {zero : List Value} {B : Option Addr} {K : Value → Mem → Prop} {Kp : List PanicEntry → Mem → Prop}
  (h : Hp R L M) [ha : cJ A L α E T c l L'] (El : aY P t T E.z bytes zero) (hr : Src R L B (E.cells r)) (hm : m = r.length) (hb : (l.length + r.length) * bytes ≤ 140737488355328)
  (g : ∀ A' c' M', Hp R (bE E T A' c' (l ++ r) :: L') M' → K (.slice A' (l ++ r).length c') M') :
  be P (Builtin.append_ #[t, t] ty #[.slice A l.length c, .slice B m d]) M K Kp := by
 subst hm
 refine h.Sz ha.pick El hr E.cj E.iK hb fun A' c' M' h => ?_
 have := g A' c' M' (by unfold bE; rw [List.length_append, E.nt]; exact h)
 rwa [List.length_append] at this
theorem Hp.bL {P : Program} {t bytes ty k d m : Nat} {zero rc : List Value} {K : Value → Mem → Prop} {Kp : List PanicEntry → Mem → Prop}
  (h : Hp R L M) [ha : cJ A L α E T c l L'] [hk : jV k L' rc T nY] (El : aY P t T E.z bytes zero) (r : List α) (he : rc = E.cells r) (hm : m = r.length) (hb : (l.length + r.length) * bytes ≤ 140737488355328)
  (g : ∀ A' c' M', Hp R (bE E T A' c' (l ++ r) :: nY) M' → K (.slice A' (l ++ r).length c') M') :
  be P (Builtin.append_ #[t, t] ty #[.slice A l.length c, .slice (some ⟨k, 0, none⟩) m d]) M K Kp := by
 subst hm; subst he
 refine h.Sy ha.pick hk.pick El E.cj E.iK hb fun A' c' M' h => ?_
 have := g A' c' M' (by unfold bE; rw [List.length_append, E.nt]; exact h)
 rwa [List.length_append] at this
theorem Hp.gE {P : Program} {t bytes ty k d m : Nat} {zero : List Value} {B : Option Addr} {K : Value → Mem → Prop} {Kp : List PanicEntry → Mem → Prop} (E : fO α)
  (h : Hp R L M) [hk : jV k L [] T L'] (El : aY P t T E.z bytes zero) (r : List α) (hr : Src R L B (E.cells r)) (hm : m = r.length) (hb : r.length * bytes ≤ 140737488355328)
  (g : ∀ A' c' M', Hp R (bE E T A' c' r :: L') M' → K (.slice A' r.length c') M') :
  be P (Builtin.append_ #[t, t] ty #[.slice (some ⟨k, 0, none⟩) 0 0, .slice B m d]) M K Kp := by
 subst hm
 exact h.copy hk.pick El hr E.cj E.iK hb g
theorem Hp.Eg {P : Program} {t bytes n : Nat} {a : α} {K : Value → Mem → Prop} {Kp : List PanicEntry → Mem → Prop}
  (h : Hp R L M) (El : aY P t T E.z bytes (E.f a)) (hb : n * bytes ≤ 140737488355328)
  (k : ∀ b M', Hp R (bE E T (some ⟨b, 0, none⟩) n (List.replicate n a) :: L) M' → K (.slice (some ⟨b, 0, none⟩) n n) M') :
  be P (Instr.makeSlice t (.int .i64 (n : Int)) (.int .i64 (n : Int))) M K Kp := by
 refine h.make El hb fun b M' h => k b M' ?_
 unfold bE
 rw [List.length_replicate, E.lC]
 exact h
def RS {α : Type} (E : fO α) (R : Mem) (A : Option Addr) (c : Nat) (l : List α) : Prop := Sl R A (E.cells l) ∧ l.length ≤ c
theorem RS.le {R R' : Mem} (h : RS E R A c l) (hle : R.le R') : RS E R' A c l := ⟨h.1.le hle, h.2⟩
theorem RS.src (h : RS E R A c l) : Src R L A (E.cells l) := Src.ro h.1
theorem RS.nil (E : fO α) (R : Mem) : RS E R none 0 [] := ⟨rfl, Nat.le_refl _⟩
theorem RS.take (h : RS E R A c l) (k : Nat) : RS E R A c (l.take k) := ⟨by have := h.1.take (k * E.z); rwa [E.ox] at this, Nat.le_trans (List.length_take_le' ..) h.2⟩
theorem RS.drop (h : RS E R A c l) (m : Nat) (hm : m ≤ c) : RS E R (kP A m c E.z) (c - m) (l.drop m) := ⟨by
 have := h.1.slAz (m := m) (c := c) (z := E.z) (by rw [E.cj]; exact Nat.mul_le_mul_right _ h.2)
 rwa [E.lS] at this, by rw [List.length_drop]; have := h.2; omega⟩
theorem Hp.dO (h : Hp R L M) (A : Option Addr) [hp : cJ A L α E T c l L'] : ∃ R', R.le R' ∧ RS E R' A c l ∧ Hp R' L' M := by
 have h2 := h.pick hp.pick
 obtain ⟨R', h3, h4, h5⟩ := h2.OV
 exact ⟨R', h3, ⟨h4, h2.cap⟩, h5⟩
theorem RS.some (h : RS E R A c l) (hl : 0 < l.length) (hz : 0 < E.z) : ∃ b o, A = some ⟨b, o, none⟩ := by
 obtain ⟨b, o, e⟩ := h.1.UG (by rw [E.cj]; exact Nat.mul_pos hl hz); exact ⟨b, o, e⟩
structure um (α : Type) where
 p : Nat → α → HP
def ay (r : um α) (b : Nat) (x : α) : HP := r.p b x
class b6 (r : um α) (b : Nat) (L : List HP) (x : outParam α) (L' : outParam (List HP)) : Prop where
 pick : cZ L (ay r b x) L'
instance b6.here {r : um α} {b : Nat} {x : α} : b6 r b (ay r b x :: L) x L := ⟨.here⟩
instance (priority := low) b6.there {r : um α} {b : Nat} {x : α} {P : HP} [h : b6 r b L x L'] : b6 r b (P :: L) x (P :: L') := ⟨.there h.pick⟩
theorem Hp.obj (h : Hp R L M) (r : um α) (b : Nat) {x : α} [hp : b6 r b L x L'] : Hp R (r.p b x :: L') M := h.pick hp.pick
theorem Hp.front (h : Hp R L M) (r : um α) (b : Nat) {x : α} [hp : b6 r b L x L'] : Hp R (ay r b x :: L') M := h.pick hp.pick
theorem Hp.xw {r : um α} {b : Nat} {x : α} (h : Hp R (r.p b x :: L) M) : Hp R (ay r b x :: L) M := h
end
inductive Sub : List HP → List HP → Prop
 | refl {L : List HP} : Sub L L
 | cons {P : HP} {L L' T : List HP} : cZ L P L' → Sub L' T → Sub L (P :: T)
 | drop {P : HP} {L T : List HP} : Sub L T → Sub (P :: L) T
theorem cq.sub {L T : List HP} (hs : Sub L T) : ∀ A, cq L A → cq T A := by
 induction hs with
 | refl => exact fun _ h => h
 | cons hp _ ih => exact fun A h => (cq.pick hp h).tail ih
 | drop _ ih => exact fun A h => ih A h.drop
theorem Hp.sub {R : Mem} {L T : List HP} {M : Mem} (h : Hp R L M) (hs : Sub L T) : Hp R T M := h.map (cq.sub hs)
class Drop (L T : List HP) : Prop where
 sub : Sub L T
instance (priority := high) Drop.refl {L : List HP} : Drop L L := ⟨.refl⟩
instance Drop.keep {P : HP} {L T : List HP} [h : Drop L T] : Drop (P :: L) (P :: T) := ⟨.cons .here h.sub⟩
instance (priority := low) Drop.drop {P : HP} {L T : List HP} [h : Drop L T] : Drop (P :: L) T := ⟨.drop h.sub⟩
theorem Hp.oy {R : Mem} {L T : List HP} {M : Mem} (h : Hp R L M) [d : Drop L T] : Hp R T M := h.sub d.sub
theorem Hp.ck {R : Mem} {P : HP} {L T : List HP} {M : Mem} (h : Hp R (P :: L) M) [d : Drop L T] : Hp R (P :: T) M := h.map fun _ hs => hs.tail (cq.sub d.sub)
def aZ : fO Int := ⟨1, fun n => [.int .i64 n], fun _ => rfl, fun _ v hv => by simp at hv; subst hv; rfl⟩
def Eh : fO Int := ⟨1, fun n => [.int .u64 n], fun _ => rfl, fun _ v hv => by simp at hv; subst hv; rfl⟩
def y9 : fO Int := ⟨1, fun n => [.int .u32 n], fun _ => rfl, fun _ v hv => by simp at hv; subst hv; rfl⟩
def Fl : fO Int := ⟨1, fun n => [.int .u8 n], fun _ => rfl, fun _ v hv => by simp at hv; subst hv; rfl⟩
def mU : fO Nat := ⟨1, fun b => [.pointer (some ⟨b, 0, none⟩)], fun _ => rfl, fun _ v hv => by simp at hv; subst hv; rfl⟩
theorem bx {α : Type} {l : List α} {i : Nat} {w : α} (h : l[i]? = some w) : l.take (i + 1) = l.take i ++ [w] := by rw [List.take_add_one, h]; rfl
theorem aM {α : Type} {l : List α} {i : Nat} (h : i < l.length) : ∃ w, l[i]? = some w := ⟨l[i], List.getElem?_eq_getElem h⟩
attribute [irreducible] bE ay
end Go.AF
