/- A part of proofs about functions of one program: a condition over a partial memory that is enough for a call, and what calls answer by it. No condition of its own. -/
import Derived.Test.YtfjgcljdnhkmaaaChan2
set_option linter.unusedVariables false
/- Rows of objects. -/
namespace Go.AF
theorem zip_set {α β γ : Type} {f : α → β → γ} : ∀ {l : List α} {m : List β} {i : Nat} {a : α} {b : β}, l[i]? = some a → (List.zipWith f l m).set i (f a b) = List.zipWith f l (m.set i b)
  | [], _, _, _, _, h => by simp at h
  | x :: l, [], i, a, b, h => by simp
  | x :: l, y :: m, 0, a, b, h => by simp at h; subst h; rfl
  | x :: l, y :: m, i + 1, a, b, h => by
    have := zip_set (f := f) (m := m) (b := b) (show l[i]? = some a from by simpa using h)
    simp [this]
theorem zip_at {α β γ : Type} {f : α → β → γ} : ∀ {l : List α} {m : List β} {i : Nat} {a : α} {b : β}, l[i]? = some a → m[i]? = some b → (List.zipWith f l m)[i]? = some (f a b)
  | [], _, _, _, _, h, _ => by simp at h
  | x :: l, [], i, a, b, h, g => by simp at g
  | x :: l, y :: m, 0, a, b, h, g => by simp at h g; subst h; subst g; rfl
  | x :: l, y :: m, i + 1, a, b, h, g => by simpa using zip_at (f := f) (show l[i]? = some a from by simpa using h) (show m[i]? = some b from by simpa using g)
theorem Pick.past {P : HP} {L : List HP} : ∀ (l : List HP), Pick (l ++ P :: L) P (l ++ L)
  | [] => .here
  | Q :: l => .there (Pick.past l)
section
variable {α : Type} {r : Rep α} {R : Mem} {L L' L'' : List HP} {M : Mem} {bs : List Nat} {cs : List α} {b i : Nat} {c : α}
/-- Objects stand at these places. -/
def objsP (r : Rep α) (bs : List Nat) (cs : List α) : HP := sep (List.zipWith (objP r) bs cs)
/-- All but one. -/
def objsX (r : Rep α) (bs : List Nat) (cs : List α) (i : Nat) : HP := sep ((List.zipWith (objP r) bs cs).eraseIdx i)
class ObjsAt (r : Rep α) (L : List HP) (bs : outParam (List Nat)) (cs : outParam (List α)) (L' : outParam (List HP)) : Prop where
  pick : Pick L (objsP r bs cs) L'
instance ObjsAt.here : ObjsAt r (objsP r bs cs :: L) bs cs L := ⟨.here⟩
instance (priority := low) ObjsAt.there {P : HP} [h : ObjsAt r L bs cs L'] : ObjsAt r (P :: L) bs cs (P :: L') := ⟨.there h.pick⟩
class ObjsX (r : Rep α) (L : List HP) (bs : outParam (List Nat)) (cs : outParam (List α)) (i : outParam Nat) (L' : outParam (List HP)) : Prop where
  pick : Pick L (objsX r bs cs i) L'
instance ObjsX.here : ObjsX r (objsX r bs cs i :: L) bs cs i L := ⟨.here⟩
instance (priority := low) ObjsX.there {P : HP} [h : ObjsX r L bs cs i L'] : ObjsX r (P :: L) bs cs i (P :: L') := ⟨.there h.pick⟩
theorem Hp.objs_front (h : Hp R L M) (r : Rep α) {bs : List Nat} {cs : List α} [o : ObjsAt r L bs cs L'] : Hp R (objsP r bs cs :: L') M := h.pick o.pick
theorem Hp.objs_nil (h : Hp R L M) (r : Rep α) : Hp R (objsP r [] [] :: L) M := Hp.sep_iff.2 h
/-- One comes to the front. -/
theorem Hp.objs_out (h : Hp R L M) (r : Rep α) {bs : List Nat} {cs : List α} [o : ObjsAt r L bs cs L'] (hb : bs[i]? = some b) (hc : cs[i]? = some c) : Hp R (objP r b c :: objsX r bs cs i :: L') M :=
  (h.pick o.pick).focus (zip_at hb hc)
/-- It goes back. -/
theorem Hp.objs_in (h : Hp R L M) (r : Rep α) (b : Nat) {bs : List Nat} {cs : List α} {i : Nat} {c : α} [o : ObjAt r b L c L'] [x : ObjsX r L' bs cs i L''] (hb : bs[i]? = some b) (hc : i < cs.length) : Hp R (objsP r bs (cs.set i c) :: L'') M := by
  have h1 : Hp R (objP r b c :: objsX r bs cs i :: L'') M := (h.pick o.pick).map fun _ hs => hs.tail (fun _ => Star.pick x.pick)
  have h2 := Hp.unfocus (ls := List.zipWith (objP r) bs cs) h1 (by rw [List.length_zipWith]; have := (List.getElem?_eq_some_iff.1 hb).1; omega)
  rw [zip_set hb] at h2
  exact h2
theorem Hp.objs_same (h : Hp R L M) (r : Rep α) (b : Nat) {bs : List Nat} {cs : List α} {i : Nat} {c : α} [o : ObjAt r b L c L'] [x : ObjsX r L' bs cs i L''] (hb : bs[i]? = some b) (hc : cs[i]? = some c) : Hp R (objsP r bs cs :: L'') M := by
  have := h.objs_in r b hb (List.getElem?_eq_some_iff.1 hc).1
  obtain ⟨hi, rfl⟩ := List.getElem?_eq_some_iff.1 hc
  rwa [List.set_getElem_self] at this
theorem Hp.objs_snoc (h : Hp R L M) (r : Rep α) (b : Nat) {bs : List Nat} {cs : List α} {c : α} [o : ObjAt r b L c L'] [x : ObjsAt r L' bs cs L''] (hl : bs.length = cs.length) : Hp R (objsP r (bs ++ [b]) (cs ++ [c]) :: L'') M := by
  have h1 : Hp R (objP r b c :: objsP r bs cs :: L'') M := (h.pick o.pick).map fun _ hs => hs.tail (fun _ => Star.pick x.pick)
  refine Hp.sep_iff.2 ?_
  rw [List.zipWith_append hl, List.append_assoc]
  refine Hp.unpick (P := objP r b c) ?_ (Pick.past _)
  exact h1.map fun _ hs => hs.tail fun _ hb => Star.sep_iff.1 hb
end
end Go.AF
