/- A part of proofs about functions of one program: a condition over a partial memory that is enough for a call, and what calls answer by it. No condition of its own. -/
import Derived.Test.YtodeolmcinekoaaList
set_option linter.unusedVariables false
/- Two of a row of objects. -/
namespace Go.AF
theorem Pick.two : ∀ (zs : List HP) (i j : Nat), i ≠ j → i < zs.length → j < zs.length → ∃ rest, ∀ P Q, ∃ l1, Pick ((zs.set i P).set j Q) P l1 ∧ Pick l1 Q rest
  | [], _, _, _, h, _ => by simp at h
  | z :: zs, 0, 0, h, _, _ => absurd rfl h
  | z :: zs, 0, j + 1, _, _, hj => ⟨zs.eraseIdx j, fun P Q => ⟨zs.set j Q, by simp only [List.set_cons_zero, List.set_cons_succ]; exact .here, Pick.idx (by simpa using hj)⟩⟩
  | z :: zs, i + 1, 0, _, hi, _ => ⟨zs.eraseIdx i, fun P Q => ⟨Q :: zs.eraseIdx i, by simp only [List.set_cons_zero, List.set_cons_succ]; exact .there (Pick.idx (by simpa using hi)), .here⟩⟩
  | z :: zs, i + 1, j + 1, h, hi, hj => by
    obtain ⟨rest, hr⟩ := Pick.two zs i j (by omega) (by simpa using hi) (by simpa using hj)
    refine ⟨z :: rest, fun P Q => ?_⟩
    obtain ⟨l1, h1, h2⟩ := hr P Q
    exact ⟨z :: l1, by simp only [List.set_cons_succ]; exact .there h1, .there h2⟩
section
variable {α : Type} {r : Rep α} {R : Mem} {L L' L'' : List HP} {M : Mem} {bs : List Nat} {cs : List α} {b b' i j : Nat} {c c' : α}
/-- Two come to the front; they go back. -/
theorem Hp.objs_two (h : Hp R L M) (r : Rep α) {bs : List Nat} {cs : List α} [o : ObjsAt r L bs cs L'] (hij : i ≠ j) (hb : bs[i]? = some b) (hc : cs[i]? = some c) (hb' : bs[j]? = some b') (hc' : cs[j]? = some c') :
    ∃ X : HP, Hp R (objP r b c :: objP r b' c' :: X :: L') M ∧ ∀ {R' : Mem} {L2 : List HP} {M' : Mem} {d d' : α}, Hp R' (objP r b d :: objP r b' d' :: X :: L2) M' → Hp R' (objsP r bs ((cs.set i d).set j d') :: L2) M' := by
  have hi := (List.getElem?_eq_some_iff.1 hb).1
  have hj := (List.getElem?_eq_some_iff.1 hb').1
  have hi2 := (List.getElem?_eq_some_iff.1 hc).1
  have hj2 := (List.getElem?_eq_some_iff.1 hc').1
  have hl : (List.zipWith (objP r) bs cs).length = min bs.length cs.length := List.length_zipWith
  obtain ⟨rest, hr⟩ := Pick.two (List.zipWith (objP r) bs cs) i j hij (by omega) (by omega)
  refine ⟨sep rest, ?_, ?_⟩
  · have h0 : Hp R (sep (List.zipWith (objP r) bs cs) :: L') M := h.pick o.pick
    obtain ⟨l1, p1, p2⟩ := hr (objP r b c) (objP r b' c')
    have e : ((List.zipWith (objP r) bs cs).set i (objP r b c)).set j (objP r b' c') = List.zipWith (objP r) bs cs := by
      rw [zip_set hb, zip_set hb']
      congr 1
      obtain ⟨_, e1⟩ := List.getElem?_eq_some_iff.1 hc
      obtain ⟨_, e2⟩ := List.getElem?_eq_some_iff.1 hc'
      subst e1; subst e2
      rw [List.set_getElem_self, List.set_getElem_self]
    rw [e] at p1
    refine h0.map fun A hs => ?_
    have h1 := Star.pick p1.app (Star.sep_iff.1 hs)
    exact h1.tail fun B hb2 => (Star.pick p2.app hb2).tail fun C hc2 => Star.sep_iff.2 hc2
  · intro R' L2 M' d d' h1
    obtain ⟨l1, p1, p2⟩ := hr (objP r b d) (objP r b' d')
    rw [zip_set hb, zip_set hb'] at p1
    show Hp R' (sep (List.zipWith (objP r) bs ((cs.set i d).set j d')) :: L2) M'
    refine h1.map fun A hs => Star.sep_iff.2 (Star.unpick p1.app ?_)
    exact hs.tail fun B hb2 => Star.unpick p2.app (hb2.tail fun C hc2 => Star.sep_iff.1 hc2)
end
end Go.AF
