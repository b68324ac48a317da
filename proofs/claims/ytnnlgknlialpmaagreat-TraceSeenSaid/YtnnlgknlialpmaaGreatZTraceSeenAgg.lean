/- A part of proofs about one program. -/
import Derived.Test.YtnnlgknlialpmaaGreatZTraceSeenArgs
set_option linter.unusedVariables false
namespace Go.AF
section
variable {H : Type} {enc : TypeId × Value → H} {P : Program} {w : World} {base : Nat} {spare : Nat → Bool} {held : Bool}
theorem BQ {W : World} {r : Reach} {b0 : Nat} {t : TypeId} {v : Value} (ht : (∃ fs, P.underlying t = some (.struct fs)) ∨ ∃ n e, P.underlying t = some (.array n e)) (h : Value.okWide P W r b0 t v) : ∃ cs, v = .agg cs ∧ cs.size = P.cellsOf t := by
 unfold Value.okWide at h
 rcases ht with ⟨fs, e⟩ | ⟨n, e', e⟩
 ·rw [e] at h; obtain ⟨cs, h1, h2, _⟩ := h; exact ⟨cs, h1, h2⟩
 ·rw [e] at h; obtain ⟨cs, h1, h2, _⟩ := h; exact ⟨cs, h1, h2⟩
theorem ED {t : TypeId} {ks : List IntKind} {v : Value} {d : DataW H} {ps : List MemPlace} (hk : iS P 8 t = some ks) (hc : P.cellsOf t = ks.length) (hs : ∃ cs, v = .agg cs ∧ cs.size = P.cellsOf t)
  (h : DataW.Trod enc P w base spare held t v d ps) : ∃ g : Nat → Int, v = .agg ((kE ks).f g).toArray ∧ ∀ j k, ks[j]? = some k → (Lit.int k (g j)).wf = true := by
 obtain ⟨cs, rfl, hsz⟩ := hs
 obtain ⟨fuel, hf⟩ := h
 have hr := xB 8 t ks fuel _ _ hk hf
 have e0 : (Value.agg cs).cells = cs := rfl
 rw [e0] at hr
 refine ⟨fun j => match cs.toList[j]? with | some (Value.int _ n) => n | _ => 0, ?_, ?_⟩
 ·congr 1
  apply Array.ext'
  rw [List.toList_toArray]
  apply List.ext_getElem?
  intro j
  rcases Nat.lt_or_ge j ks.length with hj | hj
  ·have WX : ks[j]? = some ks[j] := List.getElem?_eq_getElem hj
   obtain ⟨n, h1, _⟩ := hr j _ WX
   rw [Nat.zero_add] at h1
   rw [Sx WX, h1]
  ·rw [List.getElem?_eq_none (by simp; omega), List.getElem?_eq_none (by rw [(kE ks).len]; exact hj)]
 ·intro j k hj
  obtain ⟨n, h1, h2⟩ := hr j k hj
  rw [Nat.zero_add] at h1
  simp only [h1]; exact h2
end
end Go.AF
