/- A part of proofs about one program. -/
import Derived.Test.YtnnlgknlialpmaaGreatZSnapAlikeRow
set_option linter.unusedVariables false
namespace Go.AF
section
variable {R : Mem} {L L' : List HP} {M : Mem}
theorem KN : ∀ (vs cs : List Value) (o : Nat), o + vs.length ≤ cs.length → sw cs o vs = cs.take o ++ vs ++ cs.drop (o + vs.length)
 | [], cs, o, _ => by simp [sw]
 | v :: vs, cs, o, h => by
  rw [List.length_cons] at h
  rw [sw, KN vs (cs.set o v) (o + 1) (by rw [List.length_set]; omega)]
  rw [List.length_cons, show o + 1 + vs.length = o + (vs.length + 1) from by omega, List.drop_set_of_lt (by omega)]
  have : (cs.set o v).take (o + 1) = cs.take o ++ [v] := by
   rw [List.take_add_one, List.getElem?_set_self (by omega), List.take_set_of_le (Nat.le_refl o)]; rfl
  rw [this, List.append_assoc, List.append_assoc, List.append_assoc]; rfl
theorem OZ {cs vs : List Value} (h : vs.length = cs.length) : sw cs 0 vs = vs := by
 rw [KN vs cs 0 (by omega)]; simp [h]
theorem fZ {b T n : Nat} {cs : List Value} (h : Hp R L M) [hp : jV b L cs T L'] (hc : cs.length = n) : M.fN ⟨b, 0, none⟩ 0 n = some cs := by
 subst hc
 have hb := (h.pick hp.pick).yB
 exact rR (M := M) (b := b) (o := 0) cs 0 (fun j hj => by rw [KH hb, Nat.zero_add, Nat.zero_add]; simp)
theorem Dc {b T n : Nat} {cs : List Value} {G : List Value → Prop} (h : Hp R L M) [hp : jV b L cs T L'] (hc : cs.length = n) (g : G cs) : Ig (M.fN ⟨b, 0, none⟩ 0 n) G := by
 rw [fZ h hc]; exact g
theorem yC {b T n : Nat} {cs vs : List Value} {G : Mem → Prop} (h : Hp R L M) [hp : jV b L cs T L'] (hc : cs.length = n) (hv : vs.length = n) (Zo : vs.all Value.plainCell = true) (k : ∀ M', Hp R (pt b vs T :: L') M' → G M') : Fz M b 0 vs n G := by
 have h2 := h.pick hp.pick
 have hb := h2.yB
 refine ⟨hv, fun v hv => List.all_eq_true.1 Zo v hv, ⟨cs.toArray, T, hb, by simp [hc]⟩, k _ ?_⟩
 have : M.Aa b 0 vs = M.set b (.cells vs.toArray T (0, 0)) := by
  funext i
  unfold Mem.Aa Mem.set
  by_cases hi : i = b
  ·subst hi
   rw [if_pos rfl, if_pos rfl, hb]
   have e : sw cs 0 vs = vs := OZ (by omega)
   show some (Obj.cells (sw cs.toArray.toList 0 vs).toArray T (0, 0)) = _
   rw [show cs.toArray.toList = cs from rfl, e]
  ·rw [if_neg hi, if_neg hi]
 rw [this]
 exact h2.set (x := .cells cs.toArray T (0, 0)) (fun A ha => by unfold pt at ha; exact ha) fun A ha => by unfold pt; exact dI
end
end Go.AF
