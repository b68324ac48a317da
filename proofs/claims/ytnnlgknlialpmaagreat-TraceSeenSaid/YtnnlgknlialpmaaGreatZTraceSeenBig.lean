/- A part of proofs about one program. -/
import Derived.Test.YtnnlgknlialpmaaGreatZTraceSeenRow
set_option linter.unusedVariables false
namespace Go.AF
section
variable {R : Mem} {L L' : List HP} {M : Mem}
theorem Iw : ∀ (vs cs : List Value) (o : Nat), o + vs.length ≤ cs.length → AK cs o vs = cs.take o ++ vs ++ cs.drop (o + vs.length)
 | [], cs, o, _ => by simp [AK]
 | v :: vs, cs, o, h => by
  rw [List.length_cons] at h
  rw [AK, Iw vs (cs.set o v) (o + 1) (by rw [List.length_set]; omega)]
  rw [List.length_cons, show o + 1 + vs.length = o + (vs.length + 1) from by omega, List.drop_set_of_lt (by omega)]
  have : (cs.set o v).take (o + 1) = cs.take o ++ [v] := by
   rw [List.take_add_one, List.getElem?_set_self (by omega), List.take_set_of_le (Nat.le_refl o)]; rfl
  rw [this, List.append_assoc, List.append_assoc, List.append_assoc]; rfl
theorem Mu {cs vs : List Value} (h : vs.length = cs.length) : AK cs 0 vs = vs := by
 rw [Iw vs cs 0 (by omega)]; simp [h]
theorem fC {b T n : Nat} {cs : List Value} (h : Hp R L M) [hp : jY b L cs T L'] (hc : cs.length = n) : M.fK ⟨b, 0, none⟩ 0 n = some cs := by
 subst hc
 have hb := (h.pick hp.pick).zi
 exact vX (M := M) (b := b) (o := 0) cs 0 (fun j hj => by rw [Iu hb, Nat.zero_add, Nat.zero_add]; simp)
theorem BO {b T n : Nat} {cs : List Value} {G : List Value → Prop} (h : Hp R L M) [hp : jY b L cs T L'] (hc : cs.length = n) (g : G cs) : D0 (M.fK ⟨b, 0, none⟩ 0 n) G := by
 rw [fC h hc]; exact g
theorem zj {b T n : Nat} {cs vs : List Value} {G : Mem → Prop} (h : Hp R L M) [hp : jY b L cs T L'] (hc : cs.length = n) (hv : vs.length = n) (hpl : vs.all Value.plainCell = true) (k : ∀ M', Hp R (pt b vs T :: L') M' → G M') : DN M b 0 vs n G := by
 have h2 := h.pick hp.pick
 have hb := h2.zi
 refine ⟨hv, fun v hv => List.all_eq_true.1 hpl v hv, ⟨cs.toArray, T, hb, by simp [hc]⟩, k _ ?_⟩
 have : M.CI b 0 vs = M.set b (.cells vs.toArray T (0, 0)) := by
  funext i
  unfold Mem.CI Mem.set
  by_cases hi : i = b
  ·subst hi
   rw [if_pos rfl, if_pos rfl, hb]
   have e : AK cs 0 vs = vs := Mu (by omega)
   show some (Obj.cells (AK cs.toArray.toList 0 vs).toArray T (0, 0)) = _
   rw [show cs.toArray.toList = cs from rfl, e]
  ·rw [if_neg hi, if_neg hi]
 rw [this]
 exact h2.set (x := .cells cs.toArray T (0, 0)) (fun A ha => by unfold pt at ha; exact ha) fun A ha => by unfold pt; exact eV
end
end Go.AF
