/- A part of proofs about one program. -/
import Derived.Test.YtnnlgknlialpmaaGreatZTaperSumsRow
set_option linter.unusedVariables false
namespace Go.AF
section
variable {R : Mem} {L L' : List HP} {M : Mem}
theorem ig {b T n : Nat} {cs : List Value} (h : Hp R L M) [hp : kL b L cs T L'] (hc : cs.length = n) : M.gd ⟨b, 0, none⟩ 0 n = some cs := by
 subst hc
 have hb := (h.pick hp.pick).Ax
 exact rG (M := M) (b := b) (o := 0) cs 0 (fun j hj => by rw [Kz hb, Nat.zero_add, Nat.zero_add]; simp)
end
end Go.AF
