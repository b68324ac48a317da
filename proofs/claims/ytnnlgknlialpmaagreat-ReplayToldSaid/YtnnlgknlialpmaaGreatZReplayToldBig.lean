/- A part of proofs about one program. -/
import Derived.Test.YtnnlgknlialpmaaGreatZReplayToldRow
set_option linter.unusedVariables false
namespace Go.AF
section
variable {R : Mem} {L L' : List HP} {M : Mem}
theorem dN {b T n : Nat} {cs : List Value} (h : Hp R L M) [hp : iF b L cs T L'] (hc : cs.length = n) : M.dP ⟨b, 0, none⟩ 0 n = some cs := by
 subst hc
 have hb := (h.pick hp.pick).xJ
 exact rM (M := M) (b := b) (o := 0) cs 0 (fun j hj => by rw [DQ hb, Nat.zero_add, Nat.zero_add]; simp)
end
end Go.AF
