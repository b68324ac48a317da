/- A part of proofs about one program. -/
import Derived.Test.YtnnlgknlialpmaaGreatZShunterChatLib
import Derived.Deep.Slices
import Derived.ChangeArms
import Derived.OpenShut
set_option linter.unusedVariables false
namespace Go.AF
open Go.Deep
section
variable {H : Type} {enc : TypeId × Value → H} {P : Program} {w : World} {base : Nat} {spare : Nat → Bool} {held : Bool}
def Cells (M : Mem) (A : Option Addr) (n : Nat) (ks : List IntKind) (g : Nat → Nat → Int) : Prop :=
 n ≤ maxLen ∧ ∀ i, i < n → ∃ b o, A = some ⟨b, o, none⟩ ∧ ∀ j k, ks[j]? = some k → M.ld ⟨b, o + i * ks.length + j, none⟩ = some (.int k (g i j)) ∧ (Lit.int k (g i j)).wf = true
end
end Go.AF
namespace Go.AF
open Go.Deep Go.ChangeShapes
end Go.AF
