/- A part of proofs about one program. -/
import Derived.Test.YtnnlgknlialpmaaGreatZSnapAlikeLib
import Derived.Deep.Slices
import Derived.ChangeArms
import Derived.OpenShut
set_option linter.unusedVariables false
namespace Go.AF
open Go.Deep
def intKind (P : Program) (t : TypeId) : Option IntKind := match P.underlying t with
 | some (.int k) => if P.cellsOf t = 1 then some k else none
 | _ => none
def lT (P : Program) : Nat → List Field → Option (List IntKind)
 | _, [] => some []
 | i, f :: fs => match intKind P f.type, lT P (i + 1) fs with
  | some k, some ks => if f.offset = i then some (k :: ks) else none
  | _, _ => none
def IL (P : Program) (e : TypeId) : Option (List IntKind) := match P.underlying e with
 | some (.int k) => some [k]
 | some (.struct fs) => lT P 0 fs.toList
 | some (.array n el) => match intKind P el with
  | some k => some (List.replicate n k)
  | none => none
 | _ => none
def O5 (ks : List IntKind) (cs : List Value) (g : Nat → Int) : Prop := ∀ (j : Nat) (k : IntKind), ks[j]? = some k → cs[j]? = some (.int k (g j)) ∧ (Lit.int k (g j)).wf = true
section
variable {H : Type} {enc : TypeId × Value → H} {P : Program} {w : World} {base : Nat} {spare : Nat → Bool} {held : Bool}
def Cells (M : Mem) (A : Option Addr) (n : Nat) (ks : List IntKind) (g : Nat → Nat → Int) : Prop :=
 n ≤ maxLen ∧ ∀ i, i < n → ∃ b o, A = some ⟨b, o, none⟩ ∧ ∀ j k, ks[j]? = some k → M.ld ⟨b, o + i * ks.length + j, none⟩ = some (.int k (g i j)) ∧ (Lit.int k (g i j)).wf = true
def qo (M : Mem) (A : Option Addr) (n : Nat) (ks : List IntKind) : Prop := ∃ g, Cells M A n ks g
end
end Go.AF
namespace Go.AF
open Go.Deep Go.ChangeShapes
end Go.AF
