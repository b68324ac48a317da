/- A part of proofs about functions of one program: a condition over a partial memory that is enough for a call, and what calls answer by it. No condition of its own. -/
import Derived.Test.YtfjgcljdnhkmaaaSoundB
import Derived.Test.YtfjgcljdnhkmaaaProg
namespace Go.Proofs
open Go.AF
noncomputable def Cx : Ctx := ⟨Try.prog, 91⟩
theorem good : Cx.Good := by
  refine ⟨?_, by kernel_rfl⟩
  have h : (List.range 89).all (fun g => callable Try.prog (g + 2)) = true := by kernel_rfl
  intro g hg
  have h1 : g < 91 := hg.2
  have := List.all_eq_true.1 h (g - 2) (List.mem_range.2 (by omega))
  have e : g - 2 + 2 = g := by omega
  simp only [e] at this
  exact this
end Go.Proofs
