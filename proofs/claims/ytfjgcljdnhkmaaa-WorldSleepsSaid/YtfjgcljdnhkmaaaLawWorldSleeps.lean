/- For every input the law WorldSleeps returns true and leaves its arguments as they were; no condition. -/
import Derived.Test.YtfjgcljdnhkmaaaZWorldSleeps0
import Derived.Test.YtfjgcljdnhkmaaaZWorldSleeps1
import Derived.Test.YtfjgcljdnhkmaaaZWorldSleeps2
import Derived.Test.YtfjgcljdnhkmaaaZWorldSleeps3
import Derived.Test.YtfjgcljdnhkmaaaZWorldSleeps4
import Derived.Test.YtfjgcljdnhkmaaaRows
import Derived.WalkKit
import Derived.ProofKit
import Derived.OpenShut
import Derived.ShutString
import Derived.ChangeOld
import Derived.Below
import Derived.SizedLaws
import Derived.Carry
set_option linter.unusedVariables false
namespace Go.Proofs.Ytfjgcljdnhkmaaa.worldSleeps
open Go.ChangeShapes Go.WideShapes Go.ChangeAt Go.RowKit
open Go.ChangeMaps (open_string shut_string)
open Go.AF (pq)
theorem own : ownKnob Try.prog.godebug = none := by kernel_rfl
theorem laidOut : laidOutB Try.prog = true := by kernel_rfl
set_option maxRecDepth 100000 in
theorem lifted (os : Os) (started : os.Started) (H : Type) (enc : TypeId × Value → H) :
  ReturnsInHanded {} Try.checked os 5 .any (Rows.worldSleepsSpec.pre6 enc Try.prog Try.f5 Rows.worldSleepsRow.domain false) (Rows.worldSleepsSpec.post enc Try.prog Try.f5 false true false false) := by
 refine returnsInHanded_of_change_sized (C := Try.checked) own started (by kernel_rfl) Try.func5
  (ChangeSpec.witness6 (enc := enc) (C := Try.checked) false ⟨#[], #[.slice none 0 0], []⟩ 8 (by kernel_rfl) (by kernel_rfl) (by kernel_rfl) (by kernel_rfl)) ?_
 intro W base args ds gs before Ew hW Qi IX _
 have hsz : (DataW.weightsEach Try.prog (Try.f5.params.toList ++ Rows.worldSleepsSpec.plain.varTypes Try.prog) (ds ++ gs)).all (· ≤ reachBytes) = true := IX
 have hval : ∀ (j : Nat) t v, Try.f5.params[j]? = some t → args[j]? = some v → Value.okWide Try.prog W .any base t v := Ew
 have Qj := hW
 obtain ⟨p, q, ND, hV, rfl, hfz, ye⟩ := hW
 have hA : DataW.TrodAll enc Try.prog W 0 (fun _ => true) true Try.f5.params.toList args.toList ds p := ND
 rw [Try.params5] at hA hval hsz
 obtain ⟨v0, QE, d0, QF, p0, q0, hargs, rfl, rfl, h0, r0⟩ := trodAll_cons hA
 obtain ⟨rfl, rfl, rfl⟩ := trodAll_nil r0
 obtain rfl : args = #[v0] := by cases args; simp_all
 obtain ⟨rfl, rfl⟩ := trodVars_none hV
 obtain ⟨a0, Qk, Ql, rfl⟩ := okWide_slice Try.underlying25 (hval 0 25 v0 rfl rfl)
 have k0 := h0
 have Qm : ∀ x ∈ p0, x.block < W.heap.size := by obtain ⟨m, hm⟩ := k0; exact DataW.trod_lt m _ _ _ hm
 have g0 := pq.yz (ks := [.i64]) Try.underlying25 (by kernel_rfl) ⟨by kernel_rfl, by decide⟩ h0
 clear ND Ew IX hsz
 refine (Go.AF.pP (rV g0 fun M' hc => ⟨rfl, hc⟩)).mono fun e W' ⟨he, NF⟩ => ?_
 subst he
 exact ⟨_, rfl, _, _, _, [], _, [], Qj, trodAll_mk1 (shut_bool Try.underlying4 _), (trodAll_cons_mk (Below.trod laidOut (by kernel_rfl) (of_decide_eq_true (by kernel_rfl)) k0 NF Qm) trodAll_mk0), rfl, NF.frame _, fun h => by cases h⟩
theorem MB : Rows.worldSleepsRow.holds Try.pinned (OpenSpec.ofChange Rows.worldSleepsSpec) :=
 OpenClaim.holds_of_wide 5 Try.f5 rfl rfl rfl rfl rfl rfl rfl ⟨rfl, rfl, rfl, rfl, rfl⟩ rfl rfl rfl rfl rfl (by kernel_rfl) Try.func5 (by kernel_rfl)
  (of_decide_eq_true (by kernel_rfl)) (by unfold Func.isWrapper; first | (rw [if_pos (by decide +kernel)]; kernel_rfl) | (rw [if_neg (by decide +kernel)]; exact ⟨rfl, rfl⟩))
  (fun os started H enc _ => lifted os started H enc)
theorem proved : Rows.WorldSleepsSaid := MB
#print axioms proved
end Go.Proofs.Ytfjgcljdnhkmaaa.worldSleeps
namespace Go.Proofs.Ytfjgcljdnhkmaaa
theorem worldSleeps_holds : Rows.WorldSleepsSaid := worldSleeps.proved
end Go.Proofs.Ytfjgcljdnhkmaaa
