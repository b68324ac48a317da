/- For every input the law SchedChecks returns true and leaves its arguments as they were; no condition. -/
import Derived.Test.YtfjgcljdnhkmaaaGreatZSchedChecks0
import Derived.Test.YtfjgcljdnhkmaaaGreatZSchedChecks1
import Derived.Test.YtfjgcljdnhkmaaaGreatZSchedChecks2
import Derived.Test.YtfjgcljdnhkmaaaGreatZSchedChecks3
import Derived.Test.YtfjgcljdnhkmaaaGreatZSchedChecks4
import Derived.Test.YtfjgcljdnhkmaaaGreatZSchedChecks5
import Derived.Test.YtfjgcljdnhkmaaaGreatRows
import Derived.WalkKit
import Derived.ProofKit
import Derived.OpenShut
import Derived.ShutString
import Derived.ChangeOld
import Derived.Below
import Derived.SizedLaws
import Derived.Carry
namespace Go.Proofs.YtfjgcljdnhkmaaaGreat.schedChecks
open Go.ChangeShapes Go.WideShapes Go.ChangeAt Go.RowKit
open Go.ChangeMaps (open_string shut_string)
open Go.AF (ArgSl)
set_option linter.unusedVariables false
theorem own : ownKnob Tryz.prog.godebug = none := by kernel_rfl
theorem laidOut : laidOutB Tryz.prog = true := by kernel_rfl
set_option maxRecDepth 100000 in
theorem lifted (os : Os) (started : os.Started) (H : Type) (enc : TypeId × Value → H) :
    ReturnsInHanded {} Tryz.checked os 3 .any (Rows.schedChecksSpec.pre6 enc Tryz.prog Tryz.f3 Rows.schedChecksRow.domain false) (Rows.schedChecksSpec.post enc Tryz.prog Tryz.f3 false true false false) := by
  refine returnsInHanded_of_change_sized (C := Tryz.checked) own started (by kernel_rfl) Tryz.func3
    (ChangeSpec.witness6 (enc := enc) (C := Tryz.checked) false ⟨#[], #[.agg #[.int .i64 0, .int .i64 0, .int .i64 0, .int .i64 0]], []⟩ 8 (by kernel_rfl) (by kernel_rfl) (by kernel_rfl) (by kernel_rfl)) ?_
  intro W base args ds gs before hval0 hW hcnd hsz0 _
  have hsz : (DataW.weightsEach Tryz.prog (Tryz.f3.params.toList ++ Rows.schedChecksSpec.plain.varTypes Tryz.prog) (ds ++ gs)).all (· ≤ reachBytes) = true := hsz0
  have hval : ∀ (j : Nat) t v, Tryz.f3.params[j]? = some t → args[j]? = some v → Value.okWide Tryz.prog W .any base t v := hval0
  have hW' := hW
  obtain ⟨p, q, hA0, hV, rfl, hfz, hnd⟩ := hW
  have hA : DataW.TrodAll enc Tryz.prog W 0 (fun _ => true) true Tryz.f3.params.toList args.toList ds p := hA0
  rw [Tryz.params3] at hA hval hsz
  obtain ⟨v0, vs0, d0, ds0, p0, q0, hargs, rfl, rfl, h0, r0⟩ := trodAll_cons hA
  obtain ⟨rfl, rfl, rfl⟩ := trodAll_nil r0
  obtain rfl : args = #[v0] := by cases args; simp_all
  obtain ⟨rfl, rfl⟩ := trodVars_none hV
  obtain ⟨b0, e0, w0⟩ := Go.AF.agg_of_trod (ks := [.i64, .i64, .i64, .i64]) (by kernel_rfl) (by kernel_rfl) (Go.AF.agg_shape (.inl ⟨_, Tryz.underlying23⟩) (hval 0 23 v0 rfl rfl)) h0
  obtain rfl : v0 = .agg #[.int .i64 (b0 0), .int .i64 (b0 1), .int .i64 (b0 2), .int .i64 (b0 3)] := e0
  have k0 := h0
  have lt0 : ∀ x ∈ p0, x.block < W.heap.size := by obtain ⟨m, hm⟩ := k0; exact DataW.trod_lt m _ _ _ hm
  clear hA0 hval0 hsz0 hsz
  refine (Go.AF.calls_of_acalls (schedChecks_ok  fun M' hc => ⟨rfl, hc⟩)).mono fun e W' ⟨he, bel⟩ => ?_
  subst he
  exact ⟨_, rfl, _, _, _, [], _, [], hW', trodAll_mk1 (shut_bool Tryz.underlying4 _), (trodAll_cons_mk (Below.trod laidOut (by kernel_rfl) (of_decide_eq_true (by kernel_rfl)) k0 bel lt0) trodAll_mk0), rfl, bel.frame _, fun h => by cases h⟩
theorem over : Rows.schedChecksRow.holds Tryz.pinned (OpenSpec.ofChange Rows.schedChecksSpec) :=
  OpenClaim.holds_of_wide 3 Tryz.f3 rfl rfl rfl rfl rfl rfl rfl ⟨rfl, rfl, rfl, rfl, rfl⟩ rfl rfl rfl rfl rfl (by kernel_rfl) Tryz.func3 (by kernel_rfl)
    (of_decide_eq_true (by kernel_rfl)) (by unfold Func.isWrapper; first | (rw [if_pos (by decide +kernel)]; kernel_rfl) | (rw [if_neg (by decide +kernel)]; exact ⟨rfl, rfl⟩))
    (fun os started H enc _ => lifted os started H enc)
theorem proved : Rows.SchedChecksSaid := over
#print axioms proved
end Go.Proofs.YtfjgcljdnhkmaaaGreat.schedChecks
namespace Go.Proofs.YtfjgcljdnhkmaaaGreat
/-- The row, under a short name, for the claim. -/
theorem schedChecks_holds : Rows.SchedChecksSaid := schedChecks.proved
end Go.Proofs.YtfjgcljdnhkmaaaGreat
