/- For every input the law SchedWakes returns true and leaves its arguments as they were; no condition. -/
import Derived.Test.YtnnlgknlialpmaaGreatZSchedWakes0
import Derived.Test.YtnnlgknlialpmaaGreatZSchedWakes1
import Derived.Test.YtnnlgknlialpmaaGreatZSchedWakes2
import Derived.Test.YtnnlgknlialpmaaGreatZSchedWakes3
import Derived.Test.YtnnlgknlialpmaaGreatZSchedWakes4
import Derived.Test.YtnnlgknlialpmaaGreatZSchedWakes5
import Derived.Test.YtnnlgknlialpmaaGreatZSchedWakes6
import Derived.Test.YtnnlgknlialpmaaGreatRows
import Derived.WalkKit
import Derived.ProofKit
import Derived.OpenShut
import Derived.ShutString
import Derived.ChangeOld
import Derived.Below
import Derived.SizedLaws
import Derived.Carry
set_option linter.unusedVariables false
namespace Go.Proofs.YtnnlgknlialpmaaGreat.schedWakes
open Go.ChangeShapes Go.WideShapes Go.ChangeAt Go.RowKit
open Go.ChangeMaps (open_string shut_string)
open Go.AF (S0)
theorem own : ownKnob Tryz.prog.godebug = none := by kernel_rfl
theorem laidOut : laidOutB Tryz.prog = true := by kernel_rfl
set_option maxRecDepth 100000 in
theorem lifted (os : Os) (started : os.Started) (H : Type) (enc : TypeId × Value → H) :
  ReturnsInHanded {} Tryz.checked os 3 .any (Rows.schedWakesSpec.pre6 enc Tryz.prog Tryz.f3 Rows.schedWakesRow.domain false) (Rows.schedWakesSpec.post enc Tryz.prog Tryz.f3 false true false false) := by
 refine returnsInHanded_of_change_sized (C := Tryz.checked) own started (by kernel_rfl) Tryz.func3
  (ChangeSpec.witness6 (enc := enc) (C := Tryz.checked) false ⟨#[], #[.int .i64 0, .agg #[.int .i64 0, .int .i64 0, .int .i64 0, .int .i64 0]], []⟩ 8 (by kernel_rfl) (by kernel_rfl) (by kernel_rfl) (by kernel_rfl)) ?_
 intro W base args ds gs before OK hW hcnd UX _
 have hsz : (DataW.weightsEach Tryz.prog (Tryz.f3.params.toList ++ Rows.schedWakesSpec.plain.varTypes Tryz.prog) (ds ++ gs)).all (· ≤ reachBytes) = true := UX
 have hval : ∀ (j : Nat) t v, Tryz.f3.params[j]? = some t → args[j]? = some v → Value.okWide Tryz.prog W .any base t v := OK
 have hW' := hW
 obtain ⟨p, q, Om, hV, rfl, hfz, hnd⟩ := hW
 have hA : DataW.TrodAll enc Tryz.prog W 0 (fun _ => true) true Tryz.f3.params.toList args.toList ds p := Om
 rw [Tryz.params3] at hA hval hsz
 obtain ⟨v0, vs0, d0, ds0, p0, q0, hargs, rfl, rfl, h0, r0⟩ := trodAll_cons hA
 obtain ⟨v1, vs1, d1, ds1, p1, q1, rfl, rfl, rfl, h1, r1⟩ := trodAll_cons r0
 obtain ⟨rfl, rfl, rfl⟩ := trodAll_nil r1
 obtain rfl : args = #[v0, v1] := by cases args; simp_all
 obtain ⟨rfl, rfl⟩ := trodVars_none hV
 obtain ⟨a0, rfl, rfl, rfl, w0⟩ := open_int Tryz.underlying3 (hval 0 3 v0 rfl rfl) h0
 obtain ⟨b1, e1, w1⟩ := Go.AF.BM (ks := [.i64, .i64, .i64, .i64]) (by kernel_rfl) (by kernel_rfl) (Go.AF.Gq (.inl ⟨_, Tryz.underlying23⟩) (hval 1 23 v1 rfl rfl)) h1
 obtain rfl : v1 = .agg #[.int .i64 (b1 0), .int .i64 (b1 1), .int .i64 (b1 2), .int .i64 (b1 3)] := e1
 have k1 := h1
 have lt1 : ∀ x ∈ p1, x.block < W.heap.size := by obtain ⟨m, hm⟩ := k1; exact DataW.trod_lt m _ _ _ hm
 clear Om OK UX hsz
 refine (Go.AF.u5 (yp  fun M' hc => ⟨rfl, hc⟩)).mono fun e W' ⟨he, bel⟩ => ?_
 subst he
 exact ⟨_, rfl, _, _, _, [], _, [], hW', trodAll_mk1 (shut_bool Tryz.underlying4 _), (trodAll_cons_mk (shut_int Tryz.underlying3 w0) (trodAll_cons_mk (Below.trod laidOut (by kernel_rfl) (of_decide_eq_true (by kernel_rfl)) k1 bel lt1) trodAll_mk0)), rfl, bel.frame _, fun h => by cases h⟩
theorem andI {a b : Bool} (x : a = true) (y : b = true) : (a && b) = true := by rw [x, y]; rfl
set_option maxHeartbeats 4000000 in
theorem joined : joinedFacts Tryz.pinned.checked.prog 3 Tryz.f3 Rows.schedWakesSpec Rows.schedWakesRow = true := by
 unfold joinedFacts
 iterate 31 refine andI ?_ (by decide +kernel)
 decide +kernel
theorem over : Rows.schedWakesRow.holds Tryz.pinned (OpenSpec.ofChange Rows.schedWakesSpec) :=
 OpenClaim.holds_of_wide 3 Tryz.f3 rfl rfl rfl rfl rfl rfl rfl ⟨rfl, rfl, rfl, rfl, rfl⟩ rfl rfl rfl rfl rfl (by kernel_rfl) Tryz.func3 joined
  (of_decide_eq_true (by kernel_rfl)) (by unfold Func.isWrapper; first | (rw [if_pos (by decide +kernel)]; kernel_rfl) | (rw [if_neg (by decide +kernel)]; exact ⟨rfl, rfl⟩))
  (fun os started H enc _ => lifted os started H enc)
theorem proved : Rows.SchedWakesSaid := over
#print axioms proved
end Go.Proofs.YtnnlgknlialpmaaGreat.schedWakes
namespace Go.Proofs.YtnnlgknlialpmaaGreat
theorem schedWakes_holds : Rows.SchedWakesSaid := schedWakes.proved
end Go.Proofs.YtnnlgknlialpmaaGreat
