/- For every input the law FairBound returns true and leaves its arguments as they were; no condition. -/
import Derived.Test.YtnnlgknlialpmaaGreatZFairBound0
import Derived.Test.YtnnlgknlialpmaaGreatZFairBound1
import Derived.Test.YtnnlgknlialpmaaGreatZFairBound2
import Derived.Test.YtnnlgknlialpmaaGreatZFairBound3
import Derived.Test.YtnnlgknlialpmaaGreatZFairBound4
import Derived.Test.YtnnlgknlialpmaaGreatZFairBound5
import Derived.Test.YtnnlgknlialpmaaGreatZFairBound6
import Derived.Test.YtnnlgknlialpmaaGreatRows
import Derived.WalkKit
import Derived.ProofKit
import Derived.OpenShut
import Derived.ShutString
import Derived.ChangeOld
import Derived.Below
import Derived.SizedLaws
import Derived.Carry
set_option linter.unusedVariables false
namespace Go.Proofs.YtnnlgknlialpmaaGreat.fairBound
open Go.ChangeShapes Go.WideShapes Go.ChangeAt Go.RowKit
open Go.ChangeMaps (open_string shut_string)
open Go.AF (pG)
theorem own : ownKnob Tryz.prog.godebug = none := by kernel_rfl
theorem laidOut : laidOutB Tryz.prog = true := by kernel_rfl
set_option maxRecDepth 100000 in
theorem lifted (os : Os) (started : os.Started) (H : Type) (enc : TypeId × Value → H) :
  ReturnsInHanded {} Tryz.checked os 7 .any (Rows.fairBoundSpec.pre6 enc Tryz.prog Tryz.f7 Rows.fairBoundRow.domain false) (Rows.fairBoundSpec.post enc Tryz.prog Tryz.f7 false true false false) := by
 refine returnsInHanded_of_change_sized (C := Tryz.checked) own started (by kernel_rfl) Tryz.func7
  (ChangeSpec.witness6 (enc := enc) (C := Tryz.checked) false ⟨#[], #[.agg #[.slice none 0 0, .slice none 0 0, .int .i64 0, .slice none 0 0], .agg #[.int .i64 0, .int .i64 0, .int .i64 0, .int .i64 0], .int .u64 0], []⟩ 8 (by kernel_rfl) (by kernel_rfl) (by kernel_rfl) (by kernel_rfl)) ?_
 intro W base args ds gs before Tp hW hcnd hsz0 _
 have hsz : (DataW.weightsEach Tryz.prog (Tryz.f7.params.toList ++ Rows.fairBoundSpec.plain.varTypes Tryz.prog) (ds ++ gs)).all (· ≤ reachBytes) = true := hsz0
 have hval : ∀ (j : Nat) t v, Tryz.f7.params[j]? = some t → args[j]? = some v → Value.okWide Tryz.prog W .any base t v := Tp
 have hW' := hW
 obtain ⟨p, q, SU, hV, rfl, hfz, hnd⟩ := hW
 have hA : DataW.TrodAll enc Tryz.prog W 0 (fun _ => true) true Tryz.f7.params.toList args.toList ds p := SU
 rw [Tryz.params7] at hA hval hsz
 obtain ⟨v0, vs0, d0, ds0, p0, q0, hargs, rfl, rfl, h0, r0⟩ := trodAll_cons hA
 obtain ⟨v1, vs1, d1, ds1, p1, q1, rfl, rfl, rfl, h1, r1⟩ := trodAll_cons r0
 obtain ⟨v2, vs2, d2, ds2, p2, q2, rfl, rfl, rfl, h2, r2⟩ := trodAll_cons r1
 obtain ⟨rfl, rfl, rfl⟩ := trodAll_nil r2
 obtain rfl : args = #[v0, v1, v2] := by cases args; simp_all
 obtain ⟨rfl, rfl⟩ := trodVars_none hV
 obtain ⟨pa0, pp0, e0, g0⟩ := FC (t1 := 56) (t2 := 36) (t3 := 3) (t4 := 57) Tryz.underlying59 (by kernel_rfl) Tryz.underlying56 Tryz.underlying61 Tryz.underlying36 Tryz.underlying3 Tryz.underlying57 (by kernel_rfl) (by kernel_rfl) (by kernel_rfl) (by kernel_rfl) (by kernel_rfl) (by kernel_rfl) (by kernel_rfl) (by kernel_rfl) (by kernel_rfl) (by kernel_rfl) (by kernel_rfl) (by kernel_rfl) (Go.AF.BW (.inl ⟨_, Tryz.underlying59⟩) (hval 0 59 v0 rfl rfl)) h0
 subst e0
 have k0 := h0
 have lt0 : ∀ x ∈ p0, x.block < W.heap.size := by obtain ⟨m, hm⟩ := k0; exact DataW.trod_lt m _ _ _ hm
 obtain ⟨b1, e1, w1⟩ := Go.AF.Ey (ks := [.i64, .i64, .i64, .i64]) (by kernel_rfl) (by kernel_rfl) (Go.AF.BW (.inl ⟨_, Tryz.underlying23⟩) (hval 1 23 v1 rfl rfl)) h1
 obtain rfl : v1 = .agg #[.int .i64 (b1 0), .int .i64 (b1 1), .int .i64 (b1 2), .int .i64 (b1 3)] := e1
 have k1 := h1
 have lt1 : ∀ x ∈ p1, x.block < W.heap.size := by obtain ⟨m, hm⟩ := k1; exact DataW.trod_lt m _ _ _ hm
 obtain ⟨a2, rfl, rfl, rfl, w2⟩ := open_int Tryz.underlying32 (hval 2 32 v2 rfl rfl) h2
 clear SU Tp hsz0 hsz
 refine (Go.AF.xw (DL g0 fun M' hc => ⟨rfl, hc⟩)).mono fun e W' ⟨he, bel⟩ => ?_
 subst he
 exact ⟨_, rfl, _, _, _, [], _, [], hW', trodAll_mk1 (shut_bool Tryz.underlying4 _), (trodAll_cons_mk (Below.trod laidOut (by kernel_rfl) (of_decide_eq_true (by kernel_rfl)) k0 bel lt0) (trodAll_cons_mk (Below.trod laidOut (by kernel_rfl) (of_decide_eq_true (by kernel_rfl)) k1 bel lt1) (trodAll_cons_mk (shut_int Tryz.underlying32 w2) trodAll_mk0))), rfl, bel.frame _, fun h => by cases h⟩
theorem andI {a b : Bool} (x : a = true) (y : b = true) : (a && b) = true := by rw [x, y]; rfl
set_option maxHeartbeats 4000000 in
theorem joined : joinedFacts Tryz.pinned.checked.prog 7 Tryz.f7 Rows.fairBoundSpec Rows.fairBoundRow = true := by
 unfold joinedFacts
 iterate 31 refine andI ?_ (by decide +kernel)
 decide +kernel
theorem over : Rows.fairBoundRow.holds Tryz.pinned (OpenSpec.ofChange Rows.fairBoundSpec) :=
 OpenClaim.holds_of_wide 7 Tryz.f7 rfl rfl rfl rfl rfl rfl rfl ⟨rfl, rfl, rfl, rfl, rfl⟩ rfl rfl rfl rfl rfl (by kernel_rfl) Tryz.func7 joined
  (of_decide_eq_true (by kernel_rfl)) (by unfold Func.isWrapper; first | (rw [if_pos (by decide +kernel)]; kernel_rfl) | (rw [if_neg (by decide +kernel)]; exact ⟨rfl, rfl⟩))
  (fun os started H enc _ => lifted os started H enc)
theorem proved : Rows.FairBoundSaid := over
#print axioms proved
end Go.Proofs.YtnnlgknlialpmaaGreat.fairBound
namespace Go.Proofs.YtnnlgknlialpmaaGreat
theorem fairBound_holds : Rows.FairBoundSaid := fairBound.proved
end Go.Proofs.YtnnlgknlialpmaaGreat
