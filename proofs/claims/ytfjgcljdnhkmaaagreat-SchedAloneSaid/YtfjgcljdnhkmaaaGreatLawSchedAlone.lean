/- For every input the law SchedAlone returns true and leaves its arguments as they were; no condition. -/
import Derived.Test.YtfjgcljdnhkmaaaGreatZSchedAlone0
import Derived.Test.YtfjgcljdnhkmaaaGreatZSchedAlone1
import Derived.Test.YtfjgcljdnhkmaaaGreatZSchedAlone2
import Derived.Test.YtfjgcljdnhkmaaaGreatZSchedAlone3
import Derived.Test.YtfjgcljdnhkmaaaGreatZSchedAlone4
import Derived.Test.YtfjgcljdnhkmaaaGreatZSchedAlone5
import Derived.Test.YtfjgcljdnhkmaaaGreatRows
import Derived.WalkKit
import Derived.ProofKit
import Derived.OpenShut
import Derived.ShutString
import Derived.ChangeOld
import Derived.Below
import Derived.SizedLaws
import Derived.Carry
set_option linter.unusedVariables false
namespace Go.Proofs.YtfjgcljdnhkmaaaGreat.schedAlone
open Go.ChangeShapes Go.WideShapes Go.ChangeAt Go.RowKit
open Go.ChangeMaps (open_string shut_string)
open Go.AF (RE)
theorem own : ownKnob Tryz.prog.godebug = none := by kernel_rfl
theorem laidOut : laidOutB Tryz.prog = true := by kernel_rfl
set_option maxRecDepth 100000 in
theorem lifted (os : Os) (started : os.Started) (H : Type) (enc : TypeId × Value → H) :
  ReturnsInHanded {} Tryz.checked os 5 .any (Rows.schedAloneSpec.pre6 enc Tryz.prog Tryz.f5 Rows.schedAloneRow.domain false) (Rows.schedAloneSpec.post enc Tryz.prog Tryz.f5 false true false false) := by
 refine returnsInHanded_of_change_sized (C := Tryz.checked) own started (by kernel_rfl) Tryz.func5
  (ChangeSpec.witness6 (enc := enc) (C := Tryz.checked) false ⟨#[], #[.int .i64 0, .int .i64 0, .agg #[.int .i64 0, .int .i64 0, .int .i64 0, .int .i64 0]], []⟩ 8 (by kernel_rfl) (by kernel_rfl) (by kernel_rfl) (by kernel_rfl)) ?_
 intro W base args ds gs before NM hW hcnd Tu _
 have hsz : (DataW.weightsEach Tryz.prog (Tryz.f5.params.toList ++ Rows.schedAloneSpec.plain.varTypes Tryz.prog) (ds ++ gs)).all (· ≤ reachBytes) = true := Tu
 have hval : ∀ (j : Nat) t v, Tryz.f5.params[j]? = some t → args[j]? = some v → Value.okWide Tryz.prog W .any base t v := NM
 have hW' := hW
 obtain ⟨p, q, Nm, hV, rfl, hfz, ZH⟩ := hW
 have hA : DataW.TrodAll enc Tryz.prog W 0 (fun _ => true) true Tryz.f5.params.toList args.toList ds p := Nm
 rw [Tryz.params5] at hA hval hsz
 obtain ⟨v0, vs0, d0, ds0, p0, q0, hargs, rfl, rfl, h0, r0⟩ := trodAll_cons hA
 obtain ⟨v1, vs1, d1, ds1, p1, q1, rfl, rfl, rfl, h1, r1⟩ := trodAll_cons r0
 obtain ⟨v2, vs2, d2, ds2, p2, q2, rfl, rfl, rfl, h2, r2⟩ := trodAll_cons r1
 obtain ⟨rfl, rfl, rfl⟩ := trodAll_nil r2
 obtain rfl : args = #[v0, v1, v2] := by cases args; simp_all
 obtain ⟨rfl, rfl⟩ := trodVars_none hV
 obtain ⟨a0, rfl, rfl, rfl, w0⟩ := open_int Tryz.underlying3 (hval 0 3 v0 rfl rfl) h0
 obtain ⟨a1, rfl, rfl, rfl, w1⟩ := open_int Tryz.underlying3 (hval 1 3 v1 rfl rfl) h1
 obtain ⟨b2, e2, w2⟩ := Go.AF.AU (ks := [.i64, .i64, .i64, .i64]) (by kernel_rfl) (by kernel_rfl) (Go.AF.FB (.inl ⟨_, Tryz.underlying23⟩) (hval 2 23 v2 rfl rfl)) h2
 obtain rfl : v2 = .agg #[.int .i64 (b2 0), .int .i64 (b2 1), .int .i64 (b2 2), .int .i64 (b2 3)] := e2
 have k2 := h2
 have lt2 : ∀ x ∈ p2, x.block < W.heap.size := by obtain ⟨m, hm⟩ := k2; exact DataW.trod_lt m _ _ _ hm
 clear Nm NM Tu hsz
 refine (Go.AF.ur (xN  fun M' hc => ⟨rfl, hc⟩)).mono fun e W' ⟨he, ZM⟩ => ?_
 subst he
 exact ⟨_, rfl, _, _, _, [], _, [], hW', trodAll_mk1 (shut_bool Tryz.underlying4 _), (trodAll_cons_mk (shut_int Tryz.underlying3 w0) (trodAll_cons_mk (shut_int Tryz.underlying3 w1) (trodAll_cons_mk (Below.trod laidOut (by kernel_rfl) (of_decide_eq_true (by kernel_rfl)) k2 ZM lt2) trodAll_mk0))), rfl, ZM.frame _, fun h => by cases h⟩
theorem YS : Rows.schedAloneRow.holds Tryz.pinned (OpenSpec.ofChange Rows.schedAloneSpec) :=
 OpenClaim.holds_of_wide 5 Tryz.f5 rfl rfl rfl rfl rfl rfl rfl ⟨rfl, rfl, rfl, rfl, rfl⟩ rfl rfl rfl rfl rfl (by kernel_rfl) Tryz.func5 (by kernel_rfl)
  (of_decide_eq_true (by kernel_rfl)) (by unfold Func.isWrapper; first | (rw [if_pos (by decide +kernel)]; kernel_rfl) | (rw [if_neg (by decide +kernel)]; exact ⟨rfl, rfl⟩))
  (fun os started H enc _ => lifted os started H enc)
theorem proved : Rows.SchedAloneSaid := YS
#print axioms proved
end Go.Proofs.YtfjgcljdnhkmaaaGreat.schedAlone
namespace Go.Proofs.YtfjgcljdnhkmaaaGreat
theorem schedAlone_holds : Rows.SchedAloneSaid := schedAlone.proved
end Go.Proofs.YtfjgcljdnhkmaaaGreat
