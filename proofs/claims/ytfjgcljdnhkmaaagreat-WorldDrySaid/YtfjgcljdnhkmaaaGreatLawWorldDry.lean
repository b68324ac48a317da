/- For every input the law WorldDry returns true and leaves its arguments as they were; no condition. -/
import Derived.Test.YtfjgcljdnhkmaaaGreatZWorldDry0
import Derived.Test.YtfjgcljdnhkmaaaGreatZWorldDry1
import Derived.Test.YtfjgcljdnhkmaaaGreatZWorldDry2
import Derived.Test.YtfjgcljdnhkmaaaGreatZWorldDry3
import Derived.Test.YtfjgcljdnhkmaaaGreatZWorldDry4
import Derived.Test.YtfjgcljdnhkmaaaGreatZWorldDry5
import Derived.Test.YtfjgcljdnhkmaaaGreatZWorldDry6
import Derived.Test.YtfjgcljdnhkmaaaGreatZWorldDry7
import Derived.Test.YtfjgcljdnhkmaaaGreatRows
import Derived.WalkKit
import Derived.ProofKit
import Derived.OpenShut
import Derived.ShutString
import Derived.ChangeOld
import Derived.Below
import Derived.SizedLaws
import Derived.Carry
set_option linter.unusedVariables false
namespace Go.Proofs.YtfjgcljdnhkmaaaGreat.worldDry
open Go.ChangeShapes Go.WideShapes Go.ChangeAt Go.RowKit
open Go.ChangeMaps (open_string shut_string)
open Go.AF (ru Fg tf kf)
theorem own : ownKnob Tryz.prog.godebug = none := by kernel_rfl
theorem laidOut : laidOutB Tryz.prog = true := by kernel_rfl
set_option maxRecDepth 100000 in
theorem lifted (os : Os) (started : os.Started) (H : Type) (enc : TypeId × Value → H) :
  ReturnsInHanded {} Tryz.checked os 9 .any (Rows.worldDrySpec.pre6 enc Tryz.prog Tryz.f9 Rows.worldDryRow.domain false) (Rows.worldDrySpec.post enc Tryz.prog Tryz.f9 false true false false) := by
 refine returnsInHanded_of_change_sized (C := Tryz.checked) own started (by kernel_rfl) Tryz.func9
  (ChangeSpec.witness6 (enc := enc) (C := Tryz.checked) false ⟨#[], #[.agg #[.slice none 0 0, .slice none 0 0, .int .i64 0, .slice none 0 0], .slice none 0 0], []⟩ 8 (by kernel_rfl) (by kernel_rfl) (by kernel_rfl) (by kernel_rfl)) ?_
 intro W base args ds gs before hval0 hW hcnd hsz0 _
 have hsz : (DataW.weightsEach Tryz.prog (Tryz.f9.params.toList ++ Rows.worldDrySpec.plain.varTypes Tryz.prog) (ds ++ gs)).all (· ≤ reachBytes) = true := hsz0
 have hval : ∀ (j : Nat) t v, Tryz.f9.params[j]? = some t → args[j]? = some v → Value.okWide Tryz.prog W .any base t v := hval0
 have hW' := hW
 obtain ⟨p, q, hA0, hV, rfl, hfz, QZ⟩ := hW
 have hA : DataW.TrodAll enc Tryz.prog W 0 (fun _ => true) true Tryz.f9.params.toList args.toList ds p := hA0
 rw [Tryz.params9] at hA hval hsz
 obtain ⟨v0, vs0, d0, ds0, p0, q0, hargs, rfl, rfl, h0, r0⟩ := trodAll_cons hA
 obtain ⟨v1, vs1, d1, ds1, p1, q1, rfl, rfl, rfl, h1, r1⟩ := trodAll_cons r0
 obtain ⟨rfl, rfl, rfl⟩ := trodAll_nil r1
 obtain rfl : args = #[v0, v1] := by cases args; simp_all
 obtain ⟨rfl, rfl⟩ := trodVars_none hV
 obtain ⟨pa0, pp0, e0, g0⟩ := JV (t1 := 70) (t2 := 38) (t3 := 3) (t4 := 71) Tryz.underlying73 (by kernel_rfl) Tryz.underlying70 Tryz.underlying115 Tryz.underlying38 Tryz.underlying3 Tryz.underlying71 (by kernel_rfl) (by kernel_rfl) (by kernel_rfl) (by kernel_rfl) (by kernel_rfl) (by kernel_rfl) (by kernel_rfl) (by kernel_rfl) (by kernel_rfl) (by kernel_rfl) (by kernel_rfl) (by kernel_rfl) (Go.AF.PF (.inl ⟨_, Tryz.underlying73⟩) (hval 0 73 v0 rfl rfl)) h0
 subst e0
 have k0 := h0
 have lt0 : ∀ x ∈ p0, x.block < W.heap.size := by obtain ⟨m, hm⟩ := k0; exact DataW.trod_lt m _ _ _ hm
 obtain ⟨a1, len1, cap1, rfl⟩ := okWide_slice Tryz.underlying99 (hval 1 99 v1 rfl rfl)
 have k1 := h1
 have lt1 : ∀ x ∈ p1, x.block < W.heap.size := by obtain ⟨m, hm⟩ := k1; exact DataW.trod_lt m _ _ _ hm
 have g1 : Fg (kf W) a1 len1 cap1 := Fg.tx (tb := 4) (ti := 3) Tryz.underlying99 (by kernel_rfl) Tryz.underlying106 Tryz.underlying4 Tryz.underlying3 ⟨by kernel_rfl, by kernel_rfl⟩ rfl rfl rfl (tf Tryz.underlying99 (hval 1 99 _ rfl rfl)) h1
 clear hA0 hval0 hsz0 hsz
 refine (Go.AF.zX (Kk g0 g1 fun M' hc => ⟨rfl, hc⟩)).mono fun e W' ⟨he, bel⟩ => ?_
 subst he
 exact ⟨_, rfl, _, _, _, [], _, [], hW', trodAll_mk1 (shut_bool Tryz.underlying4 _), (trodAll_cons_mk (Below.trod laidOut (by kernel_rfl) (of_decide_eq_true (by kernel_rfl)) k0 bel lt0) (trodAll_cons_mk (Below.trod laidOut (by kernel_rfl) (of_decide_eq_true (by kernel_rfl)) k1 bel lt1) trodAll_mk0)), rfl, bel.frame _, fun h => by cases h⟩
theorem over : Rows.worldDryRow.holds Tryz.pinned (OpenSpec.ofChange Rows.worldDrySpec) :=
 OpenClaim.holds_of_wide 9 Tryz.f9 rfl rfl rfl rfl rfl rfl rfl ⟨rfl, rfl, rfl, rfl, rfl⟩ rfl rfl rfl rfl rfl (by kernel_rfl) Tryz.func9 (by kernel_rfl)
  (of_decide_eq_true (by kernel_rfl)) (by unfold Func.isWrapper; first | (rw [if_pos (by decide +kernel)]; kernel_rfl) | (rw [if_neg (by decide +kernel)]; exact ⟨rfl, rfl⟩))
  (fun os started H enc _ => lifted os started H enc)
theorem proved : Rows.WorldDrySaid := over
#print axioms proved
end Go.Proofs.YtfjgcljdnhkmaaaGreat.worldDry
namespace Go.Proofs.YtfjgcljdnhkmaaaGreat
theorem worldDry_holds : Rows.WorldDrySaid := worldDry.proved
end Go.Proofs.YtfjgcljdnhkmaaaGreat
