/- For every input the law WorldEnds returns true and leaves its arguments as they were; no condition. -/
import Derived.Test.YtfjgcljdnhkmaaaGreatZWorldEnds0
import Derived.Test.YtfjgcljdnhkmaaaGreatZWorldEnds1
import Derived.Test.YtfjgcljdnhkmaaaGreatZWorldEnds2
import Derived.Test.YtfjgcljdnhkmaaaGreatZWorldEnds3
import Derived.Test.YtfjgcljdnhkmaaaGreatZWorldEnds4
import Derived.Test.YtfjgcljdnhkmaaaGreatZWorldEnds5
import Derived.Test.YtfjgcljdnhkmaaaGreatZWorldEnds6
import Derived.Test.YtfjgcljdnhkmaaaGreatZWorldEnds7
import Derived.Test.YtfjgcljdnhkmaaaGreatRows
import Derived.WalkKit
import Derived.ProofKit
import Derived.OpenShut
import Derived.ShutString
import Derived.ChangeOld
import Derived.Below
import Derived.SizedLaws
import Derived.Carry
set_option linter.unusedVariables false
namespace Go.Proofs.YtfjgcljdnhkmaaaGreat.worldEnds
open Go.ChangeShapes Go.WideShapes Go.ChangeAt Go.RowKit
open Go.ChangeMaps (open_string shut_string)
open Go.AF (q6 EU sZ j8)
theorem own : ownKnob Tryz.prog.godebug = none := by kernel_rfl
theorem laidOut : laidOutB Tryz.prog = true := by kernel_rfl
set_option maxRecDepth 100000 in
theorem lifted (os : Os) (started : os.Started) (H : Type) (enc : TypeId × Value → H) :
  ReturnsInHanded {} Tryz.checked os 10 .any (Rows.worldEndsSpec.pre6 enc Tryz.prog Tryz.f10 Rows.worldEndsRow.domain false) (Rows.worldEndsSpec.post enc Tryz.prog Tryz.f10 false true false false) := by
 refine returnsInHanded_of_change_sized (C := Tryz.checked) own started (by kernel_rfl) Tryz.func10
  (ChangeSpec.witness6 (enc := enc) (C := Tryz.checked) false ⟨#[], #[.agg #[.slice none 0 0, .slice none 0 0, .int .i64 0, .slice none 0 0], .slice none 0 0, .int .i64 0], []⟩ 8 (by kernel_rfl) (by kernel_rfl) (by kernel_rfl) (by kernel_rfl)) ?_
 intro W base args ds gs before ZF hW hcnd hsz0 _
 have hsz : (DataW.weightsEach Tryz.prog (Tryz.f10.params.toList ++ Rows.worldEndsSpec.plain.varTypes Tryz.prog) (ds ++ gs)).all (· ≤ reachBytes) = true := hsz0
 have hval : ∀ (j : Nat) t v, Tryz.f10.params[j]? = some t → args[j]? = some v → Value.okWide Tryz.prog W .any base t v := ZF
 have hW' := hW
 obtain ⟨p, q, hA0, hV, rfl, hfz, V0⟩ := hW
 have hA : DataW.TrodAll enc Tryz.prog W 0 (fun _ => true) true Tryz.f10.params.toList args.toList ds p := hA0
 rw [Tryz.params10] at hA hval hsz
 obtain ⟨v0, vs0, d0, ds0, p0, q0, hargs, rfl, rfl, h0, r0⟩ := trodAll_cons hA
 obtain ⟨v1, vs1, d1, ds1, p1, q1, rfl, rfl, rfl, h1, r1⟩ := trodAll_cons r0
 obtain ⟨v2, vs2, d2, ds2, p2, q2, rfl, rfl, rfl, h2, r2⟩ := trodAll_cons r1
 obtain ⟨rfl, rfl, rfl⟩ := trodAll_nil r2
 obtain rfl : args = #[v0, v1, v2] := by cases args; simp_all
 obtain ⟨rfl, rfl⟩ := trodVars_none hV
 obtain ⟨pa0, pp0, e0, g0⟩ := Ju (t1 := 70) (t2 := 38) (t3 := 3) (t4 := 71) Tryz.underlying73 (by kernel_rfl) Tryz.underlying70 Tryz.underlying115 Tryz.underlying38 Tryz.underlying3 Tryz.underlying71 (by kernel_rfl) (by kernel_rfl) (by kernel_rfl) (by kernel_rfl) (by kernel_rfl) (by kernel_rfl) (by kernel_rfl) (by kernel_rfl) (by kernel_rfl) (by kernel_rfl) (by kernel_rfl) (by kernel_rfl) (Go.AF.O1 (.inl ⟨_, Tryz.underlying73⟩) (hval 0 73 v0 rfl rfl)) h0
 subst e0
 have k0 := h0
 have lt0 : ∀ x ∈ p0, x.block < W.heap.size := by obtain ⟨m, hm⟩ := k0; exact DataW.trod_lt m _ _ _ hm
 obtain ⟨a1, len1, cap1, rfl⟩ := okWide_slice Tryz.underlying99 (hval 1 99 v1 rfl rfl)
 have k1 := h1
 have lt1 : ∀ x ∈ p1, x.block < W.heap.size := by obtain ⟨m, hm⟩ := k1; exact DataW.trod_lt m _ _ _ hm
 have g1 : EU (j8 W) a1 len1 cap1 := EU.tu (tb := 4) (ti := 3) Tryz.underlying99 (by kernel_rfl) Tryz.underlying106 Tryz.underlying4 Tryz.underlying3 ⟨by kernel_rfl, by kernel_rfl⟩ rfl rfl rfl (sZ Tryz.underlying99 (hval 1 99 _ rfl rfl)) h1
 obtain ⟨a2, rfl, rfl, rfl, w2⟩ := open_int Tryz.underlying3 (hval 2 3 v2 rfl rfl) h2
 clear hA0 ZF hsz0 hsz
 refine (Go.AF.zR (GU g0 g1 fun M' hc => ⟨rfl, hc⟩)).mono fun e W' ⟨he, bel⟩ => ?_
 subst he
 exact ⟨_, rfl, _, _, _, [], _, [], hW', trodAll_mk1 (shut_bool Tryz.underlying4 _), (trodAll_cons_mk (Below.trod laidOut (by kernel_rfl) (of_decide_eq_true (by kernel_rfl)) k0 bel lt0) (trodAll_cons_mk (Below.trod laidOut (by kernel_rfl) (of_decide_eq_true (by kernel_rfl)) k1 bel lt1) (trodAll_cons_mk (shut_int Tryz.underlying3 w2) trodAll_mk0))), rfl, bel.frame _, fun h => by cases h⟩
theorem over : Rows.worldEndsRow.holds Tryz.pinned (OpenSpec.ofChange Rows.worldEndsSpec) :=
 OpenClaim.holds_of_wide 10 Tryz.f10 rfl rfl rfl rfl rfl rfl rfl ⟨rfl, rfl, rfl, rfl, rfl⟩ rfl rfl rfl rfl rfl (by kernel_rfl) Tryz.func10 (by kernel_rfl)
  (of_decide_eq_true (by kernel_rfl)) (by unfold Func.isWrapper; first | (rw [if_pos (by decide +kernel)]; kernel_rfl) | (rw [if_neg (by decide +kernel)]; exact ⟨rfl, rfl⟩))
  (fun os started H enc _ => lifted os started H enc)
theorem proved : Rows.WorldEndsSaid := over
#print axioms proved
end Go.Proofs.YtfjgcljdnhkmaaaGreat.worldEnds
namespace Go.Proofs.YtfjgcljdnhkmaaaGreat
theorem worldEnds_holds : Rows.WorldEndsSaid := worldEnds.proved
end Go.Proofs.YtfjgcljdnhkmaaaGreat
