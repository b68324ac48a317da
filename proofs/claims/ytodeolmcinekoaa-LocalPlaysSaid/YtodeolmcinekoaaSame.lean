/- A part of proofs about functions of one program: a condition over a partial memory that is enough for a call, and what calls answer by it. No condition of its own. -/
import Derived.Test.YtodeolmcinekoaaChan2
import Derived.Test.YtodeolmcinekoaaVSame
namespace Go.Proofs
open Go.AF
set_option linter.unusedVariables false
set_option maxRecDepth 100000
set_option maxHeartbeats 1000000
attribute [local irreducible] exI exB exS exP exSl exV nilc stc nwc semK semU bsp
theorem law07_Same {A B : Option Addr} {m n ca cb : Nat} {l : List Int} {R : Mem} {L : List HP} {M : Mem} {K : Value → Mem → Prop} {Kp : List PanicEntry → Mem → Prop} (h : Hp R L M) (hA : Src R L A (intE.cells l)) (hB : Src R L B (intE.cells l)) (hm : m = l.length) (hn : n = l.length) (hs : l.length ≤ 1000000000) (k : ∀ M', Hp R L M' → K (.int .i64 0) M') :
    ACalls Try.prog 42 #[.slice A m ca, .slice B n cb] M K Kp := by
  subst hm
  subst hn
  refine vc_shunterlaw07_Same ?_
  refine bsp_ne.2 ⟨fun hn => absurd rfl hn, fun _ => ?_⟩
  refine ⟨fun d vs M => ∃ i : Nat, vs = [.int .i64 (i : Int)] ∧ d = l.length - i ∧ i ≤ l.length ∧ Hp R L M, ⟨_, 0, rfl, rfl, by omega, h⟩, ?_⟩
  clear h
  rintro d _ ii M ⟨i, he, hd, hi, h⟩
  simp only [List.cons.injEq, Value.int.injEq, and_true, true_and] at he
  subst he
  refine bsp_dec.2 ⟨fun hlt => ?_, fun hge => k _ h⟩
  obtain ⟨w, hw⟩ := idx_ex (l := l) (i := i) (by omega)
  obtain ⟨b, o, rfl⟩ := hA.someE h (by omega) (by decide)
  obtain ⟨b', o', rfl⟩ := hB.someE h (by omega) (by decide)
  repeat (first | (refine s_nwc h ?_; clear h; intro kb M h) | (refine s_stc h ?_; clear h; intro M h) | refine t_exI h ?_ | refine t_exB h ?_ | refine t_exS h ?_ | refine t_exP h ?_ | refine t_exSl h ?_ | refine t_exV h ?_ | refine u_exI ?_ | refine u_exB ?_ | refine u_exS ?_ | refine u_exP ?_ | refine u_exSl ?_ | refine u_exV ?_ | refine u_nilc ?_ | (apply Exists.intro; (repeat apply Exists.intro); refine And.intro rfl ?_) | (refine And.intro ?_ ?_; first | exact trivial | exact rfl | exact t_ld h | (refine lds_s (t_ld h) ?_; (repeat (refine lds_s (t_ld h) ?_)); exact lds_nil) | omega) | refine u_bspT ?_ | refine u_bspF ?_)
  refine v_exI (hA.at h (j := 0) hw rfl (by simp [intE])) ?_
  refine v_exI (hB.at h (j := 0) hw rfl (by simp [intE])) ?_
  refine u_bspD (by simp) ?_
  rw [wrap_succ (by omega)]
  exact ⟨l.length - (i + 1), by omega, i + 1, rfl, rfl, by omega, h⟩
end Go.Proofs
