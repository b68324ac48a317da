/- A part of proofs about functions of one program: a condition over a partial memory that is enough for a call, and what calls answer by it. No condition of its own. -/
import Derived.Test.YtodeolmcinekoaaLaw08L
namespace Go.Proofs
open Go.AF
set_option linter.unusedVariables false
set_option maxRecDepth 100000
set_option maxHeartbeats 1000000
attribute [local irreducible] exI exB exS exP exSl exV nilc stc nwc semK semU bsp
attribute [local irreducible] objsP objsX
section
variable {K : Value → Mem → Prop} {Kp : List PanicEntry → Mem → Prop}
theorem wf_lt {n : Int} (h : (Lit.int .i64 n).wf = true) : -9223372036854775808 ≤ n ∧ n < 9223372036854775808 := by
  simp only [Lit.wf, Bool.and_eq_true, decide_eq_true_eq, IntKind.min, IntKind.max, IntKind.signed, IntKind.bits] at h
  simp only [if_true] at h
  omega
theorem localPlays {r0 r1 r2 r3 : Int} {A : Option Addr} {n c : Nat} {M0 : Mem} (hs : ArgSl M0 A n c [.i64, .i64, .i64]) (k : ∀ M', Chg [] M0 M' → K (.bool true) M') :
    ACalls Try.prog 17 #[.agg #[.int .i64 r0, .int .i64 r1, .int .i64 r2, .int .i64 r3], .slice A n c] M0 K Kp := by
  obtain ⟨acts, rfl, hc, hrl, hB, hw⟩ := hs
  have hB2 : 0 < acts.length → RS (kE [.i64, .i64, .i64]) M0 A c acts := fun h0 => ⟨hB h0, hc⟩
  refine vc_shunterlaw08_LocalPlays ?_
  have h := Hp.start M0
  repeat (first | (refine s_nwc h ?_; clear h; intro kb M h) | (refine s_stc h ?_; clear h; intro M h) | refine t_exI h ?_ | refine t_exB h ?_ | refine t_exS h ?_ | refine t_exP h ?_ | refine t_exSl h ?_ | refine t_exV h ?_ | refine u_exI ?_ | refine u_exB ?_ | refine u_exS ?_ | refine u_exP ?_ | refine u_exSl ?_ | refine u_exV ?_ | refine u_nilc ?_ | (apply Exists.intro; (repeat apply Exists.intro); refine And.intro rfl ?_) | (refine And.intro ?_ ?_; first | exact trivial | exact rfl | exact t_ld h | (refine lds_s (t_ld h) ?_; (repeat (refine lds_s (t_ld h) ?_)); exact lds_nil) | omega) | refine u_bspT ?_ | refine u_bspF ?_)
  refine law08_awake h ?_
  clear h
  intro M h
  repeat (first | (refine s_nwc h ?_; clear h; intro kb M h) | (refine s_stc h ?_; clear h; intro M h) | refine t_exI h ?_ | refine t_exB h ?_ | refine t_exS h ?_ | refine t_exP h ?_ | refine t_exSl h ?_ | refine t_exV h ?_ | refine u_exI ?_ | refine u_exB ?_ | refine u_exS ?_ | refine u_exP ?_ | refine u_exSl ?_ | refine u_exV ?_ | refine u_nilc ?_ | (apply Exists.intro; (repeat apply Exists.intro); refine And.intro rfl ?_) | (refine And.intro ?_ ?_; first | exact trivial | exact rfl | exact t_ld h | (refine lds_s (t_ld h) ?_; (repeat (refine lds_s (t_ld h) ?_)); exact lds_nil) | omega) | refine u_bspT ?_ | refine u_bspF ?_)
  refine law08_made h fun wb s M hw8 hok => ?_
  clear h
  refine u_exP ?_
  refine ⟨fun d ws M => ∃ (i : Nat) (R1 : Mem) (s : S8) (n : Nat) (L : List HP), ws = [.int .i64 (i : Int)] ∧ d = 60 - i ∧ i ≤ 60 ∧ M0.le R1 ∧ s.Ok n ∧ n ≤ i ∧ W8 R1 L wb s M, ⟨_, 0, M0, s, 0, _, rfl, rfl, by omega, Mem.le_refl _, hok, by omega, hw8⟩, ?_⟩
  clear hw8 hok
  rintro d _ ii M ⟨i, R1, s, n, L, he, hd, hi, g1, hok, hn, hw8⟩
  simp only [List.cons.injEq, Value.int.injEq, and_true, true_and] at he
  subst he
  have fin : K (.bool true) M := by
    obtain ⟨_, _, _, _, _, _, _, _, _, _, _, _, _, _, h⟩ := hw8
    exact k _ (h.done g1)
  refine bsp_two fin fun hlt h60 => ?_
  clear fin
  obtain ⟨a, ha⟩ := idx_ex (l := acts) (i := i) (by omega)
  have hwf := wf_lt (hw a (List.mem_of_getElem? ha) 2 .i64 rfl)
  have hB3 := (hB2 (by omega)).le g1
  obtain ⟨b1, o1, rfl⟩ := hB3.some (by omega) (by decide)
  refine And.intro (by omega) (And.intro hlt (u_nilc ?_))
  simp only [Int.toNat_natCast]
  obtain ⟨L1, h1⟩ : ∃ L1, Hp R1 L1 M := by
    obtain ⟨_, _, _, _, _, _, _, _, _, _, _, _, _, _, h⟩ := id hw8
    exact ⟨_, h⟩
  refine v_exI (hB3.src.at h1 (i := i) (j := 0) ha rfl rfl) ?_
  refine v_exI (hB3.src.at h1 (i := i) (j := 1) ha rfl rfl) ?_
  refine v_exI (hB3.src.at h1 (i := i) (j := 2) ha rfl rfl) ?_
  clear h1
  refine law08_does hw8 hok (by omega) hwf.2 fun kd i' j' R2 M hi' hj' g2 hw8 => ?_
  obtain ⟨n', hn', hok'⟩ := does8_ok hok kd i' j' hi' hj' (a 2)
  refine u_exB (u_bspF ?_)
  refine law08_same hw8 hok' (by omega) fun M hw8 => ?_
  refine u_exB (u_bspF ?_)
  rw [wrap_succ (by omega)]
  exact ⟨60 - (i + 1), by omega, i + 1, R2, _, n', _, rfl, rfl, by omega, Mem.le_trans g1 g2, hok', by omega, hw8⟩
end
end Go.Proofs
