/- A part of proofs about functions of one program: a condition over a partial memory that is enough for a call, and what calls answer by it. No condition of its own. -/
import Derived.Test.YtodeolmcinekoaaRecv
namespace Go.Proofs
open Go.AF
set_option linter.unusedVariables false
set_option maxRecDepth 100000

theorem chans_awake {M : Mem} {K : Value → Mem → Prop} {Kp : List PanicEntry → Mem → Prop} (h : ∀ M', Chg [] M M' → K (.bool true) M') :
    ACalls Try.prog 33 #[] M K Kp := by
  refine vc_shunterlaw13_awake M K Kp ?_
  refine chans_New fun b M1 hb C1 c1 => ?_
  rw [exP_some]
  show ACalls _ _ _ _ _ _
  have e1 : capOf 1 = 1 := rfl
  rw [e1] at C1
  refine chans_Send C1 (by simp) (by simp) (fun h => by cases h) (fun _ w r h => by cases h) (fun _ _ _ F2 M2 C2 c2 f2 => ?_) (fun _ _ h => by simp at h)
  refine ⟨_, _, _, _, _, rfl, ?_⟩
  intro k hk
  simp only [put_set_eq, wr_set_eq, ld_set_eq, Nat.zero_add, List.setIfInBounds_toArray, List.set_cons_zero, List.set_cons_succ, lit_get0, lit_get1, lit_get2, lit_get3, lit_get4, lit_get5, exI_some, exB_some]
  refine ⟨by simp, by simp, by simp, ?_⟩
  have cb : Chg [] M M2 := c1.trans c2 (fun x hx => by simp at hx; subst hx; exact .inr hb)
  have f2' : ∀ x ∈ F2, M x = none := fun x hx => by
    rcases f2 x hx with h | h
    · simp at h
    · exact c1.fresh h
  have cs : ∀ {m : Mem} {k : Nat} {Z : Obj}, m k = none → Chg [] m (m.set k Z) := fun hk => (Chg.refl _ _).set (.inr hk)
  have C3 := C2.chg (cs (Z := .cells #[.int .i64 0, .int .i64 0, .int .i64 0] 54 (0, 0)) hk) (by simp) (by simp)
  have c3 := cb.trans (cs (Z := .cells #[.int .i64 0, .int .i64 0, .int .i64 0] 54 (0, 0)) hk) (fun x hx => .inl hx)
  refine chans_Send C3 (by simp) (by simp) (fun h => by cases h) (fun _ w r h => by cases h) (fun _ _ h => by simp at h) (fun _ _ _ M4 c4 => ?_)
  refine ⟨_, _, _, _, _, rfl, ?_⟩
  intro k' hk'
  have C4 := C3.chg c4 (by simp) (by simp)
  have C5 := C4.chg (cs (Z := .cells #[.int .i64 0, .int .i64 0, .int .i64 0] 54 (0, 0)) hk') (by simp) (by simp)
  have c5 := (c3.trans c4 (fun x hx => .inl hx)).trans (cs (Z := .cells #[.int .i64 0, .int .i64 0, .int .i64 0] 54 (0, 0)) hk') (fun x hx => .inl hx)
  refine ⟨by simp, by simp, by simp, ?_⟩
  refine chans_Recv C5 (by simp) (by simp) (fun v l hv F6 M6 C6 c6 f6 => ?_) (fun h => by simp [rBuf] at h)
  simp only [rBuf, List.nil_append, List.cons.injEq] at hv
  obtain ⟨rfl, rfl⟩ := hv
  refine ⟨_, _, _, _, _, _, _, rfl, ?_⟩
  intro k6 hk6
  refine ⟨by simp, by simp, by simp, by simp, by simp, by simp, ?_⟩
  have c7 := c5.trans c6 (fun x hx => by
    rcases List.mem_cons.1 hx with rfl | hx
    · exact .inr hb
    · exact .inr (f2' x hx))
  exact h _ (c7.trans (cs hk6) (fun x hx => .inl hx))
end Go.Proofs
