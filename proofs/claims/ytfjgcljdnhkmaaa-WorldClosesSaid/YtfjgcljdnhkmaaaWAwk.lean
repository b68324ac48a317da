/- A part of proofs about functions of one program: a condition over a partial memory that is enough for a call, and what calls answer by it. No condition of its own. -/
import Derived.Test.YtfjgcljdnhkmaaaWX
import Derived.Test.YtfjgcljdnhkmaaaVAwk
/- What the world's law calls first. -/
namespace Go.Proofs
open Go.AF
set_option linter.unusedVariables false
set_option maxRecDepth 100000
set_option maxHeartbeats 1000000
attribute [local irreducible] exI exB exS exP exSl exV nilc stc nwc semK semU bsp
def p0 : Prg := ⟨[[⟨20, 0, 0, 0⟩, ⟨10, 0, 0, 0⟩]], [], 0, []⟩
def aw1 : Wd × Bool := (exec p0 (Wd.new p0) 0).getD (Wd.new p0, false)
def aw2 : Wd × Bool := (exec p0 aw1.1 0).getD (Wd.new p0, false)
theorem aw1_eq : exec p0 (Wd.new p0) 0 = some (aw1.1, true) := by kernel_rfl
theorem aw2_eq : exec p0 aw1.1 0 = some (aw2.1, false) := by kernel_rfl
section
variable {R : Mem} {L L' : List HP} {M : Mem} {K : Value → Mem → Prop} {Kp : List PanicEntry → Mem → Prop}
theorem law16_awake (h : Hp R L M) (k : ∀ R' M', R.le R' → Hp R' L M' → K (.bool true) M') : ACalls Try.prog 6 #[] M K Kp := by
  refine vc_shunterlaw16_awake ?_
  refine s_nwc h ?_
  clear h; intro k1 M h
  refine s_nwc h ?_
  clear h; intro k3 M h
  have h1 := (h.pt k1).row_pt (E := insE) (l := [⟨20, 0, 0, 0⟩, ⟨10, 0, 0, 0⟩]) rfl
  obtain ⟨R1, hle1, hr1, h2⟩ := h1.sealRow (some ⟨k1, 0, none⟩)
  have h3 := h2.row_pt (E := slE) (l := [(some ⟨k1, 0, none⟩, 2, 2)]) rfl
  obtain ⟨R2, hle2, hr2, h4⟩ := h3.sealRow (some ⟨k3, 0, none⟩)
  clear h h1 h2 h3
  have hp : PrgR R2 ⟨some ⟨k3, 0, none⟩, 1, none, 0, none, 0⟩ p0 := ⟨⟨_, hr2, rfl, fun i t f a b => by
    match i, a, b with
    | 0, a, b => simp at a; cases b; subst a; exact ⟨hr1.le hle2, rfl⟩
    | i + 1, a, b => simp at a⟩, RS.nil _ _⟩
  have hle : R.le R2 := Mem.le_trans hle1 hle2
  refine world_New (p := p0) (pa := ⟨some ⟨k3, 0, none⟩, 1, none, 0, none, 0⟩) h4 (RS.nil _ _) (by decide) (by decide) ?_
  clear h4
  intro b M h
  refine u_exP (u_bspF ?_)
  refine law_Exec h hp ⟨_, _, _, rfl⟩ aw1_eq ?_
  clear h
  intro R3 A1 c1 M hle3 hrs1 h
  refine ⟨_, _, _, _, rfl, ?_⟩
  refine law_Exec h (hp.le hle3) ⟨_, _, _, rfl⟩ aw2_eq ?_
  clear h
  intro R4 A2 c2 M hle4 hrs2 h
  refine ⟨_, _, _, _, rfl, ?_⟩
  repeat (first | (refine s_nwc h ?_; clear h; intro kb M h) | (refine s_stc h ?_; clear h; intro M h) | refine t_exI h ?_ | refine t_exB h ?_ | refine t_exS h ?_ | refine t_exP h ?_ | refine t_exSl h ?_ | refine t_exV h ?_ | refine u_exI ?_ | refine u_exB ?_ | refine u_exS ?_ | refine u_exP ?_ | refine u_exSl ?_ | refine u_exV ?_ | refine u_nilc ?_ | (apply Exists.intro; (repeat apply Exists.intro); refine And.intro rfl ?_) | (refine And.intro ?_ ?_; first | exact trivial | exact rfl | exact t_ld h | (refine lds_s (t_ld h) ?_; (repeat (refine lds_s (t_ld h) ?_)); exact lds_nil) | omega) | refine u_bspT ?_ | refine u_bspF ?_)
  refine world_End h ?_
  refine ⟨_, _, rfl, ?_⟩
  have e2 : aw2.1.out = [0] := by kernel_rfl
  refine world_Out h (by rw [e2]; decide) ?_
  clear h
  intro A c M h
  refine u_exSl ?_
  refine t_exB h (u_bspT ?_)
  refine t_exB h ?_
  refine u_bspT ?_
  have e1 : (aw2.1.end_ == 1) = true := by kernel_rfl
  rw [e2] at h
  rw [e1, e2]
  refine u_bspT (u_bspC (by rfl) ?_)
  refine ⟨by omega, by decide, ?_⟩
  obtain ⟨bo, rfl⟩ := h.row_some (A := A) (by decide) (by decide)
  refine u_nilc ?_
  refine v_exI (Src.at (h.src (A := some ⟨bo, 0, none⟩)) h (i := 0) (j := 0) rfl rfl (by simp [intE])) ?_
  refine u_bspC (by rfl) ?_
  have e4 : aw2.1.gs.length = 1 := by kernel_rfl
  refine world_Status h (by omega) (by omega) ?_
  have e3 : (gorAt aw2.1 0).st = 4 := by kernel_rfl
  rw [e3]
  exact u_exI (k _ _ (Mem.le_trans hle (Mem.le_trans hle3 hle4)) (h.sub (by repeat (first | exact Sub.refl | refine Sub.cons (by first | exact Pick.here | exact (.there .here) | exact (.there (.there .here)) | exact (.there (.there (.there .here))) | exact (.there (.there (.there (.there .here)))) | exact (.there (.there (.there (.there (.there .here))))) | exact (.there (.there (.there (.there (.there (.there .here)))))) | exact (.there (.there (.there (.there (.there (.there (.there .here))))))) | exact (.there (.there (.there (.there (.there (.there (.there (.there .here)))))))) | exact (.there (.there (.there (.there (.there (.there (.there (.there (.there .here))))))))) | exact (.there (.there (.there (.there (.there (.there (.there (.there (.there (.there .here)))))))))) | exact (.there (.there (.there (.there (.there (.there (.there (.there (.there (.there (.there .here))))))))))) | exact (.there (.there (.there (.there (.there (.there (.there (.there (.there (.there (.there (.there .here)))))))))))) | exact (.there (.there (.there (.there (.there (.there (.there (.there (.there (.there (.there (.there (.there .here))))))))))))) | exact (.there (.there (.there (.there (.there (.there (.there (.there (.there (.there (.there (.there (.there (.there .here)))))))))))))) | exact (.there (.there (.there (.there (.there (.there (.there (.there (.there (.there (.there (.there (.there (.there (.there .here)))))))))))))))) ?_ | refine Sub.drop ?_))))
end
end Go.Proofs
