/- A part of proofs about functions of one program: a condition over a partial memory that is enough for a call, and what calls answer by it. No condition of its own. -/
import Derived.Test.YtodeolmcinekoaaLaw08
import Derived.Test.YtodeolmcinekoaaMapI
import Derived.Test.YtodeolmcinekoaaVLocM
import Derived.Test.YtodeolmcinekoaaArgs
/- Four queues, the program's and the document's: made, compared. -/
namespace Go.Proofs
open Go.AF
set_option linter.unusedVariables false
set_option maxRecDepth 100000
set_option maxHeartbeats 1000000
attribute [local irreducible] exI exB exS exP exSl exV nilc stc nwc semK semU bsp
attribute [local irreducible] objsP objsX
theorem el_pl : ElemOk Try.prog 137 101 1 8 [.pointer none] := ElemOk.mk' (zv := .pointer none) (by kernel_rfl) (by kernel_rfl) rfl (by omega)
theorem el_rl : ElemOk Try.prog 138 172 3 40 [.int .i64 0, .slice none 0 0, .int .i64 0] := ElemOk.mk' (zv := .agg #[.int .i64 0, .slice none 0 0, .int .i64 0]) (by kernel_rfl) (by kernel_rfl) rfl (by omega)
section
variable {R : Mem} {L L' L'' : List HP} {M : Mem} {K : Value → Mem → Prop} {Kp : List PanicEntry → Mem → Prop} {x f : Loc} {g : List Int}
theorem law08_awake (h : Hp R L M) (k : ∀ M', Hp R L M' → K (.bool true) M') : ACalls Try.prog 55 #[] M K Kp := by
  refine vc_shunterlaw08_awake ?_
  refine local_New h ?_
  clear h
  intro b M h
  have e : capR 4 = 4 := rfl
  rw [e] at h
  repeat (first | (refine s_stc h ?_; clear h; intro M h) | refine t_exI h ?_ | refine t_exB h ?_ | refine t_exS h ?_ | refine t_exP h ?_ | refine t_exSl h ?_ | refine t_exV h ?_ | refine u_exI ?_ | refine u_exB ?_ | refine u_exS ?_ | refine u_exP ?_ | refine u_exSl ?_ | refine u_exV ?_ | refine u_nilc ?_ | (apply Exists.intro; (repeat apply Exists.intro); refine And.intro rfl ?_) | (refine And.intro ?_ ?_; first | exact trivial | exact rfl | exact t_ld h | (refine lds_s (t_ld h) ?_; (repeat (refine lds_s (t_ld h) ?_)); exact lds_nil) | omega) | refine u_bspT ?_ | refine u_bspF ?_)
  refine s_nwc h ?_
  clear h
  intro kg M h
  replace h := gl_close (l := []) (h.row_nil intE 3) kg
  replace h := h.sub (show Sub _ (objP locR b ⟨-1, 4, []⟩ :: objP glR kg [] :: L) from (by repeat (first | exact Sub.refl | refine Sub.cons (by first | exact Pick.here | exact (.there .here) | exact (.there (.there .here)) | exact (.there (.there (.there .here))) | exact (.there (.there (.there (.there .here)))) | exact (.there (.there (.there (.there (.there .here))))) | exact (.there (.there (.there (.there (.there (.there .here)))))) | exact (.there (.there (.there (.there (.there (.there (.there .here))))))) | exact (.there (.there (.there (.there (.there (.there (.there (.there .here)))))))) | exact (.there (.there (.there (.there (.there (.there (.there (.there (.there .here))))))))) | exact (.there (.there (.there (.there (.there (.there (.there (.there (.there (.there .here)))))))))) | exact (.there (.there (.there (.there (.there (.there (.there (.there (.there (.there (.there .here))))))))))) | exact (.there (.there (.there (.there (.there (.there (.there (.there (.there (.there (.there (.there .here)))))))))))) | exact (.there (.there (.there (.there (.there (.there (.there (.there (.there (.there (.there (.there (.there .here))))))))))))) | exact (.there (.there (.there (.there (.there (.there (.there (.there (.there (.there (.there (.there (.there (.there .here)))))))))))))) | exact (.there (.there (.there (.there (.there (.there (.there (.there (.there (.there (.there (.there (.there (.there (.there .here)))))))))))))))) ?_ | refine Sub.drop ?_)))
  refine local_Ready (v := 5) h (by simp) ?_
  clear h
  intro M h
  have e1 : (Loc.mk (-1) 4 []).ready 5 [] = (⟨5, 4, []⟩, [], 0) := rfl
  rw [e1] at h ⊢
  repeat (first | (refine s_nwc h ?_; clear h; intro kb M h) | (refine s_stc h ?_; clear h; intro M h) | refine t_exI h ?_ | refine t_exB h ?_ | refine t_exS h ?_ | refine t_exP h ?_ | refine t_exSl h ?_ | refine t_exV h ?_ | refine u_exI ?_ | refine u_exB ?_ | refine u_exS ?_ | refine u_exP ?_ | refine u_exSl ?_ | refine u_exV ?_ | refine u_nilc ?_ | (apply Exists.intro; (repeat apply Exists.intro); refine And.intro rfl ?_) | (refine And.intro ?_ ?_; first | exact trivial | exact rfl | exact t_ld h | (refine lds_s (t_ld h) ?_; (repeat (refine lds_s (t_ld h) ?_)); exact lds_nil) | omega) | refine u_bspT ?_ | refine u_bspF ?_)
  refine local_Ready (v := 6) h (by simp) ?_
  clear h
  intro M h
  have e2 : (Loc.mk 5 4 []).ready 6 [] = (⟨6, 4, [5]⟩, [], 0) := rfl
  rw [e2] at h ⊢
  repeat (first | (refine s_nwc h ?_; clear h; intro kb M h) | (refine s_stc h ?_; clear h; intro M h) | refine t_exI h ?_ | refine t_exB h ?_ | refine t_exS h ?_ | refine t_exP h ?_ | refine t_exSl h ?_ | refine t_exV h ?_ | refine u_exI ?_ | refine u_exB ?_ | refine u_exS ?_ | refine u_exP ?_ | refine u_exSl ?_ | refine u_exV ?_ | refine u_nilc ?_ | (apply Exists.intro; (repeat apply Exists.intro); refine And.intro rfl ?_) | (refine And.intro ?_ ?_; first | exact trivial | exact rfl | exact t_ld h | (refine lds_s (t_ld h) ?_; (repeat (refine lds_s (t_ld h) ?_)); exact lds_nil) | omega) | refine u_bspT ?_ | refine u_bspF ?_)
  refine local_Get h fun t M' _ ht h' => ?_
  obtain rfl := ht (.inl (by simp))
  clear h
  have h := h'
  clear h'
  have e3 : (Loc.mk 6 4 [5]).get = (⟨-1, 4, [5]⟩, 6) := rfl
  dsimp only at h
  rw [e3] at h ⊢
  repeat (first | (refine s_nwc h ?_; clear h; intro kb M h) | (refine s_stc h ?_; clear h; intro M h) | refine t_exI h ?_ | refine t_exB h ?_ | refine t_exS h ?_ | refine t_exP h ?_ | refine t_exSl h ?_ | refine t_exV h ?_ | refine u_exI ?_ | refine u_exB ?_ | refine u_exS ?_ | refine u_exP ?_ | refine u_exSl ?_ | refine u_exV ?_ | refine u_nilc ?_ | (apply Exists.intro; (repeat apply Exists.intro); refine And.intro rfl ?_) | (refine And.intro ?_ ?_; first | exact trivial | exact rfl | exact t_ld h | (refine lds_s (t_ld h) ?_; (repeat (refine lds_s (t_ld h) ?_)); exact lds_nil) | omega) | refine u_bspT ?_ | refine u_bspF ?_)
  refine local_Get h fun t M' _ ht h' => ?_
  obtain rfl := ht (.inr (by simp))
  clear h
  have h := h'
  clear h'
  have e4 : (Loc.mk (-1) 4 [5]).get = (⟨-1, 4, []⟩, 5) := rfl
  dsimp only at h
  rw [e4] at h ⊢
  repeat (first | (refine s_nwc h ?_; clear h; intro kb M h) | (refine s_stc h ?_; clear h; intro M h) | refine t_exI h ?_ | refine t_exB h ?_ | refine t_exS h ?_ | refine t_exP h ?_ | refine t_exSl h ?_ | refine t_exV h ?_ | refine u_exI ?_ | refine u_exB ?_ | refine u_exS ?_ | refine u_exP ?_ | refine u_exSl ?_ | refine u_exV ?_ | refine u_nilc ?_ | (apply Exists.intro; (repeat apply Exists.intro); refine And.intro rfl ?_) | (refine And.intro ?_ ?_; first | exact trivial | exact rfl | exact t_ld h | (refine lds_s (t_ld h) ?_; (repeat (refine lds_s (t_ld h) ?_)); exact lds_nil) | omega) | refine u_bspT ?_ | refine u_bspF ?_)
  refine local_Get h fun t M' ht _ h' => ?_
  have e5 : (Loc.mk (-1) 4 []).get = (⟨-1, 4, []⟩, -1) := rfl
  dsimp only at h' ht ⊢
  rw [e5] at h' ht ⊢
  obtain rfl := ht rfl rfl rfl
  clear h
  have h := h'
  clear h'
  repeat (first | (refine s_nwc h ?_; clear h; intro kb M h) | (refine s_stc h ?_; clear h; intro M h) | refine t_exI h ?_ | refine t_exB h ?_ | refine t_exS h ?_ | refine t_exP h ?_ | refine t_exSl h ?_ | refine t_exV h ?_ | refine u_exI ?_ | refine u_exB ?_ | refine u_exS ?_ | refine u_exP ?_ | refine u_exSl ?_ | refine u_exV ?_ | refine u_nilc ?_ | (apply Exists.intro; (repeat apply Exists.intro); refine And.intro rfl ?_) | (refine And.intro ?_ ?_; first | exact trivial | exact rfl | exact t_ld h | (refine lds_s (t_ld h) ?_; (repeat (refine lds_s (t_ld h) ?_)); exact lds_nil) | omega) | refine u_bspT ?_ | refine u_bspF ?_)
  refine local_gLen (gb := kg) h ?_
  repeat (first | (refine s_nwc h ?_; clear h; intro kb M h) | (refine s_stc h ?_; clear h; intro M h) | refine t_exI h ?_ | refine t_exB h ?_ | refine t_exS h ?_ | refine t_exP h ?_ | refine t_exSl h ?_ | refine t_exV h ?_ | refine u_exI ?_ | refine u_exB ?_ | refine u_exS ?_ | refine u_exP ?_ | refine u_exSl ?_ | refine u_exV ?_ | refine u_nilc ?_ | (apply Exists.intro; (repeat apply Exists.intro); refine And.intro rfl ?_) | (refine And.intro ?_ ?_; first | exact trivial | exact rfl | exact t_ld h | (refine lds_s (t_ld h) ?_; (repeat (refine lds_s (t_ld h) ?_)); exact lds_nil) | omega) | refine u_bspT ?_ | refine u_bspF ?_)
  exact k _ (h.sub (by repeat (first | exact Sub.refl | refine Sub.cons (by first | exact Pick.here | exact (.there .here) | exact (.there (.there .here)) | exact (.there (.there (.there .here))) | exact (.there (.there (.there (.there .here)))) | exact (.there (.there (.there (.there (.there .here))))) | exact (.there (.there (.there (.there (.there (.there .here)))))) | exact (.there (.there (.there (.there (.there (.there (.there .here))))))) | exact (.there (.there (.there (.there (.there (.there (.there (.there .here)))))))) | exact (.there (.there (.there (.there (.there (.there (.there (.there (.there .here))))))))) | exact (.there (.there (.there (.there (.there (.there (.there (.there (.there (.there .here)))))))))) | exact (.there (.there (.there (.there (.there (.there (.there (.there (.there (.there (.there .here))))))))))) | exact (.there (.there (.there (.there (.there (.there (.there (.there (.there (.there (.there (.there .here)))))))))))) | exact (.there (.there (.there (.there (.there (.there (.there (.there (.there (.there (.there (.there (.there .here))))))))))))) | exact (.there (.there (.there (.there (.there (.there (.there (.there (.there (.there (.there (.there (.there (.there .here)))))))))))))) | exact (.there (.there (.there (.there (.there (.there (.there (.there (.there (.there (.there (.there (.there (.there (.there .here)))))))))))))))) ?_ | refine Sub.drop ?_)))
theorem law08_made {r0 r1 r2 r3 : Int} (h : Hp R L M) (k : ∀ wb s M', W8 R L wb s M' → s.Ok 0 → K (.pointer (some ⟨wb, 0, none⟩)) M') :
    ACalls Try.prog 74 #[.agg #[.int .i64 r0, .int .i64 r1, .int .i64 r2, .int .i64 r3]] M K Kp := by
  refine vcm_shunterlaw08_made ?_
  repeat (first | (refine s_stc h ?_; clear h; intro M h) | refine t_exI h ?_ | refine t_exB h ?_ | refine t_exS h ?_ | refine t_exP h ?_ | refine t_exSl h ?_ | refine t_exV h ?_ | refine u_exI ?_ | refine u_exB ?_ | refine u_exS ?_ | refine u_exP ?_ | refine u_exSl ?_ | refine u_exV ?_ | refine u_nilc ?_ | (apply Exists.intro; (repeat apply Exists.intro); refine And.intro rfl ?_) | (refine And.intro ?_ ?_; first | exact trivial | exact rfl | exact t_ld h | (refine lds_s (t_ld h) ?_; (repeat (refine lds_s (t_ld h) ?_)); exact lds_nil) | omega) | refine u_bspT ?_ | refine u_bspF ?_)
  refine s_nwc h ?_
  clear h
  intro kr M h
  refine s_nwc h ?_
  clear h
  intro kg M h
  refine s_nwc h ?_
  clear h
  intro wb M h
  repeat (first | (refine s_nwc h ?_; clear h; intro kb M h) | (refine s_stc h ?_; clear h; intro M h) | refine t_exI h ?_ | refine t_exB h ?_ | refine t_exS h ?_ | refine t_exP h ?_ | refine t_exSl h ?_ | refine t_exV h ?_ | refine u_exI ?_ | refine u_exB ?_ | refine u_exS ?_ | refine u_exP ?_ | refine u_exSl ?_ | refine u_exV ?_ | refine u_nilc ?_ | (apply Exists.intro; (repeat apply Exists.intro); refine And.intro rfl ?_) | (refine And.intro ?_ ?_; first | exact trivial | exact rfl | exact t_ld h | (refine lds_s (t_ld h) ?_; (repeat (refine lds_s (t_ld h) ?_)); exact lds_nil) | omega) | refine u_bspT ?_ | refine u_bspF ?_)
  replace h := gl_close (l := []) (h.row_nil intE 3) kg
  replace h := h.objs_nil locR
  refine ⟨fun d ws M => ∃ (i : Nat) (Al : Option Addr) (ca : Nat) (Ax : Option Addr) (cx : Nat) (bs : List Nat) (rs : List RL) (xs : List Loc), ws = [.int .i64 (i : Int)] ∧ d = 4 - i ∧ i ≤ 4 ∧ bs.length = i ∧ xs.length = i ∧ RLs R rs xs ∧ (∀ x ∈ xs, x.next = -1 ∧ x.l = [] ∧ x.room ≤ 1024 ∧ 0 < x.room) ∧
    Hp R (pt wb [.slice Al bs.length ca, .pointer (some ⟨kg, 0, none⟩), .slice Ax rs.length cx, .slice none 0 0, .int .i64 0, .slice none 0 0] 140 :: rowP ptrE 101 Al ca bs :: objsP locR bs xs :: objP glR kg [] :: rowP rlE 172 Ax cx rs :: L) M,
    ⟨_, 0, none, 0, none, 0, [], [], [], rfl, rfl, by omega, rfl, rfl, ⟨rfl, fun i r x h => by simp at h⟩, by simp, ((h.row_nil ptrE _).row_nil rlE _).sub (by repeat (first | exact Sub.refl | refine Sub.cons (by first | exact Pick.here | exact (.there .here) | exact (.there (.there .here)) | exact (.there (.there (.there .here))) | exact (.there (.there (.there (.there .here)))) | exact (.there (.there (.there (.there (.there .here))))) | exact (.there (.there (.there (.there (.there (.there .here)))))) | exact (.there (.there (.there (.there (.there (.there (.there .here))))))) | exact (.there (.there (.there (.there (.there (.there (.there (.there .here)))))))) | exact (.there (.there (.there (.there (.there (.there (.there (.there (.there .here))))))))) | exact (.there (.there (.there (.there (.there (.there (.there (.there (.there (.there .here)))))))))) | exact (.there (.there (.there (.there (.there (.there (.there (.there (.there (.there (.there .here))))))))))) | exact (.there (.there (.there (.there (.there (.there (.there (.there (.there (.there (.there (.there .here)))))))))))) | exact (.there (.there (.there (.there (.there (.there (.there (.there (.there (.there (.there (.there (.there .here))))))))))))) | exact (.there (.there (.there (.there (.there (.there (.there (.there (.there (.there (.there (.there (.there (.there .here)))))))))))))) | exact (.there (.there (.there (.there (.there (.there (.there (.there (.there (.there (.there (.there (.there (.there (.there .here)))))))))))))))) ?_ | refine Sub.drop ?_))⟩, ?_⟩
  clear h
  rintro d _ ii M ⟨i, Al, ca, Ax, cx, bs, rs, xs, he, hd, hi, hbl, hxl, hx, hxs, h⟩
  simp only [List.cons.injEq, Value.int.injEq, and_true, true_and] at he
  subst he
  have hrl := hx.1
  refine bsp_dec.2 ⟨fun hlt => ?_, fun hge => ?_⟩
  · refine And.intro (by omega) (And.intro hlt ?_)
    refine x_exI (n := [r0, r1, r2, r3].getD i 0) (by
      obtain h0 | h0 | h0 | h0 : i = 0 ∨ i = 1 ∨ i = 2 ∨ i = 3 := by omega
      all_goals (rw [h0]; rfl)) ?_
    generalize [r0, r1, r2, r3].getD i 0 = room
    have bd := capR_bd room
    have sz1 : (bs.length + [0].length) * 8 ≤ 140737488355328 := by simp; omega
    have sz2 : (rs.length + [0].length) * 40 ≤ 140737488355328 := by simp; omega
    refine ⟨fun ws M => ∃ (Al : Option Addr) (ca : Nat) (Ax : Option Addr) (cx b : Nat), Hp R (pt wb [.slice Al (bs ++ [b]).length ca, .pointer (some ⟨kg, 0, none⟩), .slice Ax (rs ++ [(⟨-1, none, 0, 0, (capR room : Nat)⟩ : RL)]).length cx, .slice none 0 0, .int .i64 0, .slice none 0 0] 140 ::
      rowP ptrE 101 Al ca (bs ++ [b]) :: objP locR b ⟨-1, capR room, []⟩ :: objsP locR bs xs :: objP glR kg [] :: rowP rlE 172 Ax cx (rs ++ [(⟨-1, none, 0, 0, (capR room : Nat)⟩ : RL)]) :: L) M, ?_, ?_⟩
    · repeat' (first
        | exact trivial
        | (refine s_nwc h ?_; clear h; intro kb M h)
        | (refine s_stc h ?_; clear h; intro M h)
        | refine t_exSl h ?_
        | refine u_exP ?_
        | refine u_exSl ?_
        | (refine local_New h ?_; clear h; intro b M h)
        | (refine ref08_New (room := room) h ?_; clear h; intro M h)
        | (refine h.rowAppend1 el_pl [b] rfl rfl sz1 ?_; clear h; intro A' ca' M h)
        | (refine h.rowAppend1 el_rl [(⟨-1, none, 0, 0, (capR room : Nat)⟩ : RL)] rfl rfl sz2 ?_; clear h; intro X' cx' M h)
        | exact ⟨_, _, _, _, _, h.sub (by repeat (first | exact Sub.refl | refine Sub.cons (by first | exact Pick.here | exact (.there .here) | exact (.there (.there .here)) | exact (.there (.there (.there .here))) | exact (.there (.there (.there (.there .here)))) | exact (.there (.there (.there (.there (.there .here))))) | exact (.there (.there (.there (.there (.there (.there .here)))))) | exact (.there (.there (.there (.there (.there (.there (.there .here))))))) | exact (.there (.there (.there (.there (.there (.there (.there (.there .here)))))))) | exact (.there (.there (.there (.there (.there (.there (.there (.there (.there .here))))))))) | exact (.there (.there (.there (.there (.there (.there (.there (.there (.there (.there .here)))))))))) | exact (.there (.there (.there (.there (.there (.there (.there (.there (.there (.there (.there .here))))))))))) | exact (.there (.there (.there (.there (.there (.there (.there (.there (.there (.there (.there (.there .here)))))))))))) | exact (.there (.there (.there (.there (.there (.there (.there (.there (.there (.there (.there (.there (.there .here))))))))))))) | exact (.there (.there (.there (.there (.there (.there (.there (.there (.there (.there (.there (.there (.there (.there .here)))))))))))))) | exact (.there (.there (.there (.there (.there (.there (.there (.there (.there (.there (.there (.there (.there (.there (.there .here)))))))))))))))) ?_ | refine Sub.drop ?_))⟩
        | (apply Exists.intro; (repeat apply Exists.intro); refine And.intro rfl ?_)
        | (refine And.intro (t_ld h) ?_)
        | refine And.intro ?_ ?_)
    · rintro _ M ⟨A', ca', X', cx', b, h⟩
      rw [wrap_succ (by omega)]
      refine ⟨4 - (i + 1), by omega, i + 1, A', ca', X', cx', bs ++ [b], _, xs ++ [⟨-1, capR room, []⟩], rfl, rfl, by omega, by simp; omega, by simp; omega, hx.snoc ⟨_, _, rfl, RS.nil intE R⟩, fun x hx => ?_, ((h.objs_snoc locR b (by omega)).sub (by repeat (first | exact Sub.refl | refine Sub.cons (by first | exact Pick.here | exact (.there .here) | exact (.there (.there .here)) | exact (.there (.there (.there .here))) | exact (.there (.there (.there (.there .here)))) | exact (.there (.there (.there (.there (.there .here))))) | exact (.there (.there (.there (.there (.there (.there .here)))))) | exact (.there (.there (.there (.there (.there (.there (.there .here))))))) | exact (.there (.there (.there (.there (.there (.there (.there (.there .here)))))))) | exact (.there (.there (.there (.there (.there (.there (.there (.there (.there .here))))))))) | exact (.there (.there (.there (.there (.there (.there (.there (.there (.there (.there .here)))))))))) | exact (.there (.there (.there (.there (.there (.there (.there (.there (.there (.there (.there .here))))))))))) | exact (.there (.there (.there (.there (.there (.there (.there (.there (.there (.there (.there (.there .here)))))))))))) | exact (.there (.there (.there (.there (.there (.there (.there (.there (.there (.there (.there (.there (.there .here))))))))))))) | exact (.there (.there (.there (.there (.there (.there (.there (.there (.there (.there (.there (.there (.there (.there .here)))))))))))))) | exact (.there (.there (.there (.there (.there (.there (.there (.there (.there (.there (.there (.there (.there (.there (.there .here)))))))))))))))) ?_ | refine Sub.drop ?_)))⟩
      rcases List.mem_append.1 hx with hx | hx
      · exact hxs x hx
      · simp only [List.mem_singleton] at hx; subst hx; exact ⟨rfl, rfl, bd.2, bd.1⟩
  · obtain rfl : i = 4 := by omega
    rw [hbl, hrl, hxl] at h
    refine k wb ⟨xs, [], 0, []⟩ _ ⟨_, _, _, _, none, 0, none, 0, kg, bs, rs, hbl, hx, RS.nil intE R, (h.row_nil intE _).sub (by repeat (first | exact Sub.refl | refine Sub.cons (by first | exact Pick.here | exact (.there .here) | exact (.there (.there .here)) | exact (.there (.there (.there .here))) | exact (.there (.there (.there (.there .here)))) | exact (.there (.there (.there (.there (.there .here))))) | exact (.there (.there (.there (.there (.there (.there .here)))))) | exact (.there (.there (.there (.there (.there (.there (.there .here))))))) | exact (.there (.there (.there (.there (.there (.there (.there (.there .here)))))))) | exact (.there (.there (.there (.there (.there (.there (.there (.there (.there .here))))))))) | exact (.there (.there (.there (.there (.there (.there (.there (.there (.there (.there .here)))))))))) | exact (.there (.there (.there (.there (.there (.there (.there (.there (.there (.there (.there .here))))))))))) | exact (.there (.there (.there (.there (.there (.there (.there (.there (.there (.there (.there (.there .here)))))))))))) | exact (.there (.there (.there (.there (.there (.there (.there (.there (.there (.there (.there (.there (.there .here))))))))))))) | exact (.there (.there (.there (.there (.there (.there (.there (.there (.there (.there (.there (.there (.there (.there .here)))))))))))))) | exact (.there (.there (.there (.there (.there (.there (.there (.there (.there (.there (.there (.there (.there (.there (.there .here)))))))))))))))) ?_ | refine Sub.drop ?_))⟩ ⟨hxl, rfl, fun x hx => ?_, fun a => ?_⟩
    · have := hxs x hx; rw [this.2.1]; simp; omega
    · have : xs.flatMap Loc.all = [] := by
        rw [List.flatMap_eq_nil_iff]
        intro x hx
        have := hxs x hx
        unfold Loc.all
        rw [this.2.1, if_pos this.1]; rfl
      show ((xs.flatMap Loc.all) ++ ([] ++ [])).count a = _
      rw [this]; rfl
theorem law08_same {wb : Nat} {s : S8} {n : Nat} (hw : W8 R L wb s M) (ok : s.Ok n) (hn : n ≤ 1000000) (k : ∀ M', W8 R L wb s M' → K (.bool true) M') :
    ACalls Try.prog 78 #[.pointer (some ⟨wb, 0, none⟩)] M K Kp := by
  obtain ⟨Al, ca, Ax, cx, Ay, cy, Ao, co, gb, bs, rs, hbl, hx, hy, h⟩ := hw
  have ok0 := ok
  obtain ⟨ok1, ok2, ok3, _⟩ := ok0
  have okg := ok.gl
  have hrl := hx.1
  refine vc_shunterlaw08_world_same ?_
  repeat (first | (refine s_nwc h ?_; clear h; intro kb M h) | (refine s_stc h ?_; clear h; intro M h) | refine t_exI h ?_ | refine t_exB h ?_ | refine t_exS h ?_ | refine t_exP h ?_ | refine t_exSl h ?_ | refine t_exV h ?_ | refine u_exI ?_ | refine u_exB ?_ | refine u_exS ?_ | refine u_exP ?_ | refine u_exSl ?_ | refine u_exV ?_ | refine u_nilc ?_ | (apply Exists.intro; (repeat apply Exists.intro); refine And.intro rfl ?_) | (refine And.intro ?_ ?_; first | exact trivial | exact rfl | exact t_ld h | (refine lds_s (t_ld h) ?_; (repeat (refine lds_s (t_ld h) ?_)); exact lds_nil) | omega) | refine u_bspT ?_ | refine u_bspF ?_)
  refine ⟨fun d ws M => ∃ i : Nat, ws = [.int .i64 (i : Int)] ∧ d = 4 - i ∧ i ≤ 4 ∧ Hp R (pt wb [.slice Al 4 ca, .pointer (some ⟨gb, 0, none⟩), .slice Ax 4 cx, .slice Ay s.g.length cy, .int .i64 s.next, .slice Ao s.out.length co] 140 ::
    rowP ptrE 101 Al ca bs :: objsP locR bs s.xs :: objP glR gb s.g :: rowP rlE 172 Ax cx rs :: rowP intE 3 Ao co s.out :: L) M, ⟨_, 0, rfl, rfl, by omega, h⟩, ?_⟩
  clear h
  rintro d _ ii M ⟨i, he, hd, hi, h⟩
  simp only [List.cons.injEq, Value.int.injEq, and_true, true_and] at he
  subst he
  refine bsp_dec.2 ⟨fun hlt => ?_, fun hge => ?_⟩
  · have hxi := lc_at (xs := s.xs) (i := i) (by omega)
    have hmi := lc_mem (xs := s.xs) (i := i) (by omega)
    obtain ⟨b, hb⟩ := idx_ex (l := bs) (i := i) (by omega)
    obtain ⟨r, hr⟩ := idx_ex (l := rs) (i := i) (by omega)
    obtain ⟨A0, c0, hre, hrs⟩ := hx.2 i r _ hr hxi
    subst hre
    have bi := ok3 _ hmi
    have pi := ok.pos hmi
    obtain ⟨b1, rfl⟩ := h.row_some (A := Al) (by omega) (by decide)
    obtain ⟨b2, rfl⟩ := h.row_some (A := Ax) (by omega) (by decide)
    have s1 := h.src (A := some ⟨b1, 0, none⟩)
    have s2 := h.src (A := some ⟨b2, 0, none⟩)
    repeat (first | (refine s_nwc h ?_; clear h; intro kb M h) | (refine s_stc h ?_; clear h; intro M h) | refine t_exI h ?_ | refine t_exB h ?_ | refine t_exS h ?_ | refine t_exP h ?_ | refine t_exSl h ?_ | refine t_exV h ?_ | refine u_exI ?_ | refine u_exB ?_ | refine u_exS ?_ | refine u_exP ?_ | refine u_exSl ?_ | refine u_exV ?_ | refine u_nilc ?_ | (apply Exists.intro; (repeat apply Exists.intro); refine And.intro rfl ?_) | (refine And.intro ?_ ?_; first | exact trivial | exact rfl | exact t_ld h | (refine lds_s (t_ld h) ?_; (repeat (refine lds_s (t_ld h) ?_)); exact lds_nil) | omega) | refine u_bspT ?_ | refine u_bspF ?_)
    try simp only [Int.toNat_natCast]
    refine v_exP (s1.at h (i := i) (j := 0) hb rfl (by simp [ptrE])) ?_
    repeat (first | (refine s_nwc h ?_; clear h; intro kb M h) | (refine s_stc h ?_; clear h; intro M h) | refine t_exI h ?_ | refine t_exB h ?_ | refine t_exS h ?_ | refine t_exP h ?_ | refine t_exSl h ?_ | refine t_exV h ?_ | refine u_exI ?_ | refine u_exB ?_ | refine u_exS ?_ | refine u_exP ?_ | refine u_exSl ?_ | refine u_exV ?_ | refine u_nilc ?_ | (apply Exists.intro; (repeat apply Exists.intro); refine And.intro rfl ?_) | (refine And.intro ?_ ?_; first | exact trivial | exact rfl | exact t_ld h | (refine lds_s (t_ld h) ?_; (repeat (refine lds_s (t_ld h) ?_)); exact lds_nil) | omega) | refine u_bspT ?_ | refine u_bspF ?_)
    try simp only [Int.toNat_natCast]
    refine v_exSl (s2.at h (i := i) (j := 1) hr rfl rfl) ?_
    repeat (first | (refine s_nwc h ?_; clear h; intro kb M h) | (refine s_stc h ?_; clear h; intro M h) | refine t_exI h ?_ | refine t_exB h ?_ | refine t_exS h ?_ | refine t_exP h ?_ | refine t_exSl h ?_ | refine t_exV h ?_ | refine u_exI ?_ | refine u_exB ?_ | refine u_exS ?_ | refine u_exP ?_ | refine u_exSl ?_ | refine u_exV ?_ | refine u_nilc ?_ | (apply Exists.intro; (repeat apply Exists.intro); refine And.intro rfl ?_) | (refine And.intro ?_ ?_; first | exact trivial | exact rfl | exact t_ld h | (refine lds_s (t_ld h) ?_; (repeat (refine lds_s (t_ld h) ?_)); exact lds_nil) | omega) | refine u_bspT ?_ | refine u_bspF ?_)
    try simp only [Int.toNat_natCast]
    refine v_exI (s2.at h (i := i) (j := 0) hr rfl rfl) ?_
    dsimp only
    generalize lc s.xs i = x at *
    refine bsp_iff.2 ⟨fun hx0 => ?_, fun hx0 => ?_⟩
    · simp only [decide_eq_true_eq] at hx0
      have hne : x.next ≠ -1 := by omega
      repeat (first | (refine s_nwc h ?_; clear h; intro kb M h) | (refine s_stc h ?_; clear h; intro M h) | refine t_exI h ?_ | refine t_exB h ?_ | refine t_exS h ?_ | refine t_exP h ?_ | refine t_exSl h ?_ | refine t_exV h ?_ | refine u_exI ?_ | refine u_exB ?_ | refine u_exS ?_ | refine u_exP ?_ | refine u_exSl ?_ | refine u_exV ?_ | refine u_nilc ?_ | (apply Exists.intro; (repeat apply Exists.intro); refine And.intro rfl ?_) | (refine And.intro ?_ ?_; first | exact trivial | exact rfl | exact t_ld h | (refine lds_s (t_ld h) ?_; (repeat (refine lds_s (t_ld h) ?_)); exact lds_nil) | omega) | refine u_bspT ?_ | refine u_bspF ?_)
      try simp only [Int.toNat_natCast]
      refine v_exI (Src.at (h.src (A := some ⟨b2, 0, none⟩)) h (i := i) (j := 0) hr rfl rfl) ?_
      dsimp only
      replace h := h.objs_out locR hb hxi
      refine local_Next h ?_
      repeat (first | (refine s_nwc h ?_; clear h; intro kb M h) | (refine s_stc h ?_; clear h; intro M h) | refine t_exI h ?_ | refine t_exB h ?_ | refine t_exS h ?_ | refine t_exP h ?_ | refine t_exSl h ?_ | refine t_exV h ?_ | refine u_exI ?_ | refine u_exB ?_ | refine u_exS ?_ | refine u_exP ?_ | refine u_exSl ?_ | refine u_exV ?_ | refine u_nilc ?_ | (apply Exists.intro; (repeat apply Exists.intro); refine And.intro rfl ?_) | (refine And.intro ?_ ?_; first | exact trivial | exact rfl | exact t_ld h | (refine lds_s (t_ld h) ?_; (repeat (refine lds_s (t_ld h) ?_)); exact lds_nil) | omega) | refine u_bspT ?_ | refine u_bspF ?_)
      repeat (first | refine And.intro (t_ld h) ?_ | refine And.intro (Src.at (h.src (A := some ⟨b2, 0, none⟩)) h (i := i) (j := 1) hr rfl (by simp [rlE])) ?_ | refine And.intro (Src.at (h.src (A := some ⟨b2, 0, none⟩)) h (i := i) (j := 0) hr rfl (by simp [rlE])) ?_)
      refine bsp_ne.2 ⟨fun hn => absurd rfl hn, fun _ => ?_⟩
      repeat (first | (refine s_nwc h ?_; clear h; intro kb M h) | (refine s_stc h ?_; clear h; intro M h) | refine t_exI h ?_ | refine t_exB h ?_ | refine t_exS h ?_ | refine t_exP h ?_ | refine t_exSl h ?_ | refine t_exV h ?_ | refine u_exI ?_ | refine u_exB ?_ | refine u_exS ?_ | refine u_exP ?_ | refine u_exSl ?_ | refine u_exV ?_ | refine u_nilc ?_ | (apply Exists.intro; (repeat apply Exists.intro); refine And.intro rfl ?_) | (refine And.intro ?_ ?_; first | exact trivial | exact rfl | exact t_ld h | (refine lds_s (t_ld h) ?_; (repeat (refine lds_s (t_ld h) ?_)); exact lds_nil) | omega) | refine u_bspT ?_ | refine u_bspF ?_)
      try simp only [Int.toNat_natCast]
      refine v_exSl (Src.at (h.src (A := some ⟨b2, 0, none⟩)) h (i := i) (j := 1) hr rfl rfl) ?_
      dsimp only
      refine local_List h ?_
      clear h
      intro A5 c5 M h
      repeat (first | (refine s_nwc h ?_; clear h; intro kb M h) | (refine s_stc h ?_; clear h; intro M h) | refine t_exI h ?_ | refine t_exB h ?_ | refine t_exS h ?_ | refine t_exP h ?_ | refine t_exSl h ?_ | refine t_exV h ?_ | refine u_exI ?_ | refine u_exB ?_ | refine u_exS ?_ | refine u_exP ?_ | refine u_exSl ?_ | refine u_exV ?_ | refine u_nilc ?_ | (apply Exists.intro; (repeat apply Exists.intro); refine And.intro rfl ?_) | (refine And.intro ?_ ?_; first | exact trivial | exact rfl | exact t_ld h | (refine lds_s (t_ld h) ?_; (repeat (refine lds_s (t_ld h) ?_)); exact lds_nil) | omega) | refine u_bspT ?_ | refine u_bspF ?_)
      repeat (first | refine And.intro (t_ld h) ?_ | refine And.intro (Src.at (h.src (A := some ⟨b2, 0, none⟩)) h (i := i) (j := 1) hr rfl (by simp [rlE])) ?_ | refine And.intro (Src.at (h.src (A := some ⟨b2, 0, none⟩)) h (i := i) (j := 0) hr rfl (by simp [rlE])) ?_)
      refine law07_Same h (Src.row (A := A5)) hrs.src rfl rfl (by omega) ?_
      clear h
      intro M h
      repeat (first | (refine s_nwc h ?_; clear h; intro kb M h) | (refine s_stc h ?_; clear h; intro M h) | refine t_exI h ?_ | refine t_exB h ?_ | refine t_exS h ?_ | refine t_exP h ?_ | refine t_exSl h ?_ | refine t_exV h ?_ | refine u_exI ?_ | refine u_exB ?_ | refine u_exS ?_ | refine u_exP ?_ | refine u_exSl ?_ | refine u_exV ?_ | refine u_nilc ?_ | (apply Exists.intro; (repeat apply Exists.intro); refine And.intro rfl ?_) | (refine And.intro ?_ ?_; first | exact trivial | exact rfl | exact t_ld h | (refine lds_s (t_ld h) ?_; (repeat (refine lds_s (t_ld h) ?_)); exact lds_nil) | omega) | refine u_bspT ?_ | refine u_bspF ?_)
      repeat (first | refine And.intro (t_ld h) ?_ | refine And.intro (Src.at (h.src (A := some ⟨b2, 0, none⟩)) h (i := i) (j := 1) hr rfl (by simp [rlE])) ?_ | refine And.intro (Src.at (h.src (A := some ⟨b2, 0, none⟩)) h (i := i) (j := 0) hr rfl (by simp [rlE])) ?_)
      refine bsp_ne.2 ⟨fun hn => absurd rfl hn, fun _ => ?_⟩
      repeat (first | (refine s_nwc h ?_; clear h; intro kb M h) | (refine s_stc h ?_; clear h; intro M h) | refine t_exI h ?_ | refine t_exB h ?_ | refine t_exS h ?_ | refine t_exP h ?_ | refine t_exSl h ?_ | refine t_exV h ?_ | refine u_exI ?_ | refine u_exB ?_ | refine u_exS ?_ | refine u_exP ?_ | refine u_exSl ?_ | refine u_exV ?_ | refine u_nilc ?_ | (apply Exists.intro; (repeat apply Exists.intro); refine And.intro rfl ?_) | (refine And.intro ?_ ?_; first | exact trivial | exact rfl | exact t_ld h | (refine lds_s (t_ld h) ?_; (repeat (refine lds_s (t_ld h) ?_)); exact lds_nil) | omega) | refine u_bspT ?_ | refine u_bspF ?_)
      refine local_Len h ?_
      rw [if_pos hne]
      rw [show IntKind.wrap .i64 ((x.l.length : Int) + 1) = ((x.l.length + 1 : Nat) : Int) from wrap_succ (by omega)]
      repeat (first | (refine s_nwc h ?_; clear h; intro kb M h) | (refine s_stc h ?_; clear h; intro M h) | refine t_exI h ?_ | refine t_exB h ?_ | refine t_exS h ?_ | refine t_exP h ?_ | refine t_exSl h ?_ | refine t_exV h ?_ | refine u_exI ?_ | refine u_exB ?_ | refine u_exS ?_ | refine u_exP ?_ | refine u_exSl ?_ | refine u_exV ?_ | refine u_nilc ?_ | (apply Exists.intro; (repeat apply Exists.intro); refine And.intro rfl ?_) | (refine And.intro ?_ ?_; first | exact trivial | exact rfl | exact t_ld h | (refine lds_s (t_ld h) ?_; (repeat (refine lds_s (t_ld h) ?_)); exact lds_nil) | omega) | refine u_bspT ?_ | refine u_bspF ?_)
      repeat (first | refine And.intro (t_ld h) ?_ | refine And.intro (Src.at (h.src (A := some ⟨b2, 0, none⟩)) h (i := i) (j := 1) hr rfl (by simp [rlE])) ?_ | refine And.intro (Src.at (h.src (A := some ⟨b2, 0, none⟩)) h (i := i) (j := 0) hr rfl (by simp [rlE])) ?_)
      refine bsp_ne.2 ⟨fun hn => absurd rfl hn, fun _ => ?_⟩
      replace h := h.objs_same locR b hb hxi
      repeat (first | refine And.intro (t_ld h) ?_ | refine And.intro (Src.at (h.src (A := some ⟨b2, 0, none⟩)) h (i := i) (j := 1) hr rfl (by simp [rlE])) ?_ | refine And.intro (Src.at (h.src (A := some ⟨b2, 0, none⟩)) h (i := i) (j := 0) hr rfl (by simp [rlE])) ?_)
      rw [wrap_succ (by omega)]
      exact ⟨4 - (i + 1), by omega, i + 1, rfl, rfl, by omega, h.sub (by repeat (first | exact Sub.refl | refine Sub.cons (by first | exact Pick.here | exact (.there .here) | exact (.there (.there .here)) | exact (.there (.there (.there .here))) | exact (.there (.there (.there (.there .here)))) | exact (.there (.there (.there (.there (.there .here))))) | exact (.there (.there (.there (.there (.there (.there .here)))))) | exact (.there (.there (.there (.there (.there (.there (.there .here))))))) | exact (.there (.there (.there (.there (.there (.there (.there (.there .here)))))))) | exact (.there (.there (.there (.there (.there (.there (.there (.there (.there .here))))))))) | exact (.there (.there (.there (.there (.there (.there (.there (.there (.there (.there .here)))))))))) | exact (.there (.there (.there (.there (.there (.there (.there (.there (.there (.there (.there .here))))))))))) | exact (.there (.there (.there (.there (.there (.there (.there (.there (.there (.there (.there (.there .here)))))))))))) | exact (.there (.there (.there (.there (.there (.there (.there (.there (.there (.there (.there (.there (.there .here))))))))))))) | exact (.there (.there (.there (.there (.there (.there (.there (.there (.there (.there (.there (.there (.there (.there .here)))))))))))))) | exact (.there (.there (.there (.there (.there (.there (.there (.there (.there (.there (.there (.there (.there (.there (.there .here)))))))))))))))) ?_ | refine Sub.drop ?_))⟩
    · simp only [decide_eq_false_iff_not] at hx0
      have hne : ¬ x.next ≠ -1 := by have := pi.1; omega
      repeat (first | (refine s_nwc h ?_; clear h; intro kb M h) | (refine s_stc h ?_; clear h; intro M h) | refine t_exI h ?_ | refine t_exB h ?_ | refine t_exS h ?_ | refine t_exP h ?_ | refine t_exSl h ?_ | refine t_exV h ?_ | refine u_exI ?_ | refine u_exB ?_ | refine u_exS ?_ | refine u_exP ?_ | refine u_exSl ?_ | refine u_exV ?_ | refine u_nilc ?_ | (apply Exists.intro; (repeat apply Exists.intro); refine And.intro rfl ?_) | (refine And.intro ?_ ?_; first | exact trivial | exact rfl | exact t_ld h | (refine lds_s (t_ld h) ?_; (repeat (refine lds_s (t_ld h) ?_)); exact lds_nil) | omega) | refine u_bspT ?_ | refine u_bspF ?_)
      try simp only [Int.toNat_natCast]
      refine v_exI (Src.at (h.src (A := some ⟨b2, 0, none⟩)) h (i := i) (j := 0) hr rfl rfl) ?_
      dsimp only
      replace h := h.objs_out locR hb hxi
      refine local_Next h ?_
      repeat (first | (refine s_nwc h ?_; clear h; intro kb M h) | (refine s_stc h ?_; clear h; intro M h) | refine t_exI h ?_ | refine t_exB h ?_ | refine t_exS h ?_ | refine t_exP h ?_ | refine t_exSl h ?_ | refine t_exV h ?_ | refine u_exI ?_ | refine u_exB ?_ | refine u_exS ?_ | refine u_exP ?_ | refine u_exSl ?_ | refine u_exV ?_ | refine u_nilc ?_ | (apply Exists.intro; (repeat apply Exists.intro); refine And.intro rfl ?_) | (refine And.intro ?_ ?_; first | exact trivial | exact rfl | exact t_ld h | (refine lds_s (t_ld h) ?_; (repeat (refine lds_s (t_ld h) ?_)); exact lds_nil) | omega) | refine u_bspT ?_ | refine u_bspF ?_)
      repeat (first | refine And.intro (t_ld h) ?_ | refine And.intro (Src.at (h.src (A := some ⟨b2, 0, none⟩)) h (i := i) (j := 1) hr rfl (by simp [rlE])) ?_ | refine And.intro (Src.at (h.src (A := some ⟨b2, 0, none⟩)) h (i := i) (j := 0) hr rfl (by simp [rlE])) ?_)
      refine bsp_ne.2 ⟨fun hn => absurd rfl hn, fun _ => ?_⟩
      repeat (first | (refine s_nwc h ?_; clear h; intro kb M h) | (refine s_stc h ?_; clear h; intro M h) | refine t_exI h ?_ | refine t_exB h ?_ | refine t_exS h ?_ | refine t_exP h ?_ | refine t_exSl h ?_ | refine t_exV h ?_ | refine u_exI ?_ | refine u_exB ?_ | refine u_exS ?_ | refine u_exP ?_ | refine u_exSl ?_ | refine u_exV ?_ | refine u_nilc ?_ | (apply Exists.intro; (repeat apply Exists.intro); refine And.intro rfl ?_) | (refine And.intro ?_ ?_; first | exact trivial | exact rfl | exact t_ld h | (refine lds_s (t_ld h) ?_; (repeat (refine lds_s (t_ld h) ?_)); exact lds_nil) | omega) | refine u_bspT ?_ | refine u_bspF ?_)
      try simp only [Int.toNat_natCast]
      refine v_exSl (Src.at (h.src (A := some ⟨b2, 0, none⟩)) h (i := i) (j := 1) hr rfl rfl) ?_
      dsimp only
      refine local_List h ?_
      clear h
      intro A5 c5 M h
      repeat (first | (refine s_nwc h ?_; clear h; intro kb M h) | (refine s_stc h ?_; clear h; intro M h) | refine t_exI h ?_ | refine t_exB h ?_ | refine t_exS h ?_ | refine t_exP h ?_ | refine t_exSl h ?_ | refine t_exV h ?_ | refine u_exI ?_ | refine u_exB ?_ | refine u_exS ?_ | refine u_exP ?_ | refine u_exSl ?_ | refine u_exV ?_ | refine u_nilc ?_ | (apply Exists.intro; (repeat apply Exists.intro); refine And.intro rfl ?_) | (refine And.intro ?_ ?_; first | exact trivial | exact rfl | exact t_ld h | (refine lds_s (t_ld h) ?_; (repeat (refine lds_s (t_ld h) ?_)); exact lds_nil) | omega) | refine u_bspT ?_ | refine u_bspF ?_)
      repeat (first | refine And.intro (t_ld h) ?_ | refine And.intro (Src.at (h.src (A := some ⟨b2, 0, none⟩)) h (i := i) (j := 1) hr rfl (by simp [rlE])) ?_ | refine And.intro (Src.at (h.src (A := some ⟨b2, 0, none⟩)) h (i := i) (j := 0) hr rfl (by simp [rlE])) ?_)
      refine law07_Same h (Src.row (A := A5)) hrs.src rfl rfl (by omega) ?_
      clear h
      intro M h
      repeat (first | (refine s_nwc h ?_; clear h; intro kb M h) | (refine s_stc h ?_; clear h; intro M h) | refine t_exI h ?_ | refine t_exB h ?_ | refine t_exS h ?_ | refine t_exP h ?_ | refine t_exSl h ?_ | refine t_exV h ?_ | refine u_exI ?_ | refine u_exB ?_ | refine u_exS ?_ | refine u_exP ?_ | refine u_exSl ?_ | refine u_exV ?_ | refine u_nilc ?_ | (apply Exists.intro; (repeat apply Exists.intro); refine And.intro rfl ?_) | (refine And.intro ?_ ?_; first | exact trivial | exact rfl | exact t_ld h | (refine lds_s (t_ld h) ?_; (repeat (refine lds_s (t_ld h) ?_)); exact lds_nil) | omega) | refine u_bspT ?_ | refine u_bspF ?_)
      repeat (first | refine And.intro (t_ld h) ?_ | refine And.intro (Src.at (h.src (A := some ⟨b2, 0, none⟩)) h (i := i) (j := 1) hr rfl (by simp [rlE])) ?_ | refine And.intro (Src.at (h.src (A := some ⟨b2, 0, none⟩)) h (i := i) (j := 0) hr rfl (by simp [rlE])) ?_)
      refine bsp_ne.2 ⟨fun hn => absurd rfl hn, fun _ => ?_⟩
      repeat (first | (refine s_nwc h ?_; clear h; intro kb M h) | (refine s_stc h ?_; clear h; intro M h) | refine t_exI h ?_ | refine t_exB h ?_ | refine t_exS h ?_ | refine t_exP h ?_ | refine t_exSl h ?_ | refine t_exV h ?_ | refine u_exI ?_ | refine u_exB ?_ | refine u_exS ?_ | refine u_exP ?_ | refine u_exSl ?_ | refine u_exV ?_ | refine u_nilc ?_ | (apply Exists.intro; (repeat apply Exists.intro); refine And.intro rfl ?_) | (refine And.intro ?_ ?_; first | exact trivial | exact rfl | exact t_ld h | (refine lds_s (t_ld h) ?_; (repeat (refine lds_s (t_ld h) ?_)); exact lds_nil) | omega) | refine u_bspT ?_ | refine u_bspF ?_)
      refine local_Len h ?_
      rw [if_neg hne]
      repeat (first | (refine s_nwc h ?_; clear h; intro kb M h) | (refine s_stc h ?_; clear h; intro M h) | refine t_exI h ?_ | refine t_exB h ?_ | refine t_exS h ?_ | refine t_exP h ?_ | refine t_exSl h ?_ | refine t_exV h ?_ | refine u_exI ?_ | refine u_exB ?_ | refine u_exS ?_ | refine u_exP ?_ | refine u_exSl ?_ | refine u_exV ?_ | refine u_nilc ?_ | (apply Exists.intro; (repeat apply Exists.intro); refine And.intro rfl ?_) | (refine And.intro ?_ ?_; first | exact trivial | exact rfl | exact t_ld h | (refine lds_s (t_ld h) ?_; (repeat (refine lds_s (t_ld h) ?_)); exact lds_nil) | omega) | refine u_bspT ?_ | refine u_bspF ?_)
      repeat (first | refine And.intro (t_ld h) ?_ | refine And.intro (Src.at (h.src (A := some ⟨b2, 0, none⟩)) h (i := i) (j := 1) hr rfl (by simp [rlE])) ?_ | refine And.intro (Src.at (h.src (A := some ⟨b2, 0, none⟩)) h (i := i) (j := 0) hr rfl (by simp [rlE])) ?_)
      refine bsp_ne.2 ⟨fun hn => absurd rfl hn, fun _ => ?_⟩
      replace h := h.objs_same locR b hb hxi
      repeat (first | refine And.intro (t_ld h) ?_ | refine And.intro (Src.at (h.src (A := some ⟨b2, 0, none⟩)) h (i := i) (j := 1) hr rfl (by simp [rlE])) ?_ | refine And.intro (Src.at (h.src (A := some ⟨b2, 0, none⟩)) h (i := i) (j := 0) hr rfl (by simp [rlE])) ?_)
      rw [wrap_succ (by omega)]
      exact ⟨4 - (i + 1), by omega, i + 1, rfl, rfl, by omega, h.sub (by repeat (first | exact Sub.refl | refine Sub.cons (by first | exact Pick.here | exact (.there .here) | exact (.there (.there .here)) | exact (.there (.there (.there .here))) | exact (.there (.there (.there (.there .here)))) | exact (.there (.there (.there (.there (.there .here))))) | exact (.there (.there (.there (.there (.there (.there .here)))))) | exact (.there (.there (.there (.there (.there (.there (.there .here))))))) | exact (.there (.there (.there (.there (.there (.there (.there (.there .here)))))))) | exact (.there (.there (.there (.there (.there (.there (.there (.there (.there .here))))))))) | exact (.there (.there (.there (.there (.there (.there (.there (.there (.there (.there .here)))))))))) | exact (.there (.there (.there (.there (.there (.there (.there (.there (.there (.there (.there .here))))))))))) | exact (.there (.there (.there (.there (.there (.there (.there (.there (.there (.there (.there (.there .here)))))))))))) | exact (.there (.there (.there (.there (.there (.there (.there (.there (.there (.there (.there (.there (.there .here))))))))))))) | exact (.there (.there (.there (.there (.there (.there (.there (.there (.there (.there (.there (.there (.there (.there .here)))))))))))))) | exact (.there (.there (.there (.there (.there (.there (.there (.there (.there (.there (.there (.there (.there (.there (.there .here)))))))))))))))) ?_ | refine Sub.drop ?_))⟩
  · repeat (first | (refine s_nwc h ?_; clear h; intro kb M h) | (refine s_stc h ?_; clear h; intro M h) | refine t_exI h ?_ | refine t_exB h ?_ | refine t_exS h ?_ | refine t_exP h ?_ | refine t_exSl h ?_ | refine t_exV h ?_ | refine u_exI ?_ | refine u_exB ?_ | refine u_exS ?_ | refine u_exP ?_ | refine u_exSl ?_ | refine u_exV ?_ | refine u_nilc ?_ | (apply Exists.intro; (repeat apply Exists.intro); refine And.intro rfl ?_) | (refine And.intro ?_ ?_; first | exact trivial | exact rfl | exact t_ld h | (refine lds_s (t_ld h) ?_; (repeat (refine lds_s (t_ld h) ?_)); exact lds_nil) | omega) | refine u_bspT ?_ | refine u_bspF ?_)
    refine local_gList (gb := gb) h (by omega) ?_
    clear h
    intro A5 c5 M h
    repeat (first | (refine s_nwc h ?_; clear h; intro kb M h) | (refine s_stc h ?_; clear h; intro M h) | refine t_exI h ?_ | refine t_exB h ?_ | refine t_exS h ?_ | refine t_exP h ?_ | refine t_exSl h ?_ | refine t_exV h ?_ | refine u_exI ?_ | refine u_exB ?_ | refine u_exS ?_ | refine u_exP ?_ | refine u_exSl ?_ | refine u_exV ?_ | refine u_nilc ?_ | (apply Exists.intro; (repeat apply Exists.intro); refine And.intro rfl ?_) | (refine And.intro ?_ ?_; first | exact trivial | exact rfl | exact t_ld h | (refine lds_s (t_ld h) ?_; (repeat (refine lds_s (t_ld h) ?_)); exact lds_nil) | omega) | refine u_bspT ?_ | refine u_bspF ?_)
    refine law07_Same h (Src.row (A := A5)) hy.src rfl rfl (by omega) ?_
    clear h
    intro M h
    repeat (first | (refine s_nwc h ?_; clear h; intro kb M h) | (refine s_stc h ?_; clear h; intro M h) | refine t_exI h ?_ | refine t_exB h ?_ | refine t_exS h ?_ | refine t_exP h ?_ | refine t_exSl h ?_ | refine t_exV h ?_ | refine u_exI ?_ | refine u_exB ?_ | refine u_exS ?_ | refine u_exP ?_ | refine u_exSl ?_ | refine u_exV ?_ | refine u_nilc ?_ | (apply Exists.intro; (repeat apply Exists.intro); refine And.intro rfl ?_) | (refine And.intro ?_ ?_; first | exact trivial | exact rfl | exact t_ld h | (refine lds_s (t_ld h) ?_; (repeat (refine lds_s (t_ld h) ?_)); exact lds_nil) | omega) | refine u_bspT ?_ | refine u_bspF ?_)
    refine local_gLen (gb := gb) h ?_
    repeat (first | (refine s_nwc h ?_; clear h; intro kb M h) | (refine s_stc h ?_; clear h; intro M h) | refine t_exI h ?_ | refine t_exB h ?_ | refine t_exS h ?_ | refine t_exP h ?_ | refine t_exSl h ?_ | refine t_exV h ?_ | refine u_exI ?_ | refine u_exB ?_ | refine u_exS ?_ | refine u_exP ?_ | refine u_exSl ?_ | refine u_exV ?_ | refine u_nilc ?_ | (apply Exists.intro; (repeat apply Exists.intro); refine And.intro rfl ?_) | (refine And.intro ?_ ?_; first | exact trivial | exact rfl | exact t_ld h | (refine lds_s (t_ld h) ?_; (repeat (refine lds_s (t_ld h) ?_)); exact lds_nil) | omega) | refine u_bspT ?_ | refine u_bspF ?_)
    rw [beq_self_eq_true]
    exact k _ ⟨_, ca, _, cx, _, _, _, co, gb, bs, _, hbl, hx, hy, h.sub (by repeat (first | exact Sub.refl | refine Sub.cons (by first | exact Pick.here | exact (.there .here) | exact (.there (.there .here)) | exact (.there (.there (.there .here))) | exact (.there (.there (.there (.there .here)))) | exact (.there (.there (.there (.there (.there .here))))) | exact (.there (.there (.there (.there (.there (.there .here)))))) | exact (.there (.there (.there (.there (.there (.there (.there .here))))))) | exact (.there (.there (.there (.there (.there (.there (.there (.there .here)))))))) | exact (.there (.there (.there (.there (.there (.there (.there (.there (.there .here))))))))) | exact (.there (.there (.there (.there (.there (.there (.there (.there (.there (.there .here)))))))))) | exact (.there (.there (.there (.there (.there (.there (.there (.there (.there (.there (.there .here))))))))))) | exact (.there (.there (.there (.there (.there (.there (.there (.there (.there (.there (.there (.there .here)))))))))))) | exact (.there (.there (.there (.there (.there (.there (.there (.there (.there (.there (.there (.there (.there .here))))))))))))) | exact (.there (.there (.there (.there (.there (.there (.there (.there (.there (.there (.there (.there (.there (.there .here)))))))))))))) | exact (.there (.there (.there (.there (.there (.there (.there (.there (.there (.there (.there (.there (.there (.there (.there .here)))))))))))))))) ?_ | refine Sub.drop ?_))⟩
end
end Go.Proofs
