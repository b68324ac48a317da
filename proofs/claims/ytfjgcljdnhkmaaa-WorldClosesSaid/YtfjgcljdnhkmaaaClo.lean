/- A part of proofs about functions of one program: a condition over a partial memory that is enough for a call, and what calls answer by it. No condition of its own. -/
import Derived.Test.YtfjgcljdnhkmaaaCloM2
import Derived.Test.YtfjgcljdnhkmaaaVClo
/- WorldCloses: whoever waits at a channel that is closed goes on with nothing. -/
namespace Go.Proofs
open Go.AF
set_option linter.unusedVariables false
set_option maxRecDepth 100000
set_option maxHeartbeats 1000000
attribute [local irreducible] exI exB exS exP exSl exV nilc stc nwc semK semU bsp
theorem el_ins : ElemOk Try.prog 32 31 4 32 [.int .i64 0, .int .i64 0, .int .i64 0, .int .i64 0] := ElemOk.mk' (zv := .agg #[.int .i64 0, .int .i64 0, .int .i64 0, .int .i64 0]) (by kernel_rfl) (by kernel_rfl) rfl (by omega)
abbrev rowN (A : Option Addr) (c : Nat) (l : List Ins) : HP := rowP insE 31 A c l
def sp2 (q1 : Bool) : List Ins := if q1 then [⟨11, 2, 0, 1⟩] else []
theorem sp2_len (q1 : Bool) : (sp2 q1).length ≤ 1 := by cases q1 <;> decide
section
variable {M : Mem} {K : Value → Mem → Prop} {Kp : List PanicEntry → Mem → Prop}
theorem worldCloses_ok {x0 : Int} {q1 : Bool} (k : ∀ M', Chg [] M M' → K (.bool true) M') : ACalls Try.prog 4 #[.int .i64 x0, .bool q1] M K Kp := by
  refine vc_shunterlaw16_WorldCloses ?_
  refine law16_awake (Hp.start M) ?_
  intro R0 M' hle0 h
  have k' : ∀ (R : Mem) (L : List HP) M', R0.le R → Hp R L M' → K (.bool true) M' := fun R L M' hle h => k M' (Keep.chg (fun b o hb => h.le b o (hle b o (hle0 b o hb))) [])
  clear k
  refine u_exB (u_bspF ?_)
  refine ⟨by decide, ?_⟩
  obtain ⟨q0, hq0, _⟩ := mask (x := x0) (y := 255) (m := 255) rfl (by omega)
  have hn : IntKind.wrap .i64 (1 + Int.tmod (q0 : Int) 20) = ((1 + q0 % 20 : Nat) : Int) := by
    rw [show (20 : Int) = ((20 : Nat) : Int) from rfl, tmod_nat]; exact wn (by omega) (by omega)
  have n1 : 1 ≤ 1 + q0 % 20 := by omega
  have n2 : 1 + q0 % 20 ≤ 20 := by omega
  generalize hN : 1 + q0 % 20 = N at hn n1 n2
  simp only [hq0, hn]
  refine s_nwc h ?_
  clear h; intro k4 M h
  replace h := h.row_pt (E := insE) (l := []) rfl
  refine ⟨fun d vs M => ∃ (j : Nat) (A : Option Addr) (c : Nat), vs = [.slice A j c, .int .i64 (j : Int)] ∧ d = N - j ∧ j ≤ N ∧ Hp R0 [rowN A c (List.replicate j ⟨11, 1, 0, 1⟩)] M, ⟨_, 0, _, _, rfl, rfl, by omega, h⟩, ?_⟩
  clear h
  rintro d _ A m c ii M ⟨j, _, _, he, hd, hj, h⟩
  simp only [List.cons.injEq, Value.slice.injEq, Value.int.injEq, and_true, true_and] at he
  obtain ⟨⟨rfl, rfl, rfl⟩, rfl⟩ := he
  have hrl : (List.replicate m (⟨11, 1, 0, 1⟩ : Ins)).length = m := List.length_replicate
  refine bsp_dec.2 ⟨fun hlt => ?_, fun hge => ?_⟩
  · refine s_nwc h ?_
    clear h; intro kb M h
    rw [wrap_succ (by omega)]
    have hc := h.rowAppend1 (A := A) (P := Try.prog) (Kp := Kp) (ty := 32) (d := 1) (k := kb) el_ins [(⟨11, 1, 0, 1⟩ : Ins)] rfl rfl (by rw [hrl]; simp; omega) (K := fun v17 M18 => exSl (some v17) fun A19 k20 k21 =>
      ∃ k22 : Nat, (k22 < d) ∧ ∃ (j : Nat) (A : Option Addr) (c : Nat), [Value.slice A19 k20 k21, .int .i64 ((m + 1 : Nat) : Int)] = [.slice A j c, .int .i64 (j : Int)] ∧ k22 = N - j ∧ j ≤ N ∧ Hp R0 [rowN A c (List.replicate j ⟨11, 1, 0, 1⟩)] M18) ?_
    · rw [hrl] at hc; exact hc
    clear h
    intro A' c' M h
    have e : List.replicate m (⟨11, 1, 0, 1⟩ : Ins) ++ [⟨11, 1, 0, 1⟩] = List.replicate (m + 1) ⟨11, 1, 0, 1⟩ := List.replicate_succ'.symm
    rw [e] at h
    rw [e, List.length_replicate]
    exact u_exSl ⟨N - (m + 1), by omega, m + 1, A', c', rfl, rfl, by omega, h⟩
  have hmN : m = N := by omega
  subst hmN
  have hchk := chkC_at n1 n2 q1
  refine ⟨fun vs M => ∃ (A : Option Addr) (c : Nat), vs = [.slice A (List.replicate m (⟨11, 1, 0, 1⟩ : Ins) ++ sp2 q1).length c] ∧ Hp R0 [rowN A c (List.replicate m ⟨11, 1, 0, 1⟩ ++ sp2 q1)] M, ?_, ?_⟩
  · cases q1 with
    | true =>
      refine u_bspT ?_
      refine s_nwc h ?_
      clear h; intro kb M h
      have hc := h.rowAppend1 (A := A) (P := Try.prog) (Kp := Kp) (ty := 32) (d := 1) (k := kb) el_ins [(⟨11, 2, 0, 1⟩ : Ins)] rfl rfl (by rw [hrl]; simp; omega) (K := fun v17 M18 => exSl (some v17) fun A19 k20 k21 =>
        ∃ (A : Option Addr) (c : Nat), [Value.slice A19 k20 k21] = [.slice A (List.replicate m (⟨11, 1, 0, 1⟩ : Ins) ++ sp2 true).length c] ∧ Hp R0 [rowN A c (List.replicate m ⟨11, 1, 0, 1⟩ ++ sp2 true)] M18) ?_
      · rw [hrl] at hc; exact hc
      clear h
      intro A' c' M h
      exact u_exSl ⟨A', c', rfl, h⟩
    | false =>
      refine u_bspF ?_
      exact ⟨A, c, by simp [sp2], by simpa [sp2] using h⟩
  clear h
  rintro _ A2 m2 c2 M ⟨A3, c3, he, h⟩
  simp only [List.cons.injEq, Value.slice.injEq, and_true] at he
  obtain ⟨rfl, rfl, rfl⟩ := he
  refine s_nwc h ?_
  clear h; intro kb M h
  refine h.rowAppend1 (bytes := 32) el_ins [(⟨15, 0, 0, 0⟩ : Ins), ⟨15, 1, 0, 0⟩] rfl rfl (by have := sp2_len q1; simp only [List.length_append, List.length_replicate, List.length_cons, List.length_nil]; omega) ?_
  clear h
  intro A4 c4 M h
  have em : List.replicate m (⟨11, 1, 0, 1⟩ : Ins) ++ sp2 q1 ++ [⟨15, 0, 0, 0⟩, ⟨15, 1, 0, 0⟩] = pMain m q1 := rfl
  rw [em] at h ⊢
  have hml : (pMain m q1).length = nS m q1 + 2 := by unfold pMain nS; cases q1 <;> simp
  refine u_exSl ?_
  -- the program's rows
  refine s_nwc h ?_
  clear h; intro k43 M h
  refine s_nwc h ?_
  clear h; intro k45 M h
  refine s_nwc h ?_
  clear h; intro k47 M h
  refine s_nwc h ?_
  clear h; intro k49 M h
  refine s_nwc h ?_
  clear h; intro k51 M h
  refine s_stc h ?_
  clear h; intro M h
  refine s_stc h ?_
  clear h; intro M h
  refine s_stc h ?_
  clear h; intro M h
  refine s_stc h ?_
  clear h; intro M h
  refine t_exSl h (t_exSl h (t_exI h (t_exSl h ?_)))
  obtain ⟨R1, e1, r1, h⟩ := ((h.pt k43).row_pt (E := intE) (l := [0, 0]) rfl).sealRow (some ⟨k43, 0, none⟩)
  obtain ⟨R2, e2, r2, h⟩ := ((h.pt k45).row_pt (E := insE) (l := [⟨1, 1, 7, 0⟩, ⟨1, 2, 7, 0⟩, ⟨14, 0, 1, 2⟩]) rfl).sealRow (some ⟨k45, 0, none⟩)
  obtain ⟨R3, e3, r3, h⟩ := ((h.pt k47).row_pt (E := insE) (l := [⟨13, 1, 0, 0⟩]) rfl).sealRow (some ⟨k47, 0, none⟩)
  obtain ⟨R4, e4, r4, h⟩ := h.sealRow A4
  obtain ⟨R5, e5, r5, h⟩ := ((h.pt k49).row_pt (E := slE) (l := [(A4, (pMain m q1).length, c4), (some ⟨k45, 0, none⟩, 3, 3), (some ⟨k47, 0, none⟩, 1, 1)]) rfl).sealRow (some ⟨k49, 0, none⟩)
  have hle5 : R0.le R5 := Mem.le_trans e1 (Mem.le_trans e2 (Mem.le_trans e3 (Mem.le_trans e4 e5)))
  have hp : PrgR R5 ⟨some ⟨k49, 0, none⟩, 3, some ⟨k43, 0, none⟩, 2, none, 0⟩ (pC m q1) := ⟨⟨_, r5, rfl, fun i t f a b => by
    match i, a, b with
    | 0, a, b => simp at a; cases b; subst a; exact ⟨r4.le e5, rfl⟩
    | 1, a, b => simp at a; cases b; subst a; exact ⟨r2.le (Mem.le_trans e3 (Mem.le_trans e4 e5)), rfl⟩
    | 2, a, b => simp at a; cases b; subst a; exact ⟨r3.le (Mem.le_trans e4 e5), rfl⟩
    | i + 3, a, b => simp at a⟩, RS.nil _ _⟩
  have hch : RS intE R5 (some ⟨k43, 0, none⟩) 2 (pC m q1).chs := r1.le (Mem.le_trans e2 (Mem.le_trans e3 (Mem.le_trans e4 e5)))
  refine world_New (p := pC m q1) (pa := ⟨some ⟨k49, 0, none⟩, 3, some ⟨k43, 0, none⟩, 2, none, 0⟩) h hch (show (2 : Nat) ≤ 1000000 by decide) (show (0 : Int) ≤ 0 ∧ (0 : Int) ≤ 1000000 by decide) ?_
  clear h
  intro b M h
  refine u_exP ?_
  unfold chkC at hchk
  simp only [Bool.and_eq_true] at hchk
  obtain ⟨⟨⟨ck1, ck2⟩, ck3⟩, ck4⟩ := hchk
  have hT : (Wk (pC m q1) (trC m q1) (4 * nS m q1 + 2)).isSome = true := by
    cases hw : Wk (pC m q1) (trC m q1) (4 * nS m q1 + 2) with
    | none => rw [hw] at ck4; cases ck4
    | some w => rfl
  have hTl : 4 * nS m q1 + 2 ≤ (trC m q1).length := Nat.le_of_eq (trC_len m q1).symm
  have hns : nS m q1 ≤ 21 := by unfold nS; split <;> omega
  have hB : ∀ (k : Nat) (w : Wd), nS m q1 ≤ k → k ≤ 4 * nS m q1 → Wk (pC m q1) (trC m q1) k = some w → w.gs.length = nS m q1 + 1 := by
    intro k w h1 h2 hw
    have hA1 : ∃ w1, Wk (pC m q1) (trC m q1) (nS m q1) = some w1 ∧ w1.gs.length = nS m q1 + 1 := by
      cases hx : Wk (pC m q1) (trC m q1) (nS m q1) with
      | none => rw [hx] at ck1; cases ck1
      | some w1 => rw [hx] at ck1; exact ⟨w1, rfl, by simpa using ck1⟩
    have hA2 : ∃ w1, Wk (pC m q1) (trC m q1) (4 * nS m q1) = some w1 ∧ w1.gs.length = nS m q1 + 1 := by
      cases hx : Wk (pC m q1) (trC m q1) (4 * nS m q1) with
      | none => rw [hx] at ck2; cases ck2
      | some w1 => rw [hx] at ck2; exact ⟨w1, rfl, by simpa using ck2⟩
    obtain ⟨w1, g1, g2⟩ := hA1
    obtain ⟨w2, g3, g4⟩ := hA2
    have l1 := Wk_len (k - nS m q1) (by omega) g1 (by rw [show nS m q1 + (k - nS m q1) = k from by omega]; exact hw)
    have l2 := Wk_len (4 * nS m q1 - k) (by omega) hw (by rw [show k + (4 * nS m q1 - k) = 4 * nS m q1 from by omega]; exact g3)
    omega
  generalize hLL : [pt k51 _ _] = LL at h
  generalize hpa : PA.mk _ _ _ _ _ _ = pa at h hp
  clear hLL hpa r1 r2 r3 r4 r5 e1 e2 e3 e4 e5 hch
  have eb : IntKind.wrap .i64 (((pMain m q1).length : Int) - 2) = ((nS m q1 : Nat) : Int) := wn (by omega) (by omega)
  rw [eb]
  refine ⟨fun d vs M => ∃ (j : Nat) (R : Mem) (w : Wd), vs = [.int .i64 (j : Int)] ∧ d = nS m q1 - j ∧ j ≤ nS m q1 ∧ R5.le R ∧ Wk (pC m q1) (trC m q1) j = some w ∧ Hp R (objP (idleR pa (pC m q1)) b w :: LL) M, ⟨_, 0, R5, _, rfl, rfl, by omega, Mem.le_refl _, rfl, h⟩, ?_⟩
  clear h
  rintro d _ nn M ⟨j, R, w, he, hd, hj, hle, hw, h⟩
  simp only [List.cons.injEq, Value.int.injEq, and_true, true_and] at he
  subst he
  refine bsp_dec.2 ⟨fun hlt => ?_, fun hge => ?_⟩
  · obtain ⟨y, kp, hex, hy⟩ := Wk_step hT hTl (k := j) (by omega) (trC_a (by omega)) hw
    refine law_Exec h (hp.le hle) ⟨_, _, _, rfl⟩ hex ?_
    clear h
    intro R' A' c' M h1 h2 h
    rw [wrap_succ (by omega)]
    exact ⟨_, _, _, _, rfl, nS m q1 - (j + 1), by omega, j + 1, R', y, rfl, rfl, by omega, Mem.le_trans hle h1, hy, h⟩
  have hjn : j = nS m q1 := by omega
  subst hjn
  refine ⟨fun d vs M => ∃ (q : Nat) (R : Mem) (w : Wd), vs = [.int .i64 ((q + 1 : Nat) : Int)] ∧ d = nS m q1 - q ∧ q ≤ nS m q1 ∧ R5.le R ∧ Wk (pC m q1) (trC m q1) (nS m q1 + 3 * q) = some w ∧ Hp R (objP (idleR pa (pC m q1)) b w :: LL) M, ⟨_, 0, R, w, rfl, rfl, by omega, hle, hw, h⟩, ?_⟩
  clear h hw hle
  rintro d _ nn M ⟨q, R, w, he, hd, hj, hle, hw, h⟩
  simp only [List.cons.injEq, Value.int.injEq, and_true, true_and] at he
  subst he
  refine world_Len h ?_
  rw [hB _ w (by omega) (by omega) hw]
  refine u_exI ?_
  refine bsp_dec.2 ⟨fun hlt => ?_, fun hge => ?_⟩
  · refine ⟨fun d2 vs M => ∃ (i : Nat) (R : Mem) (w : Wd), vs = [.int .i64 (i : Int)] ∧ d2 = 3 - i ∧ i ≤ 3 ∧ R5.le R ∧ Wk (pC m q1) (trC m q1) (nS m q1 + (3 * q + i)) = some w ∧ Hp R (objP (idleR pa (pC m q1)) b w :: LL) M, ⟨_, 0, R, w, rfl, rfl, by omega, hle, hw, h⟩, ?_⟩
    clear h hw hle
    rintro d2 _ nn M ⟨i, R, w, he, hd2, hi, hle, hw, h⟩
    simp only [List.cons.injEq, Value.int.injEq, and_true, true_and] at he
    subst he
    refine bsp_dec.2 ⟨fun hlt2 => ?_, fun hge2 => ?_⟩
    · obtain ⟨y, kp, hex, hy⟩ := Wk_step hT hTl (k := nS m q1 + (3 * q + i)) (by omega) (trC_b (by omega) (by omega)) hw
      refine law_Exec (g := ((q + 1 : Nat) : Int)) h (hp.le hle) ⟨_, _, _, rfl⟩ (by rw [Int.natCast_add]; exact hex) ?_
      clear h
      intro R' A' c' M h1 h2 h
      rw [wrap_succ (by omega)]
      exact ⟨_, _, _, _, rfl, 3 - (i + 1), by omega, i + 1, R', y, rfl, rfl, by omega, Mem.le_trans hle h1, hy, h⟩
    · have hi3 : i = 3 := by omega
      subst hi3
      rw [wrap_succ (by omega)]
      exact ⟨nS m q1 - (q + 1), by omega, q + 1, R, w, rfl, rfl, by omega, hle, hw, h⟩
  have hqn : q = nS m q1 := by omega
  subst hqn
  rw [show nS m q1 + 3 * nS m q1 = 4 * nS m q1 from by omega] at hw
  obtain ⟨y, kp, hex, hy⟩ := Wk_step hT hTl (k := 4 * nS m q1) (by omega) (trC_c (j := 0) (by omega)) hw
  refine law_Exec h (hp.le hle) ⟨_, _, _, rfl⟩ hex ?_
  clear h
  intro R6 A6 c6 M h6 hr6 h
  refine ⟨_, _, _, _, rfl, ?_⟩
  repeat (first | (refine s_nwc h ?_; clear h; intro kb M h) | (refine s_stc h ?_; clear h; intro M h) | refine t_exI h ?_ | refine t_exB h ?_ | refine t_exS h ?_ | refine t_exP h ?_ | refine t_exSl h ?_ | refine t_exV h ?_ | refine u_exI ?_ | refine u_exB ?_ | refine u_exS ?_ | refine u_exP ?_ | refine u_exSl ?_ | refine u_exV ?_ | refine u_nilc ?_ | (apply Exists.intro; (repeat apply Exists.intro); refine And.intro rfl ?_) | (refine And.intro ?_ ?_; first | exact trivial | exact rfl | exact t_ld h | (refine lds_s (t_ld h) ?_; (repeat (refine lds_s (t_ld h) ?_)); exact lds_nil) | omega) | refine u_bspT ?_ | refine u_bspF ?_)
  rw [hy] at ck3
  simp only [Bool.and_eq_true, beq_iff_eq, List.all_eq_true, decide_eq_true_eq] at ck3
  obtain ⟨hrd, hall⟩ := ck3
  have hrl2 : y.ready.length = m := by rw [hrd]; simp
  rw [hrl2]
  refine bsp_ne.2 ⟨fun hne => absurd rfl hne, fun _ => ?_⟩
  refine t_exSl h ?_
  refine ⟨fun d vs M => ∃ (j : Nat), vs = [.int .i64 (j : Int)] ∧ d = m - j ∧ j ≤ m ∧ Hp R6 (objP (idleR pa (pC m q1)) b y :: LL) M, ⟨_, 0, rfl, rfl, by omega, h.sub (by repeat (first | exact Sub.refl | refine Sub.cons (by first | exact Pick.here | exact (.there .here) | exact (.there (.there .here)) | exact (.there (.there (.there .here))) | exact (.there (.there (.there (.there .here)))) | exact (.there (.there (.there (.there (.there .here))))) | exact (.there (.there (.there (.there (.there (.there .here)))))) | exact (.there (.there (.there (.there (.there (.there (.there .here))))))) | exact (.there (.there (.there (.there (.there (.there (.there (.there .here)))))))) | exact (.there (.there (.there (.there (.there (.there (.there (.there (.there .here))))))))) | exact (.there (.there (.there (.there (.there (.there (.there (.there (.there (.there .here)))))))))) | exact (.there (.there (.there (.there (.there (.there (.there (.there (.there (.there (.there .here))))))))))) | exact (.there (.there (.there (.there (.there (.there (.there (.there (.there (.there (.there (.there .here)))))))))))) | exact (.there (.there (.there (.there (.there (.there (.there (.there (.there (.there (.there (.there (.there .here))))))))))))) | exact (.there (.there (.there (.there (.there (.there (.there (.there (.there (.there (.there (.there (.there (.there .here)))))))))))))) | exact (.there (.there (.there (.there (.there (.there (.there (.there (.there (.there (.there (.there (.there (.there (.there .here)))))))))))))))) ?_ | refine Sub.drop ?_))⟩, ?_⟩
  clear h
  rintro d _ nn M ⟨j, he, hd, hj, h⟩
  simp only [List.cons.injEq, Value.int.injEq, and_true, true_and] at he
  subst he
  have hle6 : R5.le R6 := Mem.le_trans hle h6
  refine bsp_dec.2 ⟨fun hlt => ?_, fun hge => ?_⟩
  · have hjr : y.ready[j]? = some ((j : Int) + 1) := by
      rw [hrd, List.getElem?_map, List.getElem?_range (by omega)]; rfl
    obtain ⟨⟨⟨a1, a2⟩, a3⟩, a4⟩ := hall j (List.mem_range.2 (by omega))
    obtain ⟨rb, ro, hrb⟩ := hr6.some (by omega) (by decide)
    refine ⟨by omega, hlt, ?_⟩
    rw [hrb] at hr6 ⊢
    refine u_nilc ?_
    simp only [Int.toNat_natCast]
    refine v_exI (Src.at (hr6.src (L := _)) h (i := j) (j := 0) hjr rfl (by simp [intE])) ?_
    refine world_Stack h a1 ?_
    obtain ⟨g0, g1, g2, g3⟩ := a1
    intro bs cs M' h'
    clear h
    have h := h'
    clear h'
    refine u_exSl ?_
    refine frame_Top g2 (by omega) ?_
    refine u_exP ?_
    rw [wrap_succ (by omega)]
    refine bsp_ne.2 ⟨fun hne => absurd (by omega) hne, fun _ => ?_⟩
    refine u_nilc ⟨by omega, by omega, ?_⟩
    refine f_ld h (gor_top g2) (q := 1) (by decide) rfl ?_
    rw [a2]
    refine bsp_ne.2 ⟨fun hne => absurd rfl hne, fun _ => ?_⟩
    refine u_nilc ⟨by omega, by omega, ?_⟩
    refine f_ld h (gor_top g2) (q := 2) (by decide) rfl ?_
    rw [a3]
    refine bsp_ne.2 ⟨fun hne => absurd rfl hne, fun _ => ?_⟩
    refine world_Status h g0 g1 ?_
    rw [a4]
    refine u_exI ?_
    refine bsp_ne.2 ⟨fun hne => absurd rfl hne, fun _ => ?_⟩
    exact ⟨m - (j + 1), by omega, j + 1, rfl, rfl, by omega, h.sub (by repeat (first | exact Sub.refl | refine Sub.cons (by first | exact Pick.here | exact (.there .here) | exact (.there (.there .here)) | exact (.there (.there (.there .here))) | exact (.there (.there (.there (.there .here)))) | exact (.there (.there (.there (.there (.there .here))))) | exact (.there (.there (.there (.there (.there (.there .here)))))) | exact (.there (.there (.there (.there (.there (.there (.there .here))))))) | exact (.there (.there (.there (.there (.there (.there (.there (.there .here)))))))) | exact (.there (.there (.there (.there (.there (.there (.there (.there (.there .here))))))))) | exact (.there (.there (.there (.there (.there (.there (.there (.there (.there (.there .here)))))))))) | exact (.there (.there (.there (.there (.there (.there (.there (.there (.there (.there (.there .here))))))))))) | exact (.there (.there (.there (.there (.there (.there (.there (.there (.there (.there (.there (.there .here)))))))))))) | exact (.there (.there (.there (.there (.there (.there (.there (.there (.there (.there (.there (.there (.there .here))))))))))))) | exact (.there (.there (.there (.there (.there (.there (.there (.there (.there (.there (.there (.there (.there (.there .here)))))))))))))) | exact (.there (.there (.there (.there (.there (.there (.there (.there (.there (.there (.there (.there (.there (.there (.there .here)))))))))))))))) ?_ | refine Sub.drop ?_))⟩
  obtain ⟨z, kp2, hex2, hz⟩ := Wk_step hT hTl (k := 4 * nS m q1 + 1) (by omega) (trC_c (j := 1) (by omega)) hy
  refine law_Exec h (hp.le hle6) ⟨_, _, _, rfl⟩ hex2 ?_
  clear h
  intro R7 A7 c7 M h7 hr7 h
  refine ⟨_, _, _, _, rfl, ?_⟩
  rw [hz] at ck4
  simp only [Bool.and_eq_true, decide_eq_true_eq] at ck4
  obtain ⟨⟨⟨⟨⟨⟨z1, z2⟩, z3⟩, z4⟩, z5⟩, z6⟩, z7⟩ := ck4
  have hle7 : R0.le R7 := Mem.le_trans hle5 (Mem.le_trans hle6 h7)
  refine world_End h ?_
  refine ⟨_, _, rfl, ?_⟩
  cases q1 with
  | true =>
    simp only [if_true, Bool.and_eq_true, beq_iff_eq] at z7
    obtain ⟨⟨y1, y2⟩, y3⟩ := z7
    refine u_bspT ?_
    rw [y1, y2]
    refine u_bspT (u_bspT ?_)
    refine world_Chan h z2 (z4.mono (by omega)) ?_
    clear h
    intro A ca B cb D cd M h
    refine ⟨_, _, _, _, _, _, _, _, _, _, rfl, ?_⟩
    rw [z6]
    refine u_bspT ?_
    refine world_Chan h z2 (z4.mono (by omega)) ?_
    clear h
    intro A' ca' B' cb' D' cd' M h
    refine ⟨_, _, _, _, _, _, _, _, _, _, rfl, ?_⟩
    have : (chAt z.chans 1).snd.length = 0 := by
      cases hs : (chAt z.chans 1).snd with
      | nil => rfl
      | cons _ _ => rw [hs] at y3; cases y3
    rw [this]
    exact k' R7 _ _ hle7 h
  | false =>
    simp only [Bool.false_eq_true, if_false, beq_iff_eq] at z7
    refine u_bspF ?_
    rw [z7]
    refine u_bspT ?_
    refine world_Chan h z1 (z3.mono (by omega)) ?_
    clear h
    intro A ca B cb D cd M h
    refine ⟨_, _, _, _, _, _, _, _, _, _, rfl, ?_⟩
    rw [z5]
    refine u_bspT ?_
    refine world_Chan h z2 (z4.mono (by omega)) ?_
    clear h
    intro A' ca' B' cb' D' cd' M h
    refine ⟨_, _, _, _, _, _, _, _, _, _, rfl, ?_⟩
    rw [z6]
    exact k' R7 _ _ hle7 h
end
end Go.Proofs
