/- A part of proofs about functions of one program: a condition over a partial memory that is enough for a call, and what calls answer by it. No condition of its own. -/
import Derived.Test.YtodeolmcinekoaaFairW
namespace Go.Proofs
open Go.AF
set_option linter.unusedVariables false
set_option maxRecDepth 100000
set_option maxHeartbeats 1000000
attribute [local irreducible] exI exB exS exP exSl exV nilc stc nwc semK semU bsp
section
variable {R : Mem} {L L' : List HP} {M : Mem} {K : Value → Mem → Prop} {Kp : List PanicEntry → Mem → Prop}
theorem rw_bd (j : Int) (l : List Int) : 0 ≤ (rwrun j l).most ∧ (rwrun j l).most ≤ l.length ∧ 0 ≤ (rwrun j l).now ∧ (rwrun j l).now ≤ l.length := by
  have key : ∀ (l : List Int) (s : RW) (n : Nat), (0 ≤ s.most ∧ s.most ≤ n ∧ 0 ≤ s.now ∧ s.now ≤ n) → (0 ≤ (l.foldl (rwstep j) s).most ∧ (l.foldl (rwstep j) s).most ≤ (n + l.length : Nat) ∧ 0 ≤ (l.foldl (rwstep j) s).now ∧ (l.foldl (rwstep j) s).now ≤ (n + l.length : Nat)) := by
    intro l
    induction l with
    | nil => intro s n h; exact h
    | cons a l ih =>
      intro s n h
      have := ih (rwstep j s a) (n + 1) (by unfold rwstep; split <;> simp only <;> split <;> omega)
      rw [List.foldl_cons, List.length_cons]
      have e : n + 1 + l.length = n + (l.length + 1) := by omega
      rwa [e] at this
  have := key l ⟨0, 0, false⟩ 0 (by simp)
  simpa [rwrun] using this
theorem picksOf_len (l : List (Int × Int)) : (picksOf l).length ≤ l.length := by unfold picksOf; rw [List.length_map]; exact List.length_filter_le ..
theorem rwOut_bd (p : List Int) : ∀ m, 0 ≤ rwOut p m ∧ rwOut p m ≤ p.length + 1
  | 0 => by simp [rwOut]; omega
  | m + 1 => by
    have := rwOut_bd p m
    have := rw_bd m p
    unfold rwOut; split <;> omega

theorem ref24_Window {B : Option Addr} {n c : Nat} {x : Int} {l : List (Int × Int)} (h : Hp R L M) (hB : Src R L B (recE.cells l)) (hn : n = l.length) (hs : l.length ≤ 1000000) (hx : x ≤ 1000000)
    (k : ∀ M', Hp R L M' → K (.int .i64 (rwres x.toNat (picksOf l))) M') : ACalls Try.prog 22 #[.slice B n c, .int .i64 x] M K Kp := by
  subst hn
  refine vc_shunterref24_Window ?_
  repeat (first | (refine s_nwc h ?_; clear h; intro kb M h) | (refine s_stc h ?_; clear h; intro M h) | refine t_exI h ?_ | refine t_exB h ?_ | refine t_exS h ?_ | refine t_exP h ?_ | refine t_exSl h ?_ | refine t_exV h ?_ | refine u_exI ?_ | refine u_exB ?_ | refine u_exS ?_ | refine u_exP ?_ | refine u_exSl ?_ | refine u_exV ?_ | refine u_nilc ?_ | (apply Exists.intro; (repeat apply Exists.intro); refine And.intro rfl ?_) | (refine And.intro ?_ ?_; first | exact trivial | exact rfl | exact t_ld h | (refine lds_s (t_ld h) ?_; (repeat (refine lds_s (t_ld h) ?_)); exact lds_nil) | omega) | refine u_bspT ?_ | refine u_bspF ?_)
  replace h := (h.pt kb).row_pt (E := u64E) (l := []) rfl
  refine ⟨fun d ws M => ∃ (i : Nat) (A : Option Addr) (c : Nat), ws = [.slice A (picksOf (l.take i)).length c, .int .i64 (i : Int)] ∧ d = l.length - i ∧ i ≤ l.length ∧
      Hp R (rowP u64E 28 A c (picksOf (l.take i)) :: L) M, ⟨_, 0, _, _, rfl, rfl, by omega, h⟩, ?_⟩
  clear h
  rintro d _ A n c ii M ⟨i, _, _, he, hd, hi, h⟩
  simp only [List.cons.injEq, Value.int.injEq, Value.slice.injEq, and_true, true_and] at he
  obtain ⟨⟨rfl, rfl, rfl⟩, rfl⟩ := he
  refine bsp_dec.2 ⟨fun hlt => ?_, fun hge => ?_⟩
  · obtain ⟨r, hr⟩ := idx_ex (l := l) (i := i) (by omega)
    have hstep : picksOf (l.take (i + 1)) = picksOf (l.take i) ++ (if r.1 = 1 then [r.2] else []) := by rw [take_snoc hr, picksOf_snoc]
    obtain ⟨rk, rn⟩ := r
    obtain ⟨b1, o1, rfl⟩ := hB.cons.someE h (by omega) (by decide)
    have hpl := picksOf_len (l.take i)
    have htl : (l.take i).length ≤ l.length := List.length_take_le' ..
    repeat (first | (refine s_nwc h ?_; clear h; intro kb M h) | (refine s_stc h ?_; clear h; intro M h) | refine t_exI h ?_ | refine t_exB h ?_ | refine t_exS h ?_ | refine t_exP h ?_ | refine t_exSl h ?_ | refine t_exV h ?_ | refine u_exI ?_ | refine u_exB ?_ | refine u_exS ?_ | refine u_exP ?_ | refine u_exSl ?_ | refine u_exV ?_ | refine u_nilc ?_ | (apply Exists.intro; (repeat apply Exists.intro); refine And.intro rfl ?_) | (refine And.intro ?_ ?_; first | exact trivial | exact rfl | exact t_ld h | (refine lds_s (t_ld h) ?_; (repeat (refine lds_s (t_ld h) ?_)); exact lds_nil) | omega) | refine u_bspT ?_ | refine u_bspF ?_)
    simp only [Int.toNat_natCast]
    refine v_exI (hB.cons.at h (i := i) (j := 0) hr rfl rfl) ?_
    refine v_exI (hB.cons.at h (i := i) (j := 1) hr rfl rfl) ?_
    repeat (first | (refine s_nwc h ?_; clear h; intro kb M h) | (refine s_stc h ?_; clear h; intro M h) | refine t_exI h ?_ | refine t_exB h ?_ | refine t_exS h ?_ | refine t_exP h ?_ | refine t_exSl h ?_ | refine t_exV h ?_ | refine u_exI ?_ | refine u_exB ?_ | refine u_exS ?_ | refine u_exP ?_ | refine u_exSl ?_ | refine u_exV ?_ | refine u_nilc ?_ | (apply Exists.intro; (repeat apply Exists.intro); refine And.intro rfl ?_) | (refine And.intro ?_ ?_; first | exact trivial | exact rfl | exact t_ld h | (refine lds_s (t_ld h) ?_; (repeat (refine lds_s (t_ld h) ?_)); exact lds_nil) | omega) | refine u_bspT ?_ | refine u_bspF ?_)
    rw [wrap_succ (by omega)]
    refine bsp_eq.2 ⟨fun e => ?_, fun e => ?_⟩
    · rw [if_pos e] at hstep
      repeat (first | (refine s_nwc h ?_; clear h; intro kb M h) | (refine s_stc h ?_; clear h; intro M h) | refine t_exI h ?_ | refine t_exB h ?_ | refine t_exS h ?_ | refine t_exP h ?_ | refine t_exSl h ?_ | refine t_exV h ?_ | refine u_exI ?_ | refine u_exB ?_ | refine u_exS ?_ | refine u_exP ?_ | refine u_exSl ?_ | refine u_exV ?_ | refine u_nilc ?_ | (apply Exists.intro; (repeat apply Exists.intro); refine And.intro rfl ?_) | (refine And.intro ?_ ?_; first | exact trivial | exact rfl | exact t_ld h | (refine lds_s (t_ld h) ?_; (repeat (refine lds_s (t_ld h) ?_)); exact lds_nil) | omega) | refine u_bspT ?_ | refine u_bspF ?_)
      refine h.rowAppend1 el_u64 [rn] rfl rfl (by simp; omega) ?_
      clear h
      intro A' c' M h
      repeat (first | (refine s_nwc h ?_; clear h; intro kb M h) | (refine s_stc h ?_; clear h; intro M h) | refine t_exI h ?_ | refine t_exB h ?_ | refine t_exS h ?_ | refine t_exP h ?_ | refine t_exSl h ?_ | refine t_exV h ?_ | refine u_exI ?_ | refine u_exB ?_ | refine u_exS ?_ | refine u_exP ?_ | refine u_exSl ?_ | refine u_exV ?_ | refine u_nilc ?_ | (apply Exists.intro; (repeat apply Exists.intro); refine And.intro rfl ?_) | (refine And.intro ?_ ?_; first | exact trivial | exact rfl | exact t_ld h | (refine lds_s (t_ld h) ?_; (repeat (refine lds_s (t_ld h) ?_)); exact lds_nil) | omega) | refine u_bspT ?_ | refine u_bspF ?_)
      rw [← hstep] at h ⊢
      exact ⟨l.length - (i + 1), by omega, i + 1, A', c', rfl, rfl, by omega, h.fin1⟩
    · rw [if_neg e, List.append_nil] at hstep
      rw [← hstep] at h ⊢
      exact ⟨l.length - (i + 1), by omega, i + 1, A, c, rfl, rfl, by omega, h.fin0⟩
  obtain rfl : i = l.length := by omega
  rw [List.take_length] at h ⊢
  have hpl := picksOf_len l
  have hres : rwres x.toNat (picksOf l) = if rwAll (picksOf l) x.toNat then rwOut (picksOf l) x.toNat else 0 := rfl
  generalize picksOf l = p at *
  generalize hxm : x.toNat = m at *
  refine ⟨fun d ws M => ∃ (i : Nat), ws = [.int .i64 (rwOut p i), .int .i64 (i : Int)] ∧ d = m - i ∧ i ≤ m ∧ rwAll p i = true ∧ Hp R (rowP u64E 28 A c p :: L) M, ⟨_, 0, rfl, rfl, by omega, rfl, h⟩, ?_⟩
  clear h
  rintro d _ w1 ii M ⟨i, he, hd, hi, hall, h⟩
  simp only [List.cons.injEq, Value.int.injEq, and_true, true_and] at he
  obtain ⟨rfl, rfl⟩ := he
  refine bsp_dec.2 ⟨fun hlt => ?_, fun hge => ?_⟩
  · refine ⟨fun d ws M => ∃ (j : Nat), ws = [.int .i64 (rwrun i (p.take j)).most, .int .i64 (rwrun i (p.take j)).now, .bool (rwrun i (p.take j)).there, .int .i64 (j : Int)] ∧ d = p.length - j ∧ j ≤ p.length ∧
        Hp R (rowP u64E 28 A c p :: L) M, ⟨_, 0, rfl, rfl, by omega, h⟩, ?_⟩
    clear h
    rintro d2 _ y1 y2 y3 jj M ⟨j, he, hd2, hj, h⟩
    simp only [List.cons.injEq, Value.int.injEq, Value.bool.injEq, and_true, true_and] at he
    obtain ⟨rfl, rfl, rfl, rfl⟩ := he
    have bd := rw_bd i (p.take j)
    have htl : (p.take j).length ≤ p.length := List.length_take_le' ..
    refine bsp_dec.2 ⟨fun hjl => ?_, fun hjg => ?_⟩
    · obtain ⟨v, hv⟩ := idx_ex (l := p) (i := j) (by omega)
      have hstep : rwrun i (p.take (j + 1)) = rwstep i (rwrun i (p.take j)) v := by rw [take_snoc hv, rwrun_snoc]
      have s1 := h.src (A := A)
      obtain ⟨b1, rfl⟩ := h.row_some (A := A) (by omega) (by decide)
      generalize hS : rwrun i (p.take j) = s at *
      repeat (first | (refine s_nwc h ?_; clear h; intro kb M h) | (refine s_stc h ?_; clear h; intro M h) | refine t_exI h ?_ | refine t_exB h ?_ | refine t_exS h ?_ | refine t_exP h ?_ | refine t_exSl h ?_ | refine t_exV h ?_ | refine u_exI ?_ | refine u_exB ?_ | refine u_exS ?_ | refine u_exP ?_ | refine u_exSl ?_ | refine u_exV ?_ | refine u_nilc ?_ | (apply Exists.intro; (repeat apply Exists.intro); refine And.intro rfl ?_) | (refine And.intro ?_ ?_; first | exact trivial | exact rfl | exact t_ld h | (refine lds_s (t_ld h) ?_; (repeat (refine lds_s (t_ld h) ?_)); exact lds_nil) | omega) | refine u_bspT ?_ | refine u_bspF ?_)
      simp only [Int.toNat_natCast]
      refine v_exI (s1.at h (i := j) (j := 0) hv rfl (by simp [u64E])) ?_
      have e_u : IntKind.wrap .u64 ((i : Nat) : Int) = (i : Int) := by rw [IntKind.wrap_u64]; omega
      rw [e_u, wrap_succ (by omega)]
      refine bsp_eq.2 ⟨fun e => ?_, fun e => ?_⟩
      · refine ⟨p.length - (j + 1), by omega, j + 1, ?_, rfl, by omega, h⟩
        rw [hstep]; unfold rwstep; rw [if_pos e]
      · refine ⟨p.length - (j + 1), by omega, j + 1, ?_, rfl, by omega, h⟩
        rw [hstep]; unfold rwstep; rw [if_neg e, wrap_in (n := s.now + 1) (by omega) (by omega)]
    · obtain rfl : j = p.length := by omega
      have bo := rwOut_bd p i
      rw [List.take_length] at bd ⊢
      cases ht : (rwrun i p).there with
      | false =>
        have : rwres m p = 0 := by
          rw [hres, if_neg]
          intro hall2
          have := rwAll_iff.1 hall2 i (by omega)
          rw [ht] at this; cases this
        rw [this] at k
        exact u_bspT (k _ h.fin0)
      | true =>
        refine u_bspF ?_
        refine ⟨m - (i + 1), by omega, i + 1, ?_, rfl, by omega, by simp [rwAll, hall, ht], h⟩
        rw [wrap_in (n := (rwrun i p).most + 1) (by omega) (by omega), wrap_succ (by omega)]
        rfl
  · obtain rfl : i = m := by omega
    rw [hres, if_pos hall] at k
    exact k _ h.fin0

theorem law24_awake (h : Hp R L M) (k : ∀ M', Hp R L M' → K (.bool true) M') : ACalls Try.prog 18 #[] M K Kp := by
  refine vc_shunterlaw24_awake ?_
  repeat (first | (refine s_nwc h ?_; clear h; intro kb M h) | (refine s_stc h ?_; clear h; intro M h) | refine t_exI h ?_ | refine t_exB h ?_ | refine t_exS h ?_ | refine t_exP h ?_ | refine t_exSl h ?_ | refine t_exV h ?_ | refine u_exI ?_ | refine u_exB ?_ | refine u_exS ?_ | refine u_exP ?_ | refine u_exSl ?_ | refine u_exV ?_ | refine u_nilc ?_ | (apply Exists.intro; (repeat apply Exists.intro); refine And.intro rfl ?_) | (refine And.intro ?_ ?_; first | exact trivial | exact rfl | exact t_ld h | (refine lds_s (t_ld h) ?_; (repeat (refine lds_s (t_ld h) ?_)); exact lds_nil) | omega) | refine u_bspT ?_ | refine u_bspF ?_)
  replace h := (h.pt kb).row_pt (E := recE) (l := [(1, 0), (1, 1), (1, 0)]) rfl
  refine fair_Window (x := 2) h (Src.row) rfl (by simp) (by omega) (by simp) ?_
  clear h
  intro M h
  have e : wres (2 : Int).toNat [(1, 0), (1, 1), (1, 0)] = 2 := by decide
  rw [e]
  repeat (first | (refine s_nwc h ?_; clear h; intro kb M h) | (refine s_stc h ?_; clear h; intro M h) | refine t_exI h ?_ | refine t_exB h ?_ | refine t_exS h ?_ | refine t_exP h ?_ | refine t_exSl h ?_ | refine t_exV h ?_ | refine u_exI ?_ | refine u_exB ?_ | refine u_exS ?_ | refine u_exP ?_ | refine u_exSl ?_ | refine u_exV ?_ | refine u_nilc ?_ | (apply Exists.intro; (repeat apply Exists.intro); refine And.intro rfl ?_) | (refine And.intro ?_ ?_; first | exact trivial | exact rfl | exact t_ld h | (refine lds_s (t_ld h) ?_; (repeat (refine lds_s (t_ld h) ?_)); exact lds_nil) | omega) | refine u_bspT ?_ | refine u_bspF ?_)
  refine fair_Bound (s := 1) (r := 2) (w := 1) (g := 1) h (by omega) (by omega) (by omega) (by omega) ?_
  clear h
  intro M h
  repeat (first | (refine s_nwc h ?_; clear h; intro kb M h) | (refine s_stc h ?_; clear h; intro M h) | refine t_exI h ?_ | refine t_exB h ?_ | refine t_exS h ?_ | refine t_exP h ?_ | refine t_exSl h ?_ | refine t_exV h ?_ | refine u_exI ?_ | refine u_exB ?_ | refine u_exS ?_ | refine u_exP ?_ | refine u_exSl ?_ | refine u_exV ?_ | refine u_nilc ?_ | (apply Exists.intro; (repeat apply Exists.intro); refine And.intro rfl ?_) | (refine And.intro ?_ ?_; first | exact trivial | exact rfl | exact t_ld h | (refine lds_s (t_ld h) ?_; (repeat (refine lds_s (t_ld h) ?_)); exact lds_nil) | omega) | refine u_bspT ?_ | refine u_bspF ?_)
  exact k _ h.fin0

theorem fairWindows {A : Option Addr} {n c : Nat} {x1 x20 x21 x22 x23 x3 x4 : Int} {M0 : Mem} (hs1 : ArgSl M0 A n c [.i64, .u64]) (k : ∀ M', Chg [] M0 M' → K (.bool true) M') :
    ACalls Try.prog 3 #[.slice A n c, .int .i64 x1, .agg #[.int .i64 x20, .int .i64 x21, .int .i64 x22, .int .i64 x23], .int .i64 x3, .int .i64 x4] M0 K Kp := by
  obtain ⟨raw, rfl, hrl, hB⟩ := argSl_row hs1
  refine vc_shunterlaw24_FairWindows ?_
  have h := Hp.start M0
  repeat (first | (refine s_stc h ?_; clear h; intro M h) | refine t_exI h ?_ | refine t_exB h ?_ | refine t_exS h ?_ | refine t_exP h ?_ | refine t_exSl h ?_ | refine t_exV h ?_ | refine u_exI ?_ | refine u_exB ?_ | refine u_exS ?_ | refine u_exP ?_ | refine u_exSl ?_ | refine u_exV ?_ | refine u_nilc ?_ | (apply Exists.intro; (repeat apply Exists.intro); refine And.intro rfl ?_) | (refine And.intro ?_ ?_; first | exact trivial | exact rfl | exact t_ld h | (refine lds_s (t_ld h) ?_; (repeat (refine lds_s (t_ld h) ?_)); exact lds_nil) | omega) | refine u_bspT ?_ | refine u_bspF ?_)
  refine s_nwc h ?_
  clear h
  intro kc M h
  refine law24_awake h ?_
  clear h
  intro M h
  repeat (first | (refine s_stc h ?_; clear h; intro M h) | refine t_exI h ?_ | refine t_exB h ?_ | refine t_exS h ?_ | refine t_exP h ?_ | refine t_exSl h ?_ | refine t_exV h ?_ | refine u_exI ?_ | refine u_exB ?_ | refine u_exS ?_ | refine u_exP ?_ | refine u_exSl ?_ | refine u_exV ?_ | refine u_nilc ?_ | (apply Exists.intro; (repeat apply Exists.intro); refine And.intro rfl ?_) | (refine And.intro ?_ ?_; first | exact trivial | exact rfl | exact t_ld h | (refine lds_s (t_ld h) ?_; (repeat (refine lds_s (t_ld h) ?_)); exact lds_nil) | omega) | refine u_bspT ?_ | refine u_bspF ?_)
  refine s_nwc h ?_
  clear h
  intro kl M h
  replace h := (h.pt kl).row_pt (E := recE) (l := []) rfl
  refine law02_Some h hB rfl hrl ?_
  clear h
  intro A1 c1 raw1 M hok hle h
  repeat (first | (refine s_nwc h ?_; clear h; intro kb M h) | (refine s_stc h ?_; clear h; intro M h) | refine t_exI h ?_ | refine t_exB h ?_ | refine t_exS h ?_ | refine t_exP h ?_ | refine t_exSl h ?_ | refine t_exV h ?_ | refine u_exI ?_ | refine u_exB ?_ | refine u_exS ?_ | refine u_exP ?_ | refine u_exSl ?_ | refine u_exV ?_ | refine u_nilc ?_ | (apply Exists.intro; (repeat apply Exists.intro); refine And.intro rfl ?_) | (refine And.intro ?_ ?_; first | exact trivial | exact rfl | exact t_ld h | (refine lds_s (t_ld h) ?_; (repeat (refine lds_s (t_ld h) ?_)); exact lds_nil) | omega) | refine u_bspT ?_ | refine u_bspF ?_)
  refine ⟨fun d ws M => ∃ (i : Nat) (A : Option Addr) (c : Nat) (l : List (Int × Int)), ws = [.slice A l.length c, .int .i64 (i : Int)] ∧ d = raw1.length - i ∧ i ≤ raw1.length ∧ l.length = i ∧ (∀ r ∈ l, 0 ≤ r.2) ∧
      Hp M0 (rowP recE 30 A c l :: rowP recE 30 A1 c1 raw1 :: pt kc [.int .i64 x20, .int .i64 x21, .int .i64 x22, .int .i64 x23] 24 :: []) M,
    ⟨_, 0, _, _, [], rfl, rfl, by omega, rfl, by simp, h.sub (by repeat (first | exact Sub.refl | refine Sub.cons (by first | exact Pick.here | exact (.there .here) | exact (.there (.there .here)) | exact (.there (.there (.there .here))) | exact (.there (.there (.there (.there .here)))) | exact (.there (.there (.there (.there (.there .here))))) | exact (.there (.there (.there (.there (.there (.there .here)))))) | exact (.there (.there (.there (.there (.there (.there (.there .here))))))) | exact (.there (.there (.there (.there (.there (.there (.there (.there .here)))))))) | exact (.there (.there (.there (.there (.there (.there (.there (.there (.there .here))))))))) | exact (.there (.there (.there (.there (.there (.there (.there (.there (.there (.there .here)))))))))) | exact (.there (.there (.there (.there (.there (.there (.there (.there (.there (.there (.there .here))))))))))) | exact (.there (.there (.there (.there (.there (.there (.there (.there (.there (.there (.there (.there .here)))))))))))) | exact (.there (.there (.there (.there (.there (.there (.there (.there (.there (.there (.there (.there (.there .here))))))))))))) | exact (.there (.there (.there (.there (.there (.there (.there (.there (.there (.there (.there (.there (.there (.there .here)))))))))))))) | exact (.there (.there (.there (.there (.there (.there (.there (.there (.there (.there (.there (.there (.there (.there (.there .here)))))))))))))))) ?_ | refine Sub.drop ?_))⟩, ?_⟩
  clear h
  rintro d _ A2 n c2 ii M ⟨i, _, _, l, he, hd, hi, hll, hpos, h⟩
  simp only [List.cons.injEq, Value.int.injEq, Value.slice.injEq, and_true, true_and] at he
  obtain ⟨⟨rfl, rfl, rfl⟩, rfl⟩ := he
  refine bsp_dec.2 ⟨fun hlt => ?_, fun hge => ?_⟩
  · obtain ⟨r, hr⟩ := idx_ex (l := raw1) (i := i) (by omega)
    have hr0 := hok r (List.mem_of_getElem? hr)
    obtain ⟨rk, rn⟩ := r
    dsimp only at hr0
    obtain ⟨q, rfl⟩ := Int.eq_ofNat_of_zero_le hr0.2.2
    have s1 := h.src (A := A1)
    obtain ⟨b1, rfl⟩ := h.row_some (A := A1) (by omega) (by decide)
    repeat (first | (refine s_nwc h ?_; clear h; intro kb M h) | (refine s_stc h ?_; clear h; intro M h) | refine t_exI h ?_ | refine t_exB h ?_ | refine t_exS h ?_ | refine t_exP h ?_ | refine t_exSl h ?_ | refine t_exV h ?_ | refine u_exI ?_ | refine u_exB ?_ | refine u_exS ?_ | refine u_exP ?_ | refine u_exSl ?_ | refine u_exV ?_ | refine u_nilc ?_ | (apply Exists.intro; (repeat apply Exists.intro); refine And.intro rfl ?_) | (refine And.intro ?_ ?_; first | exact trivial | exact rfl | exact t_ld h | (refine lds_s (t_ld h) ?_; (repeat (refine lds_s (t_ld h) ?_)); exact lds_nil) | omega) | refine u_bspT ?_ | refine u_bspF ?_)
    simp only [Int.toNat_natCast]
    refine v_exI (s1.at h (i := i) (j := 0) hr rfl (by simp [recE])) ?_
    refine v_exI (s1.at h (i := i) (j := 1) hr rfl (by simp [recE])) ?_
    repeat (first | (refine s_nwc h ?_; clear h; intro kb M h) | (refine s_stc h ?_; clear h; intro M h) | refine t_exI h ?_ | refine t_exB h ?_ | refine t_exS h ?_ | refine t_exP h ?_ | refine t_exSl h ?_ | refine t_exV h ?_ | refine u_exI ?_ | refine u_exB ?_ | refine u_exS ?_ | refine u_exP ?_ | refine u_exSl ?_ | refine u_exV ?_ | refine u_nilc ?_ | (apply Exists.intro; (repeat apply Exists.intro); refine And.intro rfl ?_) | (refine And.intro ?_ ?_; first | exact trivial | exact rfl | exact t_ld h | (refine lds_s (t_ld h) ?_; (repeat (refine lds_s (t_ld h) ?_)); exact lds_nil) | omega) | refine u_bspT ?_ | refine u_bspF ?_)
    have e0 : Int.tmod (q : Int) 7 = ((q % 7 : Nat) : Int) := rfl
    refine h.rowAppend1 el_rec [(rk, Int.tmod (q : Int) 7)] rfl rfl (by simp; omega) ?_
    clear h
    intro A' c' M h
    repeat (first | (refine s_nwc h ?_; clear h; intro kb M h) | (refine s_stc h ?_; clear h; intro M h) | refine t_exI h ?_ | refine t_exB h ?_ | refine t_exS h ?_ | refine t_exP h ?_ | refine t_exSl h ?_ | refine t_exV h ?_ | refine u_exI ?_ | refine u_exB ?_ | refine u_exS ?_ | refine u_exP ?_ | refine u_exSl ?_ | refine u_exV ?_ | refine u_nilc ?_ | (apply Exists.intro; (repeat apply Exists.intro); refine And.intro rfl ?_) | (refine And.intro ?_ ?_; first | exact trivial | exact rfl | exact t_ld h | (refine lds_s (t_ld h) ?_; (repeat (refine lds_s (t_ld h) ?_)); exact lds_nil) | omega) | refine u_bspT ?_ | refine u_bspF ?_)
    rw [wrap_succ (by omega)]
    refine ⟨raw1.length - (i + 1), by omega, i + 1, A', c', _, rfl, rfl, by omega, by simp; omega, ?_, h.sub (by repeat (first | exact Sub.refl | refine Sub.cons (by first | exact Pick.here | exact (.there .here) | exact (.there (.there .here)) | exact (.there (.there (.there .here))) | exact (.there (.there (.there (.there .here)))) | exact (.there (.there (.there (.there (.there .here))))) | exact (.there (.there (.there (.there (.there (.there .here)))))) | exact (.there (.there (.there (.there (.there (.there (.there .here))))))) | exact (.there (.there (.there (.there (.there (.there (.there (.there .here)))))))) | exact (.there (.there (.there (.there (.there (.there (.there (.there (.there .here))))))))) | exact (.there (.there (.there (.there (.there (.there (.there (.there (.there (.there .here)))))))))) | exact (.there (.there (.there (.there (.there (.there (.there (.there (.there (.there (.there .here))))))))))) | exact (.there (.there (.there (.there (.there (.there (.there (.there (.there (.there (.there (.there .here)))))))))))) | exact (.there (.there (.there (.there (.there (.there (.there (.there (.there (.there (.there (.there (.there .here))))))))))))) | exact (.there (.there (.there (.there (.there (.there (.there (.there (.there (.there (.there (.there (.there (.there .here)))))))))))))) | exact (.there (.there (.there (.there (.there (.there (.there (.there (.there (.there (.there (.there (.there (.there (.there .here)))))))))))))))) ?_ | refine Sub.drop ?_))⟩
    intro r hr
    rcases List.mem_append.1 hr with hr | hr
    · exact hpos r hr
    · simp only [List.mem_singleton] at hr; subst hr; simp only [e0]; omega
  · clear hd
    repeat (first | (refine s_nwc h ?_; clear h; intro kb M h) | (refine s_stc h ?_; clear h; intro M h) | refine t_exI h ?_ | refine t_exB h ?_ | refine t_exS h ?_ | refine t_exP h ?_ | refine t_exSl h ?_ | refine t_exV h ?_ | refine u_exI ?_ | refine u_exB ?_ | refine u_exS ?_ | refine u_exP ?_ | refine u_exSl ?_ | refine u_exV ?_ | refine u_nilc ?_ | (apply Exists.intro; (repeat apply Exists.intro); refine And.intro rfl ?_) | (refine And.intro ?_ ?_; first | exact trivial | exact rfl | exact t_ld h | (refine lds_s (t_ld h) ?_; (repeat (refine lds_s (t_ld h) ?_)); exact lds_nil) | omega) | refine u_bspT ?_ | refine u_bspF ?_)
    refine law18_Some h fun p m r s M' p1 p2 m1 m2 r1 r2 s1 s2 h' => ?_
    clear h
    have h := h'
    clear h'
    repeat (first | (refine s_nwc h ?_; clear h; intro kb M h) | (refine s_stc h ?_; clear h; intro M h) | refine t_exI h ?_ | refine t_exB h ?_ | refine t_exS h ?_ | refine t_exP h ?_ | refine t_exSl h ?_ | refine t_exV h ?_ | refine u_exI ?_ | refine u_exB ?_ | refine u_exS ?_ | refine u_exP ?_ | refine u_exSl ?_ | refine u_exV ?_ | refine u_nilc ?_ | (apply Exists.intro; (repeat apply Exists.intro); refine And.intro rfl ?_) | (refine And.intro ?_ ?_; first | exact trivial | exact rfl | exact t_ld h | (refine lds_s (t_ld h) ?_; (repeat (refine lds_s (t_ld h) ?_)); exact lds_nil) | omega) | refine u_bspT ?_ | refine u_bspF ?_)
    obtain ⟨q3, hq3, _⟩ := mask (x := x3) (y := 1048575) (m := 1048575) rfl (by omega)
    obtain ⟨q4, hq4, _⟩ := mask (x := x4) (y := 1048575) (m := 1048575) rfl (by omega)
    have e3 : Int.tmod (q3 : Int) 100000 = ((q3 % 100000 : Nat) : Int) := rfl
    have e4 : Int.tmod (q4 : Int) 100000 = ((q4 % 100000 : Nat) : Int) := rfl
    simp only [hq3, hq4, e3, e4]
    have hw := Nat.mod_lt q3 (show 100000 > 0 by omega)
    have hg := Nat.mod_lt q4 (show 100000 > 0 by omega)
    generalize q3 % 100000 = w at hw
    generalize q4 % 100000 = g at hg
    refine fair_Window h Src.row rfl (by omega) (by split <;> omega) hpos ?_
    clear h
    intro M h
    repeat (first | (refine s_nwc h ?_; clear h; intro kb M h) | (refine s_stc h ?_; clear h; intro M h) | refine t_exI h ?_ | refine t_exB h ?_ | refine t_exS h ?_ | refine t_exP h ?_ | refine t_exSl h ?_ | refine t_exV h ?_ | refine u_exI ?_ | refine u_exB ?_ | refine u_exS ?_ | refine u_exP ?_ | refine u_exSl ?_ | refine u_exV ?_ | refine u_nilc ?_ | (apply Exists.intro; (repeat apply Exists.intro); refine And.intro rfl ?_) | (refine And.intro ?_ ?_; first | exact trivial | exact rfl | exact t_ld h | (refine lds_s (t_ld h) ?_; (repeat (refine lds_s (t_ld h) ?_)); exact lds_nil) | omega) | refine u_bspT ?_ | refine u_bspF ?_)
    refine law02_Told h Src.row rfl (by omega) ?_
    clear h
    intro A4 c4 M h
    repeat (first | (refine s_nwc h ?_; clear h; intro kb M h) | (refine s_stc h ?_; clear h; intro M h) | refine t_exI h ?_ | refine t_exB h ?_ | refine t_exS h ?_ | refine t_exP h ?_ | refine t_exSl h ?_ | refine t_exV h ?_ | refine u_exI ?_ | refine u_exB ?_ | refine u_exS ?_ | refine u_exP ?_ | refine u_exSl ?_ | refine u_exV ?_ | refine u_nilc ?_ | (apply Exists.intro; (repeat apply Exists.intro); refine And.intro rfl ?_) | (refine And.intro ?_ ?_; first | exact trivial | exact rfl | exact t_ld h | (refine lds_s (t_ld h) ?_; (repeat (refine lds_s (t_ld h) ?_)); exact lds_nil) | omega) | refine u_bspT ?_ | refine u_bspF ?_)
    refine ref24_Window h Src.row rfl (by omega) (by split <;> omega) ?_
    clear h
    intro M h
    rw [wres_rwres _ _ hpos]
    repeat (first | (refine s_nwc h ?_; clear h; intro kb M h) | (refine s_stc h ?_; clear h; intro M h) | refine t_exI h ?_ | refine t_exB h ?_ | refine t_exS h ?_ | refine t_exP h ?_ | refine t_exSl h ?_ | refine t_exV h ?_ | refine u_exI ?_ | refine u_exB ?_ | refine u_exS ?_ | refine u_exP ?_ | refine u_exSl ?_ | refine u_exV ?_ | refine u_nilc ?_ | (apply Exists.intro; (repeat apply Exists.intro); refine And.intro rfl ?_) | (refine And.intro ?_ ?_; first | exact trivial | exact rfl | exact t_ld h | (refine lds_s (t_ld h) ?_; (repeat (refine lds_s (t_ld h) ?_)); exact lds_nil) | omega) | refine u_bspT ?_ | refine u_bspF ?_)
    refine bsp_eq.2 ⟨fun _ => ?_, fun hne => absurd rfl hne⟩
    repeat (first | (refine s_nwc h ?_; clear h; intro kb M h) | (refine s_stc h ?_; clear h; intro M h) | refine t_exI h ?_ | refine t_exB h ?_ | refine t_exS h ?_ | refine t_exP h ?_ | refine t_exSl h ?_ | refine t_exV h ?_ | refine u_exI ?_ | refine u_exB ?_ | refine u_exS ?_ | refine u_exP ?_ | refine u_exSl ?_ | refine u_exV ?_ | refine u_nilc ?_ | (apply Exists.intro; (repeat apply Exists.intro); refine And.intro rfl ?_) | (refine And.intro ?_ ?_; first | exact trivial | exact rfl | exact t_ld h | (refine lds_s (t_ld h) ?_; (repeat (refine lds_s (t_ld h) ?_)); exact lds_nil) | omega) | refine u_bspT ?_ | refine u_bspF ?_)
    refine fair_Bound h (by omega) (by omega) (by omega) (by omega) ?_
    clear h
    intro M h
    repeat (first | (refine s_nwc h ?_; clear h; intro kb M h) | (refine s_stc h ?_; clear h; intro M h) | refine t_exI h ?_ | refine t_exB h ?_ | refine t_exS h ?_ | refine t_exP h ?_ | refine t_exSl h ?_ | refine t_exV h ?_ | refine u_exI ?_ | refine u_exB ?_ | refine u_exS ?_ | refine u_exP ?_ | refine u_exSl ?_ | refine u_exV ?_ | refine u_nilc ?_ | (apply Exists.intro; (repeat apply Exists.intro); refine And.intro rfl ?_) | (refine And.intro ?_ ?_; first | exact trivial | exact rfl | exact t_ld h | (refine lds_s (t_ld h) ?_; (repeat (refine lds_s (t_ld h) ?_)); exact lds_nil) | omega) | refine u_bspT ?_ | refine u_bspF ?_)
    refine ref24_Bound h (by omega) (by omega) (by omega) (by omega) ?_
    clear h
    intro M h
    repeat (first | (refine s_nwc h ?_; clear h; intro kb M h) | (refine s_stc h ?_; clear h; intro M h) | refine t_exI h ?_ | refine t_exB h ?_ | refine t_exS h ?_ | refine t_exP h ?_ | refine t_exSl h ?_ | refine t_exV h ?_ | refine u_exI ?_ | refine u_exB ?_ | refine u_exS ?_ | refine u_exP ?_ | refine u_exSl ?_ | refine u_exV ?_ | refine u_nilc ?_ | (apply Exists.intro; (repeat apply Exists.intro); refine And.intro rfl ?_) | (refine And.intro ?_ ?_; first | exact trivial | exact rfl | exact t_ld h | (refine lds_s (t_ld h) ?_; (repeat (refine lds_s (t_ld h) ?_)); exact lds_nil) | omega) | refine u_bspT ?_ | refine u_bspF ?_)
    simp only [beq_self_eq_true]
    exact k _ h.chg
end
end Go.Proofs
