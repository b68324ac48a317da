/- A part of proofs about functions of one program: a condition over a partial memory that is enough for a call, and what calls answer by it. No condition of its own. -/
import Derived.Test.YtodeolmcinekoaaWin2
import Derived.Test.YtodeolmcinekoaaPicks
import Derived.Test.YtodeolmcinekoaaSame
import Derived.Test.YtodeolmcinekoaaVWin
/- The window of picks: the program's and the document's. -/
namespace Go.Proofs
open Go.AF
set_option linter.unusedVariables false
set_option maxRecDepth 100000
set_option maxHeartbeats 1000000
attribute [local irreducible] exI exB exS exP exSl exV nilc stc nwc semK semU bsp
def recE : Enc (Int × Int) := ⟨2, fun w => [.int .i64 w.1, .int .u64 w.2], fun _ => rfl, fun w v hv => by
  simp only [List.mem_cons, List.not_mem_nil, or_false] at hv; obtain rfl | rfl := hv <;> rfl⟩
theorem el_rec : ElemOk Try.prog 26 30 2 16 [.int .i64 0, .int .u64 0] := ElemOk.mk' (zv := .agg #[.int .i64 0, .int .u64 0]) (by kernel_rfl) (by kernel_rfl) rfl (by omega)
theorem el_rrec : ElemOk Try.prog 22 142 2 16 [.int .i64 0, .int .u64 0] := ElemOk.mk' (zv := .agg #[.int .i64 0, .int .u64 0]) (by kernel_rfl) (by kernel_rfl) rfl (by omega)
theorem el_u64 : ElemOk Try.prog 144 28 1 8 [.int .u64 0] := ElemOk.mk' (zv := .int .u64 0) (by kernel_rfl) (by kernel_rfl) rfl (by omega)
theorem el_bool : ElemOk Try.prog 76 4 1 1 [.bool false] := ElemOk.mk' (zv := .bool false) (by kernel_rfl) (by kernel_rfl) rfl (by omega)
theorem rm_set {α : Type} {f : Nat → α} {q m : Nat} {v : α} : ((List.range m).map f).set q v = (List.range m).map (fun j => if j = q then v else f j) := by
  apply List.ext_getElem
  · simp
  · intro j h1 h2
    simp only [List.getElem_set, List.getElem_map, List.getElem_range]
    by_cases hj : q = j
    · rw [if_pos hj, if_pos hj.symm]
    · rw [if_neg hj, if_neg (Ne.symm hj)]
theorem rm_at {α : Type} {f : Nat → α} {q m : Nat} (h : q < m) : ((List.range m).map f)[q]? = some (f q) := by simp [h]
theorem rm_rep {α : Type} {a : α} {m : Nat} : List.replicate m a = (List.range m).map (fun _ => a) := by
  induction m with
  | zero => rfl
  | succ m ih => rw [List.replicate_succ', ih, List.range_succ, List.map_append]; rfl
theorem rm_congr {α : Type} {f g : Nat → α} {m : Nat} (h : ∀ j, j < m → f j = g j) : (List.range m).map f = (List.range m).map g := List.map_congr_left fun j hj => h j (List.mem_range.1 hj)
section
variable {R : Mem} {L L' : List HP} {M : Mem} {K : Value → Mem → Prop} {Kp : List PanicEntry → Mem → Prop}

theorem fair_Window {B : Option Addr} {n c : Nat} {x : Int} {l : List (Int × Int)} (h : Hp R L M) (hB : Src R L B (recE.cells l)) (hn : n = l.length) (hs : l.length ≤ 1000000) (hx : x ≤ 1000000) (hp : ∀ r ∈ l, 0 ≤ r.2)
    (k : ∀ M', Hp R L M' → K (.int .i64 (wres x.toNat l)) M') : ACalls Try.prog 21 #[.slice B n c, .int .i64 x] M K Kp := by
  subst hn
  refine vc_fair_Window ?_
  have e0 : (if (0 : Int) > x then 0 else x) = ((x.toNat : Nat) : Int) := by split <;> omega
  rw [e0]
  have hm : x.toNat ≤ 1000000 := by omega
  generalize x.toNat = m at *
  refine h.rowMake (E := intE) (a := 0) el_int (by omega) ?_
  clear h
  intro kl M h
  repeat (first | (refine s_nwc h ?_; clear h; intro kb M h) | (refine s_stc h ?_; clear h; intro M h) | refine t_exI h ?_ | refine t_exB h ?_ | refine t_exS h ?_ | refine t_exP h ?_ | refine t_exSl h ?_ | refine t_exV h ?_ | refine u_exI ?_ | refine u_exB ?_ | refine u_exS ?_ | refine u_exP ?_ | refine u_exSl ?_ | refine u_exV ?_ | refine u_nilc ?_ | (apply Exists.intro; (repeat apply Exists.intro); refine And.intro rfl ?_) | (refine And.intro ?_ ?_; first | exact trivial | exact rfl | exact t_ld h | (refine lds_s (t_ld h) ?_; (repeat (refine lds_s (t_ld h) ?_)); exact lds_nil) | omega) | refine u_bspT ?_ | refine u_bspF ?_)
  rw [rm_rep] at h
  refine ⟨fun d vs M => ∃ i : Nat, vs = [.int .i64 (i : Int)] ∧ d = m - i ∧ i ≤ m ∧ Hp R (rowP intE 3 (some ⟨kl, 0, none⟩) m ((List.range m).map fun j => if j < i then -1 else 0) :: L) M,
    ⟨_, 0, rfl, rfl, by omega, by simpa using h⟩, ?_⟩
  clear h
  rintro d _ ii M ⟨i, he, hd, hi, h⟩
  simp only [List.cons.injEq, Value.int.injEq, and_true, true_and] at he
  subst he
  refine bsp_dec.2 ⟨fun hlt => ?_, fun hge => ?_⟩
  · repeat (first | (refine s_nwc h ?_; clear h; intro kb M h) | (refine s_stc h ?_; clear h; intro M h) | refine t_exI h ?_ | refine t_exB h ?_ | refine t_exS h ?_ | refine t_exP h ?_ | refine t_exSl h ?_ | refine t_exV h ?_ | refine u_exI ?_ | refine u_exB ?_ | refine u_exS ?_ | refine u_exP ?_ | refine u_exSl ?_ | refine u_exV ?_ | refine u_nilc ?_ | (apply Exists.intro; (repeat apply Exists.intro); refine And.intro rfl ?_) | (refine And.intro ?_ ?_; first | exact trivial | exact rfl | exact t_ld h | (refine lds_s (t_ld h) ?_; (repeat (refine lds_s (t_ld h) ?_)); exact lds_nil) | omega) | refine u_bspT ?_ | refine u_bspF ?_)
    refine s_row (a' := -1) i 0 h (rm_at (by omega)) (by decide) rfl (by simp [intE]) ?_
    clear h; intro M h
    rw [wrap_succ (by omega)]
    refine ⟨m - (i + 1), by omega, i + 1, rfl, rfl, by omega, ?_⟩
    rw [rm_set, rm_congr (g := fun j => if j < i + 1 then -1 else 0)] at h
    · exact h
    · intro j _
      by_cases h1 : j = i
      · subst h1; simp
      · simp only [h1, if_false]
        by_cases h2 : j < i
        · rw [if_pos h2, if_pos (by omega)]
        · rw [if_neg h2, if_neg (by omega)]
  obtain rfl : i = m := by omega
  rw [rm_congr (g := fun _ => -1) (fun j hj => by simp [hj])] at h
  refine h.rowMake (E := boolE) (a := false) el_bool (by omega) ?_
  clear h
  intro ks M h
  repeat (first | (refine s_nwc h ?_; clear h; intro kb M h) | (refine s_stc h ?_; clear h; intro M h) | refine t_exI h ?_ | refine t_exB h ?_ | refine t_exS h ?_ | refine t_exP h ?_ | refine t_exSl h ?_ | refine t_exV h ?_ | refine u_exI ?_ | refine u_exB ?_ | refine u_exS ?_ | refine u_exP ?_ | refine u_exSl ?_ | refine u_exV ?_ | refine u_nilc ?_ | (apply Exists.intro; (repeat apply Exists.intro); refine And.intro rfl ?_) | (refine And.intro ?_ ?_; first | exact trivial | exact rfl | exact t_ld h | (refine lds_s (t_ld h) ?_; (repeat (refine lds_s (t_ld h) ?_)); exact lds_nil) | omega) | refine u_bspT ?_ | refine u_bspF ?_)
  rw [rm_rep] at h
  refine ⟨fun d vs M => ∃ j : Nat, vs = [.int .i64 (wrun i (l.take j)).at_, .int .i64 (wrun i (l.take j)).out, .int .i64 (j : Int)] ∧ d = l.length - j ∧ j ≤ l.length ∧
      Hp R (rowP boolE 4 (some ⟨ks, 0, none⟩) i ((List.range i).map (wrun i (l.take j)).seen) :: rowP intE 3 (some ⟨kl, 0, none⟩) i ((List.range i).map (wrun i (l.take j)).last) :: L) M,
    ⟨_, 0, rfl, rfl, by omega, h⟩, ?_⟩
  clear h
  rintro d _ w1 w2 jj M ⟨j, he, hd, hj, h⟩
  simp only [List.cons.injEq, Value.int.injEq, and_true, true_and] at he
  obtain ⟨rfl, rfl, rfl⟩ := he
  have ok := wok_run i (l.take j)
  have oklen : (l.take j).length ≤ l.length := by rw [List.length_take]; omega
  refine bsp_dec.2 ⟨fun hlt => ?_, fun hge => ?_⟩
  · obtain ⟨r, hr⟩ := idx_ex (l := l) (i := j) (by omega)
    have hr0 := hp r (List.mem_of_getElem? hr)
    have hstep : wrun i (l.take (j + 1)) = wstep i (wrun i (l.take j)) r := by rw [take_snoc hr, wrun_snoc]
    obtain ⟨rk, rn⟩ := r
    dsimp only at hr0
    obtain ⟨q, rfl⟩ := Int.eq_ofNat_of_zero_le hr0
    obtain ⟨b, o, rfl⟩ := hB.cons.cons.someE h (by omega) (by decide)
    generalize hS : wrun i (l.take j) = s at *
    obtain ⟨b1, b2, b3, b4, b5⟩ := ok
    repeat (first | (refine s_nwc h ?_; clear h; intro kb M h) | (refine s_stc h ?_; clear h; intro M h) | refine t_exI h ?_ | refine t_exB h ?_ | refine t_exS h ?_ | refine t_exP h ?_ | refine t_exSl h ?_ | refine t_exV h ?_ | refine u_exI ?_ | refine u_exB ?_ | refine u_exS ?_ | refine u_exP ?_ | refine u_exSl ?_ | refine u_exV ?_ | refine u_nilc ?_ | (apply Exists.intro; (repeat apply Exists.intro); refine And.intro rfl ?_) | (refine And.intro ?_ ?_; first | exact trivial | exact rfl | exact t_ld h | (refine lds_s (t_ld h) ?_; (repeat (refine lds_s (t_ld h) ?_)); exact lds_nil) | omega) | refine u_bspT ?_ | refine u_bspF ?_)
    simp only [Int.toNat_natCast]
    refine v_exI (hB.cons.cons.at h (j := 0) hr rfl (by simp [recE])) ?_
    refine v_exI (hB.cons.cons.at h (j := 1) hr rfl (by simp [recE]; omega)) ?_
    repeat (first | (refine s_nwc h ?_; clear h; intro kb M h) | (refine s_stc h ?_; clear h; intro M h) | refine t_exI h ?_ | refine t_exB h ?_ | refine t_exS h ?_ | refine t_exP h ?_ | refine t_exSl h ?_ | refine t_exV h ?_ | refine u_exI ?_ | refine u_exB ?_ | refine u_exS ?_ | refine u_exP ?_ | refine u_exSl ?_ | refine u_exV ?_ | refine u_nilc ?_ | (apply Exists.intro; (repeat apply Exists.intro); refine And.intro rfl ?_) | (refine And.intro ?_ ?_; first | exact trivial | exact rfl | exact t_ld h | (refine lds_s (t_ld h) ?_; (repeat (refine lds_s (t_ld h) ?_)); exact lds_nil) | omega) | refine u_bspT ?_ | refine u_bspF ?_)
    rw [wrap_succ (by omega), wrap_in (n := s.at_ + 1) (by omega) (by omega)]
    refine bsp_ne.2 ⟨fun hne => ?_, fun hk1 => ?_⟩
    · have es : wstep i s (rk, (q : Int)) = s := by unfold wstep; rw [if_neg hne]
      refine ⟨l.length - (j + 1), by omega, j + 1, by rw [hstep, es], rfl, by omega, ?_⟩
      rw [hstep, es]; exact h.fin0
    · repeat (first | (refine s_nwc h ?_; clear h; intro kb M h) | (refine s_stc h ?_; clear h; intro M h) | refine t_exI h ?_ | refine t_exB h ?_ | refine t_exS h ?_ | refine t_exP h ?_ | refine t_exSl h ?_ | refine t_exV h ?_ | refine u_exI ?_ | refine u_exB ?_ | refine u_exS ?_ | refine u_exP ?_ | refine u_exSl ?_ | refine u_exV ?_ | refine u_nilc ?_ | (apply Exists.intro; (repeat apply Exists.intro); refine And.intro rfl ?_) | (refine And.intro ?_ ?_; first | exact trivial | exact rfl | exact t_ld h | (refine lds_s (t_ld h) ?_; (repeat (refine lds_s (t_ld h) ?_)); exact lds_nil) | omega) | refine u_bspT ?_ | refine u_bspF ?_)
      have e_u : IntKind.wrap .u64 ((i : Nat) : Int) = (i : Int) := by rw [IntKind.wrap_u64]; omega
      rw [e_u]
      refine bsp_dec.2 ⟨fun hri => ?_, fun hri => ?_⟩
      · have hqi : q < i := by omega
        have hlast := b3 q
        have s1 := h.src (A := some ⟨kl, 0, none⟩)
        repeat (first | (refine s_nwc h ?_; clear h; intro kb M h) | (refine s_stc h ?_; clear h; intro M h) | refine t_exI h ?_ | refine t_exB h ?_ | refine t_exS h ?_ | refine t_exP h ?_ | refine t_exSl h ?_ | refine t_exV h ?_ | refine u_exI ?_ | refine u_exB ?_ | refine u_exS ?_ | refine u_exP ?_ | refine u_exSl ?_ | refine u_exV ?_ | refine u_nilc ?_ | (apply Exists.intro; (repeat apply Exists.intro); refine And.intro rfl ?_) | (refine And.intro ?_ ?_; first | exact trivial | exact rfl | exact t_ld h | (refine lds_s (t_ld h) ?_; (repeat (refine lds_s (t_ld h) ?_)); exact lds_nil) | omega) | refine u_bspT ?_ | refine u_bspF ?_)
        simp only [Int.toNat_natCast]
        refine v_exI (s1.at h (j := 0) (rm_at hqi) rfl (by simp [intE])) ?_
        repeat (first | (refine s_nwc h ?_; clear h; intro kb M h) | (refine s_stc h ?_; clear h; intro M h) | refine t_exI h ?_ | refine t_exB h ?_ | refine t_exS h ?_ | refine t_exP h ?_ | refine t_exSl h ?_ | refine t_exV h ?_ | refine u_exI ?_ | refine u_exB ?_ | refine u_exS ?_ | refine u_exP ?_ | refine u_exSl ?_ | refine u_exV ?_ | refine u_nilc ?_ | (apply Exists.intro; (repeat apply Exists.intro); refine And.intro rfl ?_) | (refine And.intro ?_ ?_; first | exact trivial | exact rfl | exact t_ld h | (refine lds_s (t_ld h) ?_; (repeat (refine lds_s (t_ld h) ?_)); exact lds_nil) | omega) | refine u_bspT ?_ | refine u_bspF ?_)
        refine s_row (a' := s.at_) q 0 h (rm_at hqi) (by decide) rfl (by simp [intE]) ?_
        clear h; intro M h
        repeat (first | (refine s_nwc h ?_; clear h; intro kb M h) | (refine s_stc h ?_; clear h; intro M h) | refine t_exI h ?_ | refine t_exB h ?_ | refine t_exS h ?_ | refine t_exP h ?_ | refine t_exSl h ?_ | refine t_exV h ?_ | refine u_exI ?_ | refine u_exB ?_ | refine u_exS ?_ | refine u_exP ?_ | refine u_exSl ?_ | refine u_exV ?_ | refine u_nilc ?_ | (apply Exists.intro; (repeat apply Exists.intro); refine And.intro rfl ?_) | (refine And.intro ?_ ?_; first | exact trivial | exact rfl | exact t_ld h | (refine lds_s (t_ld h) ?_; (repeat (refine lds_s (t_ld h) ?_)); exact lds_nil) | omega) | refine u_bspT ?_ | refine u_bspF ?_)
        refine s_row (a' := true) q 0 h (rm_at hqi) (by decide) rfl (by simp [boolE]) ?_
        clear h; intro M h
        repeat (first | (refine s_nwc h ?_; clear h; intro kb M h) | (refine s_stc h ?_; clear h; intro M h) | refine t_exI h ?_ | refine t_exB h ?_ | refine t_exS h ?_ | refine t_exP h ?_ | refine t_exSl h ?_ | refine t_exV h ?_ | refine u_exI ?_ | refine u_exB ?_ | refine u_exS ?_ | refine u_exP ?_ | refine u_exSl ?_ | refine u_exV ?_ | refine u_nilc ?_ | (apply Exists.intro; (repeat apply Exists.intro); refine And.intro rfl ?_) | (refine And.intro ?_ ?_; first | exact trivial | exact rfl | exact t_ld h | (refine lds_s (t_ld h) ?_; (repeat (refine lds_s (t_ld h) ?_)); exact lds_nil) | omega) | refine u_bspT ?_ | refine u_bspF ?_)
        rw [wrap_in (n := s.at_ - s.last q) (by omega) (by omega)]
        have es : wstep i s (rk, (q : Int)) = ⟨fun j => if j = q then s.at_ else s.last j, fun j => if j = q then true else s.seen j, s.at_ + 1, if s.at_ - s.last q > s.out then s.at_ - s.last q else s.out⟩ := by
          unfold wstep; rw [if_pos hk1, if_pos hri]; simp
        rw [rm_set, rm_set] at h
        refine ⟨l.length - (j + 1), by omega, j + 1, by rw [hstep, es], rfl, by omega, ?_⟩
        rw [hstep, es]; exact h.sub (by repeat (first | exact Sub.refl | refine Sub.cons (by first | exact Pick.here | exact (.there .here) | exact (.there (.there .here)) | exact (.there (.there (.there .here))) | exact (.there (.there (.there (.there .here)))) | exact (.there (.there (.there (.there (.there .here))))) | exact (.there (.there (.there (.there (.there (.there .here)))))) | exact (.there (.there (.there (.there (.there (.there (.there .here))))))) | exact (.there (.there (.there (.there (.there (.there (.there (.there .here)))))))) | exact (.there (.there (.there (.there (.there (.there (.there (.there (.there .here))))))))) | exact (.there (.there (.there (.there (.there (.there (.there (.there (.there (.there .here)))))))))) | exact (.there (.there (.there (.there (.there (.there (.there (.there (.there (.there (.there .here))))))))))) | exact (.there (.there (.there (.there (.there (.there (.there (.there (.there (.there (.there (.there .here)))))))))))) | exact (.there (.there (.there (.there (.there (.there (.there (.there (.there (.there (.there (.there (.there .here))))))))))))) | exact (.there (.there (.there (.there (.there (.there (.there (.there (.there (.there (.there (.there (.there (.there .here)))))))))))))) | exact (.there (.there (.there (.there (.there (.there (.there (.there (.there (.there (.there (.there (.there (.there (.there .here)))))))))))))))) ?_ | refine Sub.drop ?_))
      · have es : wstep i s (rk, (q : Int)) = ⟨s.last, s.seen, s.at_ + 1, s.out⟩ := by unfold wstep; rw [if_pos hk1, if_neg hri]
        refine ⟨l.length - (j + 1), by omega, j + 1, by rw [hstep, es], rfl, by omega, ?_⟩
        rw [hstep, es]; exact h.fin0
  · have hjn : l.take j = l := List.take_of_length_le (by omega)
    have hres : wres i l = if wall (wrun i l) i then wmax (wrun i l) i else 0 := rfl
    rw [hjn] at ok h oklen ⊢
    generalize wrun i l = s at *
    obtain ⟨b1, b2, b3, b4, b5⟩ := ok
    have bw : ∀ t, wmax s t ≤ l.length + 1 := fun t => wmax_le.2 ⟨by omega, fun j _ => by have := b3 j; omega⟩
    refine ⟨fun d vs M => ∃ t : Nat, vs = [.int .i64 (wmax s t), .int .i64 (t : Int)] ∧ d = i - t ∧ t ≤ i ∧ wall s t = true ∧
        Hp R (rowP boolE 4 (some ⟨ks, 0, none⟩) i ((List.range i).map s.seen) :: rowP intE 3 (some ⟨kl, 0, none⟩) i ((List.range i).map s.last) :: L) M, ⟨_, 0, rfl, rfl, by omega, rfl, h⟩, ?_⟩
    clear h
    rintro d _ w3 tt M ⟨t, he, hd, ht, hw, h⟩
    simp only [List.cons.injEq, Value.int.injEq, and_true, true_and] at he
    obtain ⟨rfl, rfl⟩ := he
    refine bsp_dec.2 ⟨fun hlt => ?_, fun hge => ?_⟩
    · have hti : t < i := by omega
      have s1 := h.src (A := some ⟨kl, 0, none⟩)
      have s2 := h.src (A := some ⟨ks, 0, none⟩)
      repeat (first | (refine s_nwc h ?_; clear h; intro kb M h) | (refine s_stc h ?_; clear h; intro M h) | refine t_exI h ?_ | refine t_exB h ?_ | refine t_exS h ?_ | refine t_exP h ?_ | refine t_exSl h ?_ | refine t_exV h ?_ | refine u_exI ?_ | refine u_exB ?_ | refine u_exS ?_ | refine u_exP ?_ | refine u_exSl ?_ | refine u_exV ?_ | refine u_nilc ?_ | (apply Exists.intro; (repeat apply Exists.intro); refine And.intro rfl ?_) | (refine And.intro ?_ ?_; first | exact trivial | exact rfl | exact t_ld h | (refine lds_s (t_ld h) ?_; (repeat (refine lds_s (t_ld h) ?_)); exact lds_nil) | omega) | refine u_bspT ?_ | refine u_bspF ?_)
      simp only [Int.toNat_natCast]
      refine v_exI (s1.at h (j := 0) (rm_at hti) rfl (by simp [intE])) ?_
      repeat (first | (refine s_nwc h ?_; clear h; intro kb M h) | (refine s_stc h ?_; clear h; intro M h) | refine t_exI h ?_ | refine t_exB h ?_ | refine t_exS h ?_ | refine t_exP h ?_ | refine t_exSl h ?_ | refine t_exV h ?_ | refine u_exI ?_ | refine u_exB ?_ | refine u_exS ?_ | refine u_exP ?_ | refine u_exSl ?_ | refine u_exV ?_ | refine u_nilc ?_ | (apply Exists.intro; (repeat apply Exists.intro); refine And.intro rfl ?_) | (refine And.intro ?_ ?_; first | exact trivial | exact rfl | exact t_ld h | (refine lds_s (t_ld h) ?_; (repeat (refine lds_s (t_ld h) ?_)); exact lds_nil) | omega) | refine u_bspT ?_ | refine u_bspF ?_)
      refine v_exB (s2.at h (j := 0) (rm_at hti) rfl (by simp [boolE])) ?_
      cases hss : s.seen t with
      | false =>
        have : wres i l = 0 := by
          rw [hres, if_neg]
          intro hall
          have := wall_iff.1 hall t hti
          rw [hss] at this; cases this
        rw [this] at k
        exact u_bspT (k _ h.fin0)
      | true =>
        refine u_bspF ?_
        have hl3 := b3 t
        refine ⟨i - (t + 1), by omega, t + 1, ?_, rfl, by omega, by simp [wall, hw, hss], h⟩
        rw [wrap_in (n := s.at_ - s.last t) (by omega) (by omega), wrap_succ (by omega)]
        rfl
    · obtain rfl : t = i := by omega
      rw [hres, if_pos hw] at k
      exact k _ h.fin0
end
end Go.Proofs
