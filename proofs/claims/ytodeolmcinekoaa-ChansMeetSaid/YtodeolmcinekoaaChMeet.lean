/- A part of proofs about functions of one program: a condition over a partial memory that is enough for a call, and what calls answer by it. No condition of its own. -/
import Derived.Test.YtodeolmcinekoaaChan2
import Derived.Test.YtodeolmcinekoaaArgs
import Derived.Test.YtodeolmcinekoaaVLCh
namespace Go.Proofs
open Go.AF
set_option linter.unusedVariables false
set_option maxRecDepth 100000
set_option maxHeartbeats 1000000
attribute [local irreducible] exI exB exS exP exSl exV nilc stc nwc semK semU bsp
/-- The `i`-th who waits. -/
def meetW (s : Bool) (l : List (Nat → Int)) (i : Nat) : Wt := ⟨100 + i, if s then 0 else (i : Int), if s then (l.getD i (fun _ => 0)) 0 else 0⟩
def meetC (s : Bool) (l : List Wt) : Chan := ⟨0, [], if s then l else [], if s then [] else l, false⟩
theorem meet_len {s : Bool} {l : List Wt} (h : l.length ≤ 1000000000) : (meetC s l).Small 1000000000 := by unfold meetC; cases s <;> simp [Chan.Small] <;> exact h
theorem wr100 {i : Nat} (h : i < 1000) : IntKind.wrap .i64 (100 + (i : Int)) = 100 + (i : Int) := wrap_in (by omega) (by omega)
theorem chansMeet {n : Int} {s : Bool} {A1 : Option Addr} {n1 c1 : Nat} {M0 : Mem} {K : Value → Mem → Prop} {Kp : List PanicEntry → Mem → Prop} (hs : ArgSl M0 A1 n1 c1 [.i64]) (k : ∀ M', Chg [] M0 M' → K (.bool true) M') :
    ACalls Try.prog 6 #[.int .i64 n, .bool s, .slice A1 n1 c1] M0 K Kp := by
  obtain ⟨acts, rfl, hcap, hlen, hsl, _⟩ := hs
  refine vc_shunterlaw13_ChansMeet ?_
  have h := Hp.start M0
  refine chans_awake h ?_
  clear h
  intro M1 h
  repeat (first | (refine s_nwc h ?_; clear h; intro kb M h) | (refine s_stc h ?_; clear h; intro M h) | refine t_exI h ?_ | refine t_exB h ?_ | refine t_exS h ?_ | refine t_exP h ?_ | refine t_exSl h ?_ | refine t_exV h ?_ | refine u_exI ?_ | refine u_exB ?_ | refine u_exS ?_ | refine u_exP ?_ | refine u_exSl ?_ | refine u_exV ?_ | refine u_nilc ?_ | (apply Exists.intro; (repeat apply Exists.intro); refine And.intro rfl ?_) | (refine And.intro ?_ ?_; first | exact trivial | exact rfl | exact t_ld h | (refine lds_s (t_ld h) ?_; (repeat (refine lds_s (t_ld h) ?_)); exact lds_nil) | omega) | refine u_bspT ?_ | refine u_bspF ?_)
  refine chans_New h ?_
  clear h
  intro b M1 h
  repeat (first | (refine s_nwc h ?_; clear h; intro kb M h) | (refine s_stc h ?_; clear h; intro M h) | refine t_exI h ?_ | refine t_exB h ?_ | refine t_exS h ?_ | refine t_exP h ?_ | refine t_exSl h ?_ | refine t_exV h ?_ | refine u_exI ?_ | refine u_exB ?_ | refine u_exS ?_ | refine u_exP ?_ | refine u_exSl ?_ | refine u_exV ?_ | refine u_nilc ?_ | (apply Exists.intro; (repeat apply Exists.intro); refine And.intro rfl ?_) | (refine And.intro ?_ ?_; first | exact trivial | exact rfl | exact t_ld h | (refine lds_s (t_ld h) ?_; (repeat (refine lds_s (t_ld h) ?_)); exact lds_nil) | omega) | refine u_bspT ?_ | refine u_bspF ?_)
  obtain ⟨q0, hq0, hq255⟩ := mask (x := n) (y := 255) (m := 255) rfl (by omega)
  simp only [hq0]
  obtain ⟨q, hq⟩ : ∃ q : Nat, (if ((acts.length : Nat) : Int) < Int.tmod (q0 : Int) 20 then ((acts.length : Nat) : Int) else Int.tmod (q0 : Int) 20) = (q : Int) ∧ q ≤ acts.length ∧ q < 20 := by
    have : Int.tmod (q0 : Int) 20 = ((q0 % 20 : Nat) : Int) := rfl
    rw [this]
    have := Nat.mod_lt q0 (show 20 > 0 by omega)
    by_cases hh : acts.length < q0 % 20
    · exact ⟨acts.length, by rw [if_pos (by omega)], by omega, by omega⟩
    · exact ⟨q0 % 20, by rw [if_neg (by omega)], by omega, by omega⟩
  obtain ⟨hq, hqa, hq20⟩ := hq
  simp only [hq]
  have e0 : objP chanR b (Chan.new 0) = objP chanR b (meetC s ((List.range 0).map (meetW s acts))) := by cases s <;> rfl
  rw [e0] at h
  refine ⟨fun d ws M' => ∃ (i : Nat), ws = [.int .i64 (i : Int)] ∧ d = q - i ∧ i ≤ q ∧ Hp M0 (objP chanR b (meetC s ((List.range i).map (meetW s acts))) :: []) M',
    ⟨_, 0, rfl, rfl, by omega, h⟩, ?_⟩
  clear h
  rintro d _ ii M2 ⟨i, he, hd, hi, h⟩
  simp only [List.cons.injEq, Value.int.injEq, and_true, true_and] at he
  subst he
  have hsm : (meetC s ((List.range i).map (meetW s acts))).Small 1000000000 := meet_len (by simp; omega)
  have nxt : ∀ w, w = meetW s acts i → meetC s ((List.range i).map (meetW s acts) ++ [w]) = meetC s ((List.range (i + 1)).map (meetW s acts)) := by
    rintro w rfl; rw [List.range_succ, List.map_append]; rfl
  refine bsp_dec.2 ⟨fun hlt => ?_, fun hge => ?_⟩
  · obtain ⟨a, ha⟩ := idx_ex (l := acts) (i := i) (by omega)
    have hg : acts.getD i (fun _ => 0) = a := by rw [List.getD_eq_getElem?_getD, ha]; rfl
    have hs1 := hsl (by omega)
    obtain ⟨b1, o1, rfl⟩ := hs1.some' (by rw [Enc.cells_len]; exact Nat.mul_pos (by omega) (by decide))
    have e5 : (o1 + (i : Int).toNat) = o1 + (i * (kE [.i64]).z + 0) := by simp [kE]
    have sr : ∀ L, Src M0 L (some ⟨b1, o1, none⟩) ((kE [.i64]).cells acts) := fun L => Src.ro hs1
    cases s with
    | true =>
      repeat (first | (refine s_nwc h ?_; clear h; intro kb M h) | (refine s_stc h ?_; clear h; intro M h) | refine t_exI h ?_ | refine t_exB h ?_ | refine t_exS h ?_ | refine t_exP h ?_ | refine t_exSl h ?_ | refine t_exV h ?_ | refine u_exI ?_ | refine u_exB ?_ | refine u_exS ?_ | refine u_exP ?_ | refine u_exSl ?_ | refine u_exV ?_ | refine u_nilc ?_ | (apply Exists.intro; (repeat apply Exists.intro); refine And.intro rfl ?_) | (refine And.intro ?_ ?_; first | exact trivial | exact rfl | exact t_ld h | (refine lds_s (t_ld h) ?_; (repeat (refine lds_s (t_ld h) ?_)); exact lds_nil) | omega) | refine u_bspT ?_ | refine u_bspF ?_)
      refine v_exI ((sr _).at h (i := i) (j := 0) ha rfl e5) ?_
      rw [wr100 (by omega)]
      refine chans_WaitSend (w := ⟨100 + i, 0, a 0⟩) h hsm ?_
      clear h
      intro M h
      repeat (first | (refine s_nwc h ?_; clear h; intro kb M h) | (refine s_stc h ?_; clear h; intro M h) | refine t_exI h ?_ | refine t_exB h ?_ | refine t_exS h ?_ | refine t_exP h ?_ | refine t_exSl h ?_ | refine t_exV h ?_ | refine u_exI ?_ | refine u_exB ?_ | refine u_exS ?_ | refine u_exP ?_ | refine u_exSl ?_ | refine u_exV ?_ | refine u_nilc ?_ | (apply Exists.intro; (repeat apply Exists.intro); refine And.intro rfl ?_) | (refine And.intro ?_ ?_; first | exact trivial | exact rfl | exact t_ld h | (refine lds_s (t_ld h) ?_; (repeat (refine lds_s (t_ld h) ?_)); exact lds_nil) | omega) | refine u_bspT ?_ | refine u_bspF ?_)
      rw [wrap_succ (by omega)]
      refine ⟨q - (i + 1), by omega, i + 1, rfl, rfl, by omega, ?_⟩
      rw [← nxt ⟨100 + i, 0, a 0⟩ (by simp only [meetW, hg]; rfl)]
      exact h
    | false =>
      repeat (first | (refine s_nwc h ?_; clear h; intro kb M h) | (refine s_stc h ?_; clear h; intro M h) | refine t_exI h ?_ | refine t_exB h ?_ | refine t_exS h ?_ | refine t_exP h ?_ | refine t_exSl h ?_ | refine t_exV h ?_ | refine u_exI ?_ | refine u_exB ?_ | refine u_exS ?_ | refine u_exP ?_ | refine u_exSl ?_ | refine u_exV ?_ | refine u_nilc ?_ | (apply Exists.intro; (repeat apply Exists.intro); refine And.intro rfl ?_) | (refine And.intro ?_ ?_; first | exact trivial | exact rfl | exact t_ld h | (refine lds_s (t_ld h) ?_; (repeat (refine lds_s (t_ld h) ?_)); exact lds_nil) | omega) | refine u_bspT ?_ | refine u_bspF ?_)
      rw [wr100 (by omega)]
      refine chans_WaitRecv (w := ⟨100 + i, i, 0⟩) h hsm ?_
      clear h
      intro M h
      repeat (first | (refine s_nwc h ?_; clear h; intro kb M h) | (refine s_stc h ?_; clear h; intro M h) | refine t_exI h ?_ | refine t_exB h ?_ | refine t_exS h ?_ | refine t_exP h ?_ | refine t_exSl h ?_ | refine t_exV h ?_ | refine u_exI ?_ | refine u_exB ?_ | refine u_exS ?_ | refine u_exP ?_ | refine u_exSl ?_ | refine u_exV ?_ | refine u_nilc ?_ | (apply Exists.intro; (repeat apply Exists.intro); refine And.intro rfl ?_) | (refine And.intro ?_ ?_; first | exact trivial | exact rfl | exact t_ld h | (refine lds_s (t_ld h) ?_; (repeat (refine lds_s (t_ld h) ?_)); exact lds_nil) | omega) | refine u_bspT ?_ | refine u_bspF ?_)
      rw [wrap_succ (by omega)]
      refine ⟨q - (i + 1), by omega, i + 1, rfl, rfl, by omega, ?_⟩
      rw [← nxt ⟨100 + i, i, 0⟩ rfl]
      exact h
  have : i = q := by omega
  subst this
  clear nxt hsm
  generalize hl : (List.range i).map (meetW s acts) = l at h
  have hll : l.length = i := by rw [← hl]; simp
  have hlw : ∀ j w, l[j]? = some w → w = meetW s acts j := by
    intro j w hw
    rw [← hl, List.getElem?_map] at hw
    rcases Option.map_eq_some_iff.1 hw with ⟨x, hx, rfl⟩
    rw [List.getElem?_range (by refine Classical.byContradiction fun hc => ?_; rw [List.getElem?_eq_none (by simp; omega)] at hx; cases hx)] at hx
    cases hx; rfl
  refine ⟨fun d ws M' => ∃ (j : Nat), ws = [.int .i64 (j : Int)] ∧ d = i - j ∧ j ≤ i ∧ Hp M0 (objP chanR b (meetC s (l.drop j)) :: []) M',
    ⟨_, 0, rfl, rfl, by omega, h⟩, ?_⟩
  clear h
  rintro d _ ii M2 ⟨j, he, hd, hi, h⟩
  simp only [List.cons.injEq, Value.int.injEq, and_true, true_and] at he
  subst he
  have hsm : (meetC s (l.drop j)).Small 1000000000 := meet_len (by simp; omega)
  refine bsp_dec.2 ⟨fun hlt => ?_, fun hge => ?_⟩
  · obtain ⟨a, ha⟩ := idx_ex (l := acts) (i := j) (by omega)
    have hg : acts.getD j (fun _ => 0) = a := by rw [List.getD_eq_getElem?_getD, ha]; rfl
    obtain ⟨w, hw⟩ := idx_ex (l := l) (i := j) (by omega)
    have hww := hlw j w hw
    have hd1 : l.drop j = w :: l.drop (j + 1) := by
      have := (List.getElem?_eq_some_iff.1 hw)
      rw [List.drop_eq_getElem_cons this.1, this.2]
    have hs1 := hsl (by omega)
    obtain ⟨b1, o1, rfl⟩ := hs1.some' (by rw [Enc.cells_len]; exact Nat.mul_pos (by omega) (by decide))
    have e5 : (o1 + (j : Int).toNat) = o1 + (j * (kE [.i64]).z + 0) := by simp [kE]
    have sr : ∀ L, Src M0 L (some ⟨b1, o1, none⟩) ((kE [.i64]).cells acts) := fun L => Src.ro hs1
    cases s with
    | true =>
      have ew : w = ⟨100 + j, 0, a 0⟩ := by rw [hww]; simp only [meetW, hg]; rfl
      repeat (first | (refine s_nwc h ?_; clear h; intro kb M h) | (refine s_stc h ?_; clear h; intro M h) | refine t_exI h ?_ | refine t_exB h ?_ | refine t_exS h ?_ | refine t_exP h ?_ | refine t_exSl h ?_ | refine t_exV h ?_ | refine u_exI ?_ | refine u_exB ?_ | refine u_exS ?_ | refine u_exP ?_ | refine u_exSl ?_ | refine u_exV ?_ | refine u_nilc ?_ | (apply Exists.intro; (repeat apply Exists.intro); refine And.intro rfl ?_) | (refine And.intro ?_ ?_; first | exact trivial | exact rfl | exact t_ld h | (refine lds_s (t_ld h) ?_; (repeat (refine lds_s (t_ld h) ?_)); exact lds_nil) | omega) | refine u_bspT ?_ | refine u_bspF ?_)
      refine chans_Recv h hsm ?_
      clear h
      intro M h
      have e : Chan.recv (meetC true (l.drop j)) = (meetC true (l.drop (j + 1)), a 0, true, w, true, 0) := by rw [hd1]; subst ew; rfl
      rw [e, ew] at h
      rw [e, ew]
      repeat (first | (refine s_nwc h ?_; clear h; intro kb M h) | (refine s_stc h ?_; clear h; intro M h) | refine t_exI h ?_ | refine t_exB h ?_ | refine t_exS h ?_ | refine t_exP h ?_ | refine t_exSl h ?_ | refine t_exV h ?_ | refine u_exI ?_ | refine u_exB ?_ | refine u_exS ?_ | refine u_exP ?_ | refine u_exSl ?_ | refine u_exV ?_ | refine u_nilc ?_ | (apply Exists.intro; (repeat apply Exists.intro); refine And.intro rfl ?_) | (refine And.intro ?_ ?_; first | exact trivial | exact rfl | exact t_ld h | (refine lds_s (t_ld h) ?_; (repeat (refine lds_s (t_ld h) ?_)); exact lds_nil) | omega) | refine u_bspT ?_ | refine u_bspF ?_)
      refine v_exI ((sr _).at h (i := j) (j := 0) ha rfl e5) ?_
      refine u_bspD (by simp) ?_
      repeat (first | (refine s_nwc h ?_; clear h; intro kb M h) | (refine s_stc h ?_; clear h; intro M h) | refine t_exI h ?_ | refine t_exB h ?_ | refine t_exS h ?_ | refine t_exP h ?_ | refine t_exSl h ?_ | refine t_exV h ?_ | refine u_exI ?_ | refine u_exB ?_ | refine u_exS ?_ | refine u_exP ?_ | refine u_exSl ?_ | refine u_exV ?_ | refine u_nilc ?_ | (apply Exists.intro; (repeat apply Exists.intro); refine And.intro rfl ?_) | (refine And.intro ?_ ?_; first | exact trivial | exact rfl | exact t_ld h | (refine lds_s (t_ld h) ?_; (repeat (refine lds_s (t_ld h) ?_)); exact lds_nil) | omega) | refine u_bspT ?_ | refine u_bspF ?_)
      rw [wr100 (by omega)]
      refine u_bspD (by simp) ?_
      rw [wrap_succ (by omega)]
      exact ⟨i - (j + 1), by omega, j + 1, rfl, rfl, by omega, (h.front chanR b).fin1⟩
    | false =>
      have ew : w = ⟨100 + j, j, 0⟩ := by rw [hww]; rfl
      repeat (first | (refine s_nwc h ?_; clear h; intro kb M h) | (refine s_stc h ?_; clear h; intro M h) | refine t_exI h ?_ | refine t_exB h ?_ | refine t_exS h ?_ | refine t_exP h ?_ | refine t_exSl h ?_ | refine t_exV h ?_ | refine u_exI ?_ | refine u_exB ?_ | refine u_exS ?_ | refine u_exP ?_ | refine u_exSl ?_ | refine u_exV ?_ | refine u_nilc ?_ | (apply Exists.intro; (repeat apply Exists.intro); refine And.intro rfl ?_) | (refine And.intro ?_ ?_; first | exact trivial | exact rfl | exact t_ld h | (refine lds_s (t_ld h) ?_; (repeat (refine lds_s (t_ld h) ?_)); exact lds_nil) | omega) | refine u_bspT ?_ | refine u_bspF ?_)
      refine v_exI ((sr _).at h (i := j) (j := 0) ha rfl e5) ?_
      refine chans_Send h hsm ?_
      clear h
      intro M h
      have e : Chan.send (meetC false (l.drop j)) (a 0) = (meetC false (l.drop (j + 1)), ⟨100 + j, j, a 0⟩, true, 0) := by rw [hd1]; subst ew; rfl
      rw [e] at h
      rw [e]
      repeat (first | (refine s_nwc h ?_; clear h; intro kb M h) | (refine s_stc h ?_; clear h; intro M h) | refine t_exI h ?_ | refine t_exB h ?_ | refine t_exS h ?_ | refine t_exP h ?_ | refine t_exSl h ?_ | refine t_exV h ?_ | refine u_exI ?_ | refine u_exB ?_ | refine u_exS ?_ | refine u_exP ?_ | refine u_exSl ?_ | refine u_exV ?_ | refine u_nilc ?_ | (apply Exists.intro; (repeat apply Exists.intro); refine And.intro rfl ?_) | (refine And.intro ?_ ?_; first | exact trivial | exact rfl | exact t_ld h | (refine lds_s (t_ld h) ?_; (repeat (refine lds_s (t_ld h) ?_)); exact lds_nil) | omega) | refine u_bspT ?_ | refine u_bspF ?_)
      refine v_exI ((sr _).at h (i := j) (j := 0) ha rfl e5) ?_
      rw [wr100 (by omega)]
      refine u_bspD (by simp) ?_
      rw [wrap_succ (by omega)]
      exact ⟨i - (j + 1), by omega, j + 1, rfl, rfl, by omega, (h.front chanR b).fin1⟩
  have : j = i := by omega
  subst this
  rw [List.drop_of_length_le (by omega)] at h
  have e1 : meetC s [] = ⟨0, [], [], [], false⟩ := by cases s <;> rfl
  rw [e1] at h
  refine chans_Recv h (by simp [Chan.Small]) ?_
  clear h
  intro M h
  have e : Chan.recv ⟨0, [], [], [], false⟩ = (⟨0, [], [], [], false⟩, 0, false, .zero, false, 5) := rfl
  rw [e] at h ⊢
  repeat (first | (refine s_nwc h ?_; clear h; intro kb M h) | (refine s_stc h ?_; clear h; intro M h) | refine t_exI h ?_ | refine t_exB h ?_ | refine t_exS h ?_ | refine t_exP h ?_ | refine t_exSl h ?_ | refine t_exV h ?_ | refine u_exI ?_ | refine u_exB ?_ | refine u_exS ?_ | refine u_exP ?_ | refine u_exSl ?_ | refine u_exV ?_ | refine u_nilc ?_ | (apply Exists.intro; (repeat apply Exists.intro); refine And.intro rfl ?_) | (refine And.intro ?_ ?_; first | exact trivial | exact rfl | exact t_ld h | (refine lds_s (t_ld h) ?_; (repeat (refine lds_s (t_ld h) ?_)); exact lds_nil) | omega) | refine u_bspT ?_ | refine u_bspF ?_)
  refine chans_Send h (by simp [Chan.Small]) ?_
  clear h
  intro M h
  have e : Chan.send ⟨0, [], [], [], false⟩ 1 = (⟨0, [], [], [], false⟩, .zero, false, 6) := rfl
  rw [e] at h ⊢
  repeat (first | (refine s_nwc h ?_; clear h; intro kb M h) | (refine s_stc h ?_; clear h; intro M h) | refine t_exI h ?_ | refine t_exB h ?_ | refine t_exS h ?_ | refine t_exP h ?_ | refine t_exSl h ?_ | refine t_exV h ?_ | refine u_exI ?_ | refine u_exB ?_ | refine u_exS ?_ | refine u_exP ?_ | refine u_exSl ?_ | refine u_exV ?_ | refine u_nilc ?_ | (apply Exists.intro; (repeat apply Exists.intro); refine And.intro rfl ?_) | (refine And.intro ?_ ?_; first | exact trivial | exact rfl | exact t_ld h | (refine lds_s (t_ld h) ?_; (repeat (refine lds_s (t_ld h) ?_)); exact lds_nil) | omega) | refine u_bspT ?_ | refine u_bspF ?_)
  exact k _ (h.done (Mem.le_refl M0))
end Go.Proofs
