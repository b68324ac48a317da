/- A part of proofs about functions of one program: a condition over a partial memory that is enough for a call, and what calls answer by it. No condition of its own. -/
import Derived.Test.YtodeolmcinekoaaChan2
import Derived.Test.YtodeolmcinekoaaArgs
import Derived.Test.YtodeolmcinekoaaVLCh
namespace Go.Proofs
open Go.AF
set_option linter.unusedVariables false
set_option maxRecDepth 100000
set_option maxHeartbeats 1000000
attribute [local irreducible] exI exB exS exP exSl exV nilc stc nwc semK semU bsp
theorem chansDrain {room more : Int} {A1 : Option Addr} {n1 c1 : Nat} {M0 : Mem} {K : Value → Mem → Prop} {Kp : List PanicEntry → Mem → Prop} (hs : ArgSl M0 A1 n1 c1 [.i64]) (k : ∀ M', Chg [] M0 M' → K (.bool true) M') :
    ACalls Try.prog 10 #[.int .i64 room, .slice A1 n1 c1, .int .i64 more] M0 K Kp := by
  obtain ⟨acts, rfl, hcap, hlen, hsl, _⟩ := hs
  refine vc_shunterlaw13_ChansDrain ?_
  have h := Hp.start M0
  refine chans_awake h ?_
  clear h
  intro M1 h
  repeat (first | (refine s_nwc h ?_; clear h; intro kb M h) | (refine s_stc h ?_; clear h; intro M h) | refine t_exI h ?_ | refine t_exB h ?_ | refine t_exS h ?_ | refine t_exP h ?_ | refine t_exSl h ?_ | refine t_exV h ?_ | refine u_exI ?_ | refine u_exB ?_ | refine u_exS ?_ | refine u_exP ?_ | refine u_exSl ?_ | refine u_exV ?_ | refine u_nilc ?_ | (apply Exists.intro; (repeat apply Exists.intro); refine And.intro rfl ?_) | (refine And.intro ?_ ?_; first | exact trivial | exact rfl | exact t_ld h | (refine lds_s (t_ld h) ?_; (repeat (refine lds_s (t_ld h) ?_)); exact lds_nil) | omega) | refine u_bspT ?_ | refine u_bspF ?_)
  refine chans_New h ?_
  clear h
  intro b M1 h
  repeat (first | (refine s_nwc h ?_; clear h; intro kb M h) | (refine s_stc h ?_; clear h; intro M h) | refine t_exI h ?_ | refine t_exB h ?_ | refine t_exS h ?_ | refine t_exP h ?_ | refine t_exSl h ?_ | refine t_exV h ?_ | refine u_exI ?_ | refine u_exB ?_ | refine u_exS ?_ | refine u_exP ?_ | refine u_exSl ?_ | refine u_exV ?_ | refine u_nilc ?_ | (apply Exists.intro; (repeat apply Exists.intro); refine And.intro rfl ?_) | (refine And.intro ?_ ?_; first | exact trivial | exact rfl | exact t_ld h | (refine lds_s (t_ld h) ?_; (repeat (refine lds_s (t_ld h) ?_)); exact lds_nil) | omega) | refine u_bspT ?_ | refine u_bspF ?_)
  have h := (h.pt kb).row_pt (E := intE) (l := []) rfl
  have hcap16 := capOf_le room
  refine ⟨fun ws M' => ∃ (A : Option Addr) (cc : Nat) (l : List Int), l = (acts.map (· 0)).take (min (min acts.length 20) (capOf room)) ∧ ws = [.slice A l.length cc] ∧ Hp M0 (objP chanR b ⟨capOf room, l, [], [], false⟩ :: rowB A cc l :: []) M', ?_, ?_⟩
  · refine ⟨fun d ws M' => ∃ (i : Nat) (A : Option Addr) (cc : Nat) (l : List Int), l = (acts.map (· 0)).take (min i (capOf room)) ∧ ws = [.slice A l.length cc, .int .i64 (i : Int)] ∧ d = 20 - i ∧ i ≤ 20 ∧ i ≤ acts.length ∧ Hp M0 (objP chanR b ⟨capOf room, l, [], [], false⟩ :: rowB A cc l :: []) M',
      ⟨_, 0, _, _, [], by simp, rfl, rfl, by omega, by omega, (h.front chanR b).fin1⟩, ?_⟩
    clear h
    rintro d _ A n cc ii M2 ⟨i, _, _, l, hl, he, hd, hi, hia, h⟩
    simp only [List.cons.injEq, Value.slice.injEq, Value.int.injEq, and_true, true_and] at he
    obtain ⟨⟨rfl, rfl, rfl⟩, rfl⟩ := he
    have hll : l.length = min i (capOf room) := by rw [hl, List.length_take, List.length_map]; omega
    refine bsp_dec.2 ⟨fun hlt => bsp_dec.2 ⟨fun h20 => ?_, fun h20 => ?_⟩, fun hge => ?_⟩
    · obtain ⟨a, ha⟩ := idx_ex (l := acts) (i := i) (by omega)
      have hs1 := hsl (by omega)
      obtain ⟨b1, o1, rfl⟩ := hs1.some' (by rw [Enc.cells_len]; exact Nat.mul_pos (by omega) (by decide))
      have e5 : (o1 + (i : Int).toNat) = o1 + (i * (kE [.i64]).z + 0) := by simp [kE]
      have sr : ∀ L, Src M0 L (some ⟨b1, o1, none⟩) ((kE [.i64]).cells acts) := fun L => Src.ro hs1
      repeat (first | (refine s_nwc h ?_; clear h; intro kb M h) | (refine s_stc h ?_; clear h; intro M h) | refine t_exI h ?_ | refine t_exB h ?_ | refine t_exS h ?_ | refine t_exP h ?_ | refine t_exSl h ?_ | refine t_exV h ?_ | refine u_exI ?_ | refine u_exB ?_ | refine u_exS ?_ | refine u_exP ?_ | refine u_exSl ?_ | refine u_exV ?_ | refine u_nilc ?_ | (apply Exists.intro; (repeat apply Exists.intro); refine And.intro rfl ?_) | (refine And.intro ?_ ?_; first | exact trivial | exact rfl | exact t_ld h | (refine lds_s (t_ld h) ?_; (repeat (refine lds_s (t_ld h) ?_)); exact lds_nil) | omega) | refine u_bspT ?_ | refine u_bspF ?_)
      refine v_exI ((sr _).at h (i := i) (j := 0) ha rfl e5) ?_
      repeat (first | (refine s_nwc h ?_; clear h; intro kb M h) | (refine s_stc h ?_; clear h; intro M h) | refine t_exI h ?_ | refine t_exB h ?_ | refine t_exS h ?_ | refine t_exP h ?_ | refine t_exSl h ?_ | refine t_exV h ?_ | refine u_exI ?_ | refine u_exB ?_ | refine u_exS ?_ | refine u_exP ?_ | refine u_exSl ?_ | refine u_exV ?_ | refine u_nilc ?_ | (apply Exists.intro; (repeat apply Exists.intro); refine And.intro rfl ?_) | (refine And.intro ?_ ?_; first | exact trivial | exact rfl | exact t_ld h | (refine lds_s (t_ld h) ?_; (repeat (refine lds_s (t_ld h) ?_)); exact lds_nil) | omega) | refine u_bspT ?_ | refine u_bspF ?_)
      rw [wrap_succ (by omega)]
      refine chans_Send h (by refine ⟨?_, by simp, by simp⟩; dsimp only; omega) ?_
      clear h
      intro M h
      by_cases hr : i < capOf room
      · have e : Chan.send ⟨capOf room, l, [], [], false⟩ (a 0) = (⟨capOf room, l ++ [a 0], [], [], false⟩, .zero, false, 0) := by
          unfold Chan.send; simp only [Bool.false_eq_true, if_false]; rw [if_pos (by omega)]
        rw [e] at h ⊢
        repeat (first | (refine s_nwc h ?_; clear h; intro kb M h) | (refine s_stc h ?_; clear h; intro M h) | refine t_exI h ?_ | refine t_exB h ?_ | refine t_exS h ?_ | refine t_exP h ?_ | refine t_exSl h ?_ | refine t_exV h ?_ | refine u_exI ?_ | refine u_exB ?_ | refine u_exS ?_ | refine u_exP ?_ | refine u_exSl ?_ | refine u_exV ?_ | refine u_nilc ?_ | (apply Exists.intro; (repeat apply Exists.intro); refine And.intro rfl ?_) | (refine And.intro ?_ ?_; first | exact trivial | exact rfl | exact t_ld h | (refine lds_s (t_ld h) ?_; (repeat (refine lds_s (t_ld h) ?_)); exact lds_nil) | omega) | refine u_bspT ?_ | refine u_bspF ?_)
        refine v_exI ((sr _).at h (i := i) (j := 0) ha rfl e5) ?_
        repeat (first | (refine s_nwc h ?_; clear h; intro kb M h) | (refine s_stc h ?_; clear h; intro M h) | refine t_exI h ?_ | refine t_exB h ?_ | refine t_exS h ?_ | refine t_exP h ?_ | refine t_exSl h ?_ | refine t_exV h ?_ | refine u_exI ?_ | refine u_exB ?_ | refine u_exS ?_ | refine u_exP ?_ | refine u_exSl ?_ | refine u_exV ?_ | refine u_nilc ?_ | (apply Exists.intro; (repeat apply Exists.intro); refine And.intro rfl ?_) | (refine And.intro ?_ ?_; first | exact trivial | exact rfl | exact t_ld h | (refine lds_s (t_ld h) ?_; (repeat (refine lds_s (t_ld h) ?_)); exact lds_nil) | omega) | refine u_bspT ?_ | refine u_bspF ?_)
        refine h.rowAppend1 el_i64 [a 0] rfl rfl (by simp; omega) ?_
        clear h
        intro A' c' M h
        repeat (first | (refine s_nwc h ?_; clear h; intro kb M h) | (refine s_stc h ?_; clear h; intro M h) | refine t_exI h ?_ | refine t_exB h ?_ | refine t_exS h ?_ | refine t_exP h ?_ | refine t_exSl h ?_ | refine t_exV h ?_ | refine u_exI ?_ | refine u_exB ?_ | refine u_exS ?_ | refine u_exP ?_ | refine u_exSl ?_ | refine u_exV ?_ | refine u_nilc ?_ | (apply Exists.intro; (repeat apply Exists.intro); refine And.intro rfl ?_) | (refine And.intro ?_ ?_; first | exact trivial | exact rfl | exact t_ld h | (refine lds_s (t_ld h) ?_; (repeat (refine lds_s (t_ld h) ?_)); exact lds_nil) | omega) | refine u_bspT ?_ | refine u_bspF ?_)
        refine ⟨20 - (i + 1), by omega, i + 1, A', c', _, ?_, rfl, rfl, by omega, by omega, (h.front chanR b).fin1⟩
        rw [hl, show min (i + 1) (capOf room) = min i (capOf room) + 1 from by omega, take_snoc (w := a 0)]
        rw [show min i (capOf room) = i from by omega, List.getElem?_map, ha]; rfl
      · have e : Chan.send ⟨capOf room, l, [], [], false⟩ (a 0) = (⟨capOf room, l, [], [], false⟩, .zero, false, 6) := by
          unfold Chan.send; simp only [Bool.false_eq_true, if_false]; rw [if_neg (by omega)]
        rw [e] at h ⊢
        repeat (first | (refine s_nwc h ?_; clear h; intro kb M h) | (refine s_stc h ?_; clear h; intro M h) | refine t_exI h ?_ | refine t_exB h ?_ | refine t_exS h ?_ | refine t_exP h ?_ | refine t_exSl h ?_ | refine t_exV h ?_ | refine u_exI ?_ | refine u_exB ?_ | refine u_exS ?_ | refine u_exP ?_ | refine u_exSl ?_ | refine u_exV ?_ | refine u_nilc ?_ | (apply Exists.intro; (repeat apply Exists.intro); refine And.intro rfl ?_) | (refine And.intro ?_ ?_; first | exact trivial | exact rfl | exact t_ld h | (refine lds_s (t_ld h) ?_; (repeat (refine lds_s (t_ld h) ?_)); exact lds_nil) | omega) | refine u_bspT ?_ | refine u_bspF ?_)
        refine ⟨20 - (i + 1), by omega, i + 1, A, cc, l, ?_, rfl, rfl, by omega, by omega, (h.front chanR b).fin1⟩
        rw [hl, show min (i + 1) (capOf room) = min i (capOf room) from by omega]
    · exact ⟨A, cc, l, by rw [hl]; congr 1; omega, rfl, h⟩
    · exact ⟨A, cc, l, by rw [hl]; congr 1; omega, rfl, h⟩
  clear h
  rintro _ A n cc M2 ⟨_, _, l, hl, he, h⟩
  simp only [List.cons.injEq, Value.slice.injEq, and_true] at he
  obtain ⟨rfl, rfl, rfl⟩ := he
  have hll : l.length = min (min acts.length 20) (capOf room) := by rw [hl, List.length_take, List.length_map]; omega
  clear hl
  refine chans_Close h ?_
  clear h
  intro X1 y1 X2 y2 M h
  have e : Chan.close ⟨capOf room, l, [], [], false⟩ = (⟨capOf room, l, [], [], true⟩, [], [], 0) := rfl
  rw [e] at h ⊢
  repeat (first | (refine s_nwc h ?_; clear h; intro kb M h) | (refine s_stc h ?_; clear h; intro M h) | refine t_exI h ?_ | refine t_exB h ?_ | refine t_exS h ?_ | refine t_exP h ?_ | refine t_exSl h ?_ | refine t_exV h ?_ | refine u_exI ?_ | refine u_exB ?_ | refine u_exS ?_ | refine u_exP ?_ | refine u_exSl ?_ | refine u_exV ?_ | refine u_nilc ?_ | (apply Exists.intro; (repeat apply Exists.intro); refine And.intro rfl ?_) | (refine And.intro ?_ ?_; first | exact trivial | exact rfl | exact t_ld h | (refine lds_s (t_ld h) ?_; (repeat (refine lds_s (t_ld h) ?_)); exact lds_nil) | omega) | refine u_bspT ?_ | refine u_bspF ?_)
  rw [capOf_eq]
  refine bsp_ne.2 ⟨fun hne => absurd ?_ hne, fun _ => ?_⟩
  · split <;> split at * <;> omega
  -- each comes out
  refine ⟨fun d ws M' => ∃ (i : Nat), ws = [.int .i64 (i : Int)] ∧ d = l.length - i ∧ i ≤ l.length ∧ Hp M0 (objP chanR b ⟨capOf room, l.drop i, [], [], true⟩ :: rowB A cc l :: []) M',
    ⟨_, 0, rfl, rfl, by omega, (h.front chanR b).fin1⟩, ?_⟩
  clear h
  rintro d _ ii M2 ⟨i, he, hd, hi, h⟩
  simp only [List.cons.injEq, Value.int.injEq, and_true, true_and] at he
  subst he
  refine bsp_dec.2 ⟨fun hlt => ?_, fun hge => ?_⟩
  · obtain ⟨v, hv⟩ := idx_ex (l := l) (i := i) (by omega)
    obtain ⟨y, rfl⟩ := h.row_some (A := A) (by omega) (by decide)
    repeat (first | (refine s_nwc h ?_; clear h; intro kb M h) | (refine s_stc h ?_; clear h; intro M h) | refine t_exI h ?_ | refine t_exB h ?_ | refine t_exS h ?_ | refine t_exP h ?_ | refine t_exSl h ?_ | refine t_exV h ?_ | refine u_exI ?_ | refine u_exB ?_ | refine u_exS ?_ | refine u_exP ?_ | refine u_exSl ?_ | refine u_exV ?_ | refine u_nilc ?_ | (apply Exists.intro; (repeat apply Exists.intro); refine And.intro rfl ?_) | (refine And.intro ?_ ?_; first | exact trivial | exact rfl | exact t_ld h | (refine lds_s (t_ld h) ?_; (repeat (refine lds_s (t_ld h) ?_)); exact lds_nil) | omega) | refine u_bspT ?_ | refine u_bspF ?_)
    have s0 := h.src (A := some ⟨y, 0, none⟩)
    refine v_exI (s0.at h (i := i) (j := 0) hv rfl (by simp [intE])) ?_
    have hd1 : l.drop i = v :: l.drop (i + 1) := by
      have := (List.getElem?_eq_some_iff.1 hv)
      rw [List.drop_eq_getElem_cons this.1, this.2]
    refine chans_Recv h (by refine ⟨?_, by simp, by simp⟩; simp; omega) ?_
    clear h
    intro M h
    have e : Chan.recv ⟨capOf room, l.drop i, [], [], true⟩ = (⟨capOf room, l.drop (i + 1), [], [], true⟩, v, true, .zero, false, 0) := by rw [hd1]; rfl
    rw [e] at h ⊢
    repeat (first | (refine s_nwc h ?_; clear h; intro kb M h) | (refine s_stc h ?_; clear h; intro M h) | refine t_exI h ?_ | refine t_exB h ?_ | refine t_exS h ?_ | refine t_exP h ?_ | refine t_exSl h ?_ | refine t_exV h ?_ | refine u_exI ?_ | refine u_exB ?_ | refine u_exS ?_ | refine u_exP ?_ | refine u_exSl ?_ | refine u_exV ?_ | refine u_nilc ?_ | (apply Exists.intro; (repeat apply Exists.intro); refine And.intro rfl ?_) | (refine And.intro ?_ ?_; first | exact trivial | exact rfl | exact t_ld h | (refine lds_s (t_ld h) ?_; (repeat (refine lds_s (t_ld h) ?_)); exact lds_nil) | omega) | refine u_bspT ?_ | refine u_bspF ?_)
    refine bsp_ne.2 ⟨fun hne => absurd rfl hne, fun _ => ?_⟩
    rw [wrap_succ (by omega)]
    exact ⟨l.length - (i + 1), by omega, i + 1, rfl, rfl, by omega, (h.front chanR b).fin1⟩
  have : i = l.length := by omega
  subst this
  rw [List.drop_length] at h
  obtain ⟨q, hq, hq7⟩ := mask (x := more) (y := 7) (m := 7) rfl (by omega)
  simp only [hq]
  refine ⟨fun d ws M' => ∃ (i : Nat), ws = [.int .i64 (i : Int)] ∧ d = q - i ∧ i ≤ q ∧ Hp M0 (objP chanR b ⟨capOf room, [], [], [], true⟩ :: []) M',
    ⟨_, 0, rfl, rfl, by omega, h.fin1⟩, ?_⟩
  clear h
  rintro d _ ii M2 ⟨i, he, hd, hi, h⟩
  simp only [List.cons.injEq, Value.int.injEq, and_true, true_and] at he
  subst he
  refine bsp_dec.2 ⟨fun hlt => ?_, fun hge => ?_⟩
  · refine chans_Recv h (by simp [Chan.Small]) ?_
    clear h
    intro M h
    have e : Chan.recv ⟨capOf room, [], [], [], true⟩ = (⟨capOf room, [], [], [], true⟩, 0, false, .zero, false, 0) := rfl
    rw [e] at h ⊢
    repeat (first | (refine s_nwc h ?_; clear h; intro kb M h) | (refine s_stc h ?_; clear h; intro M h) | refine t_exI h ?_ | refine t_exB h ?_ | refine t_exS h ?_ | refine t_exP h ?_ | refine t_exSl h ?_ | refine t_exV h ?_ | refine u_exI ?_ | refine u_exB ?_ | refine u_exS ?_ | refine u_exP ?_ | refine u_exSl ?_ | refine u_exV ?_ | refine u_nilc ?_ | (apply Exists.intro; (repeat apply Exists.intro); refine And.intro rfl ?_) | (refine And.intro ?_ ?_; first | exact trivial | exact rfl | exact t_ld h | (refine lds_s (t_ld h) ?_; (repeat (refine lds_s (t_ld h) ?_)); exact lds_nil) | omega) | refine u_bspT ?_ | refine u_bspF ?_)
    rw [wrap_succ (by omega)]
    exact ⟨q - (i + 1), by omega, i + 1, rfl, rfl, by omega, (h.front chanR b).fin1⟩
  · refine chans_Send h (by simp [Chan.Small]) ?_
    clear h
    intro M h
    have e : Chan.send ⟨capOf room, [], [], [], true⟩ 1 = (⟨capOf room, [], [], [], true⟩, .zero, false, 10) := rfl
    rw [e] at h ⊢
    repeat (first | (refine s_nwc h ?_; clear h; intro kb M h) | (refine s_stc h ?_; clear h; intro M h) | refine t_exI h ?_ | refine t_exB h ?_ | refine t_exS h ?_ | refine t_exP h ?_ | refine t_exSl h ?_ | refine t_exV h ?_ | refine u_exI ?_ | refine u_exB ?_ | refine u_exS ?_ | refine u_exP ?_ | refine u_exSl ?_ | refine u_exV ?_ | refine u_nilc ?_ | (apply Exists.intro; (repeat apply Exists.intro); refine And.intro rfl ?_) | (refine And.intro ?_ ?_; first | exact trivial | exact rfl | exact t_ld h | (refine lds_s (t_ld h) ?_; (repeat (refine lds_s (t_ld h) ?_)); exact lds_nil) | omega) | refine u_bspT ?_ | refine u_bspF ?_)
    refine chans_CanRecv h ?_
    repeat (first | (refine s_nwc h ?_; clear h; intro kb M h) | (refine s_stc h ?_; clear h; intro M h) | refine t_exI h ?_ | refine t_exB h ?_ | refine t_exS h ?_ | refine t_exP h ?_ | refine t_exSl h ?_ | refine t_exV h ?_ | refine u_exI ?_ | refine u_exB ?_ | refine u_exS ?_ | refine u_exP ?_ | refine u_exSl ?_ | refine u_exV ?_ | refine u_nilc ?_ | (apply Exists.intro; (repeat apply Exists.intro); refine And.intro rfl ?_) | (refine And.intro ?_ ?_; first | exact trivial | exact rfl | exact t_ld h | (refine lds_s (t_ld h) ?_; (repeat (refine lds_s (t_ld h) ?_)); exact lds_nil) | omega) | refine u_bspT ?_ | refine u_bspF ?_)
    refine chans_CanSend h ?_
    repeat (first | (refine s_nwc h ?_; clear h; intro kb M h) | (refine s_stc h ?_; clear h; intro M h) | refine t_exI h ?_ | refine t_exB h ?_ | refine t_exS h ?_ | refine t_exP h ?_ | refine t_exSl h ?_ | refine t_exV h ?_ | refine u_exI ?_ | refine u_exB ?_ | refine u_exS ?_ | refine u_exP ?_ | refine u_exSl ?_ | refine u_exV ?_ | refine u_nilc ?_ | (apply Exists.intro; (repeat apply Exists.intro); refine And.intro rfl ?_) | (refine And.intro ?_ ?_; first | exact trivial | exact rfl | exact t_ld h | (refine lds_s (t_ld h) ?_; (repeat (refine lds_s (t_ld h) ?_)); exact lds_nil) | omega) | refine u_bspT ?_ | refine u_bspF ?_)
    exact k _ (h.done (Mem.le_refl M0))
end Go.Proofs
