/- A part of proofs about functions of one program: a condition over a partial memory that is enough for a call, and what calls answer by it. No condition of its own. -/
import Derived.Test.YtodeolmcinekoaaPicks
import Derived.Test.YtodeolmcinekoaaRChan
/- Which cases can go: the document's. -/
namespace Go.Proofs
open Go.AF
set_option linter.unusedVariables false
set_option maxRecDepth 100000
set_option maxHeartbeats 1000000
attribute [local irreducible] exI exB exS exP exSl exV nilc stc nwc semK semU bsp
/-- A channel of the document's, as it stands in a row. -/
structure RC where
  room : Int
  A : Option Addr
  na : Nat
  ca : Nat
  B : Option Addr
  nb : Nat
  cb : Nat
  D : Option Addr
  nd : Nat
  cd : Nat
  closed : Bool
def rcE : Enc RC := ⟨5, fun w => [.int .i64 w.room, .slice w.A w.na w.ca, .slice w.B w.nb w.cb, .slice w.D w.nd w.cd, .bool w.closed], fun _ => rfl, fun w v hv => by
  simp only [List.mem_cons, List.not_mem_nil, or_false] at hv; obtain rfl | rfl | rfl | rfl | rfl := hv <;> rfl⟩
def RCh (R : Mem) (r : RC) (c : Chan) : Prop := RChan R (rcE.f r) c
theorem RCh.le {R R' : Mem} {r : RC} {c : Chan} (h : RCh R r c) (hle : R.le R') : RCh R' r c := RChan.le h hle
theorem RChan.rc {R : Mem} {vs : List Value} {c : Chan} (h : RChan R vs c) : ∃ r, vs = rcE.f r ∧ RCh R r c := by
  obtain ⟨A, ca, B, cb, D, cd, rfl, q1, q2, q3⟩ := id h
  exact ⟨⟨c.room, A, c.buf.length, ca, B, c.snd.length, cb, D, c.rcv.length, cd, c.closed⟩, rfl, h⟩
theorem RCh.eq {R : Mem} {r : RC} {c : Chan} (h : RCh R r c) : ∃ A ca B cb D cd, r = ⟨c.room, A, c.buf.length, ca, B, c.snd.length, cb, D, c.rcv.length, cd, c.closed⟩ ∧ RS intE R A ca c.buf ∧ RS waitE R B cb c.snd ∧ RS waitE R D cd c.rcv := by
  obtain ⟨A, ca, B, cb, D, cd, e, q1, q2, q3⟩ := h
  obtain ⟨e0, e1, e2, e3, e4, e5, e6, e7, e8, e9, e10⟩ := r
  simp only [rcE, List.cons.injEq, Value.int.injEq, Value.slice.injEq, Value.bool.injEq, and_true, true_and] at e
  obtain ⟨rfl, ⟨rfl, rfl, rfl⟩, ⟨rfl, rfl, rfl⟩, ⟨rfl, rfl, rfl⟩, rfl⟩ := e
  exact ⟨_, _, _, _, _, _, rfl, q1, q2, q3⟩
/-- The document's channels. -/
def RCs (R : Mem) (xs : List RC) (cs : List Chan) : Prop := xs.length = cs.length ∧ ∀ (i : Nat) (r : RC) (c : Chan), xs[i]? = some r → cs[i]? = some c → RCh R r c
theorem RCs.le {R R' : Mem} {xs : List RC} {cs : List Chan} (h : RCs R xs cs) (hle : R.le R') : RCs R' xs cs := ⟨h.1, fun i r c h1 h2 => (h.2 i r c h1 h2).le hle⟩
theorem RCs.nil (R : Mem) : RCs R [] [] := ⟨rfl, fun i r c h => by simp at h⟩
theorem RCs.snoc {R : Mem} {xs : List RC} {cs : List Chan} {r : RC} {c : Chan} (h : RCs R xs cs) (hr : RCh R r c) : RCs R (xs ++ [r]) (cs ++ [c]) := by
  refine ⟨by simp [h.1], fun i r' c' h1 h2 => ?_⟩
  rcases Nat.lt_or_ge i xs.length with hl | hl
  · rw [List.getElem?_append_left hl] at h1; rw [List.getElem?_append_left (by rw [← h.1]; exact hl)] at h2; exact h.2 i _ _ h1 h2
  · rw [List.getElem?_append_right hl] at h1; rw [List.getElem?_append_right (by rw [← h.1]; exact hl)] at h2
    have : i - xs.length = 0 := by
      obtain ⟨hh, _⟩ := List.getElem?_eq_some_iff.1 h1; simp at hh; omega
    rw [this] at h1; rw [← h.1, this] at h2
    cases h1; cases h2; exact hr
theorem RCs.set {R : Mem} {xs : List RC} {cs : List Chan} {r : RC} {c : Chan} (h : RCs R xs cs) (i : Nat) (hr : RCh R r c) : RCs R (xs.set i r) (cs.set i c) := by
  refine ⟨by simp [h.1], fun j r' c' h1 h2 => ?_⟩
  rw [List.getElem?_set] at h1 h2
  split at h1
  · rename_i e; rw [if_pos e] at h2
    split at h1
    · split at h2
      · cases h1; cases h2; exact hr
      · cases h2
    · cases h1
  · rename_i e; rw [if_neg e] at h2; exact h.2 j _ _ h1 h2

theorem can_iff {cs : List Chan} {x : Chan} {way reg : Int} {q : Nat} (hx : cs[q]? = some x) (h0 : 0 ≤ way) (h1 : way < 2) :
    can cs ⟨way, q, reg⟩ = true ↔ x.closed = true ∨ (way = 0 ∧ (0 < x.snd.length + x.buf.length)) ∨ (way = 1 ∧ (0 < x.rcv.length ∨ x.buf.length < x.room)) := by
  have hxx : chAt cs (q : Int) = x := by simp [chAt, hx]
  have hw : way = 0 ∨ way = 1 := by omega
  simp only [can, hxx]
  obtain ⟨room, buf, snd, rcv, closed⟩ := x
  rcases hw with rfl | rfl
  · simp only [if_true, Chan.canRecv, Bool.or_eq_true]
    cases closed <;> cases snd <;> cases buf <;> simp <;> omega
  · simp only [Chan.canSend, Bool.or_eq_true]
    cases closed <;> cases rcv <;> simp
section
variable {R : Mem} {L L' : List HP} {M : Mem} {K : Value → Mem → Prop} {Kp : List PanicEntry → Mem → Prop} {xs : List RC} {cs : List Chan}
theorem ref15_Else {B : Option Addr} {m cc : Nat} {cases : List Cas} (h : Hp R L M) (hB : Src R L B (casE.cells cases)) (hm : m = cases.length) (hb : cases.length ≤ 1000000000)
    (k : ∀ M', Hp R L M' → K (.int .i64 (match els cases with | some i => (i : Int) | none => -1)) M') :
    ACalls Try.prog 67 #[.slice B m cc] M K Kp := by
  subst hm
  refine vc_shunterref15_Else ⟨fun d ws M => ∃ i : Nat, ws = [.int .i64 (i : Int)] ∧ d = cases.length - i ∧ i ≤ cases.length ∧ (∀ j c, j < i → cases[j]? = some c → c.way ≠ 2) ∧ Hp R L M, ⟨_, 0, rfl, rfl, by omega, fun j c hj => by omega, h⟩, ?_⟩
  clear h
  rintro d _ ii M ⟨i, he, hd, hi, hp, h⟩
  simp only [List.cons.injEq, Value.int.injEq, and_true, true_and] at he
  subst he
  refine bsp_dec.2 ⟨fun hlt => ?_, fun hge => ?_⟩
  · obtain ⟨c, hc⟩ := idx_ex (l := cases) (i := i) (by omega)
    obtain ⟨b, o, rfl⟩ := hB.someE h (by omega) (by decide)
    repeat (first | (refine s_nwc h ?_; clear h; intro kb M h) | (refine s_stc h ?_; clear h; intro M h) | refine t_exI h ?_ | refine t_exB h ?_ | refine t_exS h ?_ | refine t_exP h ?_ | refine t_exSl h ?_ | refine t_exV h ?_ | refine u_exI ?_ | refine u_exB ?_ | refine u_exS ?_ | refine u_exP ?_ | refine u_exSl ?_ | refine u_exV ?_ | refine u_nilc ?_ | (apply Exists.intro; (repeat apply Exists.intro); refine And.intro rfl ?_) | (refine And.intro ?_ ?_; first | exact trivial | exact rfl | exact t_ld h | (refine lds_s (t_ld h) ?_; (repeat (refine lds_s (t_ld h) ?_)); exact lds_nil) | omega) | refine u_bspT ?_ | refine u_bspF ?_)
    simp only [Int.toNat_natCast]
    refine v_exI (hB.at h (i := i) (j := 0) hc rfl rfl) ?_
    refine v_exI (hB.at h (i := i) (j := 1) hc rfl rfl) ?_
    refine v_exI (hB.at h (i := i) (j := 2) hc rfl rfl) ?_
    repeat (first | (refine s_nwc h ?_; clear h; intro kb M h) | (refine s_stc h ?_; clear h; intro M h) | refine t_exI h ?_ | refine t_exB h ?_ | refine t_exS h ?_ | refine t_exP h ?_ | refine t_exSl h ?_ | refine t_exV h ?_ | refine u_exI ?_ | refine u_exB ?_ | refine u_exS ?_ | refine u_exP ?_ | refine u_exSl ?_ | refine u_exV ?_ | refine u_nilc ?_ | (apply Exists.intro; (repeat apply Exists.intro); refine And.intro rfl ?_) | (refine And.intro ?_ ?_; first | exact trivial | exact rfl | exact t_ld h | (refine lds_s (t_ld h) ?_; (repeat (refine lds_s (t_ld h) ?_)); exact lds_nil) | omega) | refine u_bspT ?_ | refine u_bspF ?_)
    refine bsp_eq.2 ⟨fun e => ?_, fun e => ?_⟩
    · have := els_some hc e hp
      rw [this] at k
      exact k _ h.fin0
    · rw [wrap_succ (by omega)]
      refine ⟨cases.length - (i + 1), by omega, i + 1, rfl, rfl, by omega, fun j c' hj hc' => ?_, h.fin0⟩
      rcases Nat.lt_or_ge j i with hji | hji
      · exact hp j c' hji hc'
      · obtain rfl : j = i := by omega
        rw [hc] at hc'; cases hc'; exact e
  · obtain rfl : i = cases.length := by omega
    rw [els_none hp] at k
    exact k _ h

theorem ref15_Enabled {B A : Option Addr} {m cc n ca : Nat} {cases : List Cas} (h : Hp R L M) (hB : Src R L B (casE.cells cases)) (hA : Src R L A (rcE.cells xs)) (hx : RCs R xs cs) (hm : m = cases.length) (hn : n = cs.length)
    (hb : cases.length ≤ 1000000000) (hok : ∀ c ∈ cases, c.Ok cs.length) (hs : ∀ c ∈ cs, c.Small 1000000000)
    (k : ∀ A' c' M', Hp R (rowP intE 3 A' c' (enabled cases cs) :: L) M' → K (.slice A' (enabled cases cs).length c') M') :
    ACalls Try.prog 69 #[.slice B m cc, .slice A n ca] M K Kp := by
  subst hm
  subst hn
  refine vc_shunterref15_Enabled ?_
  repeat (first | (refine s_nwc h ?_; clear h; intro kb M h) | (refine s_stc h ?_; clear h; intro M h) | refine t_exI h ?_ | refine t_exB h ?_ | refine t_exS h ?_ | refine t_exP h ?_ | refine t_exSl h ?_ | refine t_exV h ?_ | refine u_exI ?_ | refine u_exB ?_ | refine u_exS ?_ | refine u_exP ?_ | refine u_exSl ?_ | refine u_exV ?_ | refine u_nilc ?_ | (apply Exists.intro; (repeat apply Exists.intro); refine And.intro rfl ?_) | (refine And.intro ?_ ?_; first | exact trivial | exact rfl | exact t_ld h | (refine lds_s (t_ld h) ?_; (repeat (refine lds_s (t_ld h) ?_)); exact lds_nil) | omega) | refine u_bspT ?_ | refine u_bspF ?_)
  replace h := (h.pt kb).row_pt (E := intE) (l := []) rfl
  refine ⟨fun d ws M => ∃ (i : Nat) (X : Option Addr) (cx : Nat), ws = [.slice X (enTo cases cs i).length cx, .int .i64 (i : Int)] ∧ d = cases.length - i ∧ i ≤ cases.length ∧ Hp R (rowP intE 3 X cx (enTo cases cs i) :: L) M, ⟨_, 0, _, _, rfl, rfl, by omega, h⟩, ?_⟩
  clear h
  rintro d _ X n1 cx ii M ⟨i, _, _, he, hd, hi, h⟩
  simp only [List.cons.injEq, Value.int.injEq, Value.slice.injEq, and_true, true_and] at he
  obtain ⟨⟨rfl, rfl, rfl⟩, rfl⟩ := he
  refine bsp_dec.2 ⟨fun hlt => ?_, fun hge => ?_⟩
  · obtain ⟨c, hc⟩ := idx_ex (l := cases) (i := i) (by omega)
    obtain ⟨b, o, rfl⟩ := hB.cons.someE h (by omega) (by decide)
    obtain ⟨k0, k0', k1, k2, k3, k4⟩ := hok c (List.mem_of_getElem? hc)
    have e := enTo_succ (cs := cs) hc
    have hlen := enTo_len cases cs i
    obtain ⟨way, ch, reg⟩ := c
    dsimp only at k0 k0' k1 k2 k3 k4
    obtain ⟨q, rfl⟩ := Int.eq_ofNat_of_zero_le k1
    obtain ⟨x, hxq⟩ := idx_ex (l := cs) (i := q) (by omega)
    obtain ⟨r, hrq⟩ := idx_ex (l := xs) (i := q) (by rw [hx.1]; omega)
    obtain ⟨A0, ca0, B0, cb0, D0, cd0, rfl, q1, q2, q3⟩ := (hx.2 q r x hrq hxq).eq
    obtain ⟨s1, s2, s3⟩ := hs x (List.mem_of_getElem? hxq)
    obtain ⟨b2, o2, rfl⟩ := hA.cons.someE h (by rw [hx.1]; omega) (by decide)
    repeat (first | (refine s_nwc h ?_; clear h; intro kb M h) | (refine s_stc h ?_; clear h; intro M h) | refine t_exI h ?_ | refine t_exB h ?_ | refine t_exS h ?_ | refine t_exP h ?_ | refine t_exSl h ?_ | refine t_exV h ?_ | refine u_exI ?_ | refine u_exB ?_ | refine u_exS ?_ | refine u_exP ?_ | refine u_exSl ?_ | refine u_exV ?_ | refine u_nilc ?_ | (apply Exists.intro; (repeat apply Exists.intro); refine And.intro rfl ?_) | (refine And.intro ?_ ?_; first | exact trivial | exact rfl | exact t_ld h | (refine lds_s (t_ld h) ?_; (repeat (refine lds_s (t_ld h) ?_)); exact lds_nil) | omega) | refine u_bspT ?_ | refine u_bspF ?_)
    simp only [Int.toNat_natCast]
    refine v_exI (hB.cons.at h (i := i) (j := 0) hc rfl rfl) ?_
    refine v_exI (hB.cons.at h (i := i) (j := 1) hc rfl rfl) ?_
    refine v_exI (hB.cons.at h (i := i) (j := 2) hc rfl rfl) ?_
    dsimp only
    repeat (first | (refine s_nwc h ?_; clear h; intro kb M h) | (refine s_stc h ?_; clear h; intro M h) | refine t_exI h ?_ | refine t_exB h ?_ | refine t_exS h ?_ | refine t_exP h ?_ | refine t_exSl h ?_ | refine t_exV h ?_ | refine u_exI ?_ | refine u_exB ?_ | refine u_exS ?_ | refine u_exP ?_ | refine u_exSl ?_ | refine u_exV ?_ | refine u_nilc ?_ | (apply Exists.intro; (repeat apply Exists.intro); refine And.intro rfl ?_) | (refine And.intro ?_ ?_; first | exact trivial | exact rfl | exact t_ld h | (refine lds_s (t_ld h) ?_; (repeat (refine lds_s (t_ld h) ?_)); exact lds_nil) | omega) | refine u_bspT ?_ | refine u_bspF ?_)
    refine bsp_eq.2 ⟨fun hw => ?_, fun hw => ?_⟩
    · have hcan : can cs ⟨way, (q : Int), reg⟩ = false := by simp [can, hw]
      rw [hcan] at e
      simp only [Bool.false_eq_true, if_false, List.append_nil] at e
      rw [wrap_succ (by omega)]
      refine ⟨cases.length - (i + 1), by omega, i + 1, X, cx, by rw [e], rfl, by omega, ?_⟩
      rw [e]; exact h.fin0
    have hcan := can_iff (reg := reg) hxq k0 (by omega)
    repeat (first | (refine s_nwc h ?_; clear h; intro kb M h) | (refine s_stc h ?_; clear h; intro M h) | refine t_exI h ?_ | refine t_exB h ?_ | refine t_exS h ?_ | refine t_exP h ?_ | refine t_exSl h ?_ | refine t_exV h ?_ | refine u_exI ?_ | refine u_exB ?_ | refine u_exS ?_ | refine u_exP ?_ | refine u_exSl ?_ | refine u_exV ?_ | refine u_nilc ?_ | (apply Exists.intro; (repeat apply Exists.intro); refine And.intro rfl ?_) | (refine And.intro ?_ ?_; first | exact trivial | exact rfl | exact t_ld h | (refine lds_s (t_ld h) ?_; (repeat (refine lds_s (t_ld h) ?_)); exact lds_nil) | omega) | refine u_bspT ?_ | refine u_bspF ?_)
    simp only [Int.toNat_natCast]
    refine v_exI (hA.cons.cons.at h (i := q) (j := 0) hrq rfl rfl) ?_
    refine v_exSl (hA.cons.cons.at h (i := q) (j := 1) hrq rfl rfl) ?_
    refine v_exSl (hA.cons.cons.at h (i := q) (j := 2) hrq rfl rfl) ?_
    refine v_exSl (hA.cons.cons.at h (i := q) (j := 3) hrq rfl rfl) ?_
    refine v_exB (hA.cons.cons.at h (i := q) (j := 4) hrq rfl rfl) ?_
    dsimp only
    repeat (first | (refine s_nwc h ?_; clear h; intro kb M h) | (refine s_stc h ?_; clear h; intro M h) | refine t_exI h ?_ | refine t_exB h ?_ | refine t_exS h ?_ | refine t_exP h ?_ | refine t_exSl h ?_ | refine t_exV h ?_ | refine u_exI ?_ | refine u_exB ?_ | refine u_exS ?_ | refine u_exP ?_ | refine u_exSl ?_ | refine u_exV ?_ | refine u_nilc ?_ | (apply Exists.intro; (repeat apply Exists.intro); refine And.intro rfl ?_) | (refine And.intro ?_ ?_; first | exact trivial | exact rfl | exact t_ld h | (refine lds_s (t_ld h) ?_; (repeat (refine lds_s (t_ld h) ?_)); exact lds_nil) | omega) | refine u_bspT ?_ | refine u_bspF ?_)
    have hwr : IntKind.wrap .i64 (((x.snd.length : Nat) : Int) + ((x.buf.length : Nat) : Int)) = ((x.snd.length : Nat) : Int) + ((x.buf.length : Nat) : Int) := wrap_in (by omega) (by omega)
    repeat' (first | (refine bsp_iff.2 ⟨fun _ => ?_, fun _ => ?_⟩) | (refine s_nwc h ?_; clear h; intro kb M h) | (refine s_stc h ?_; clear h; intro M h) | refine t_exI h ?_ | refine t_exB h ?_ | refine t_exS h ?_ | refine t_exP h ?_ | refine t_exSl h ?_ | refine t_exV h ?_ | refine u_exI ?_ | refine u_exB ?_ | refine u_exS ?_ | refine u_exP ?_ | refine u_exSl ?_ | refine u_exV ?_ | refine u_nilc ?_ | (apply Exists.intro; (repeat apply Exists.intro); refine And.intro rfl ?_) | (refine And.intro ?_ ?_; first | exact trivial | exact rfl | exact t_ld h | (refine lds_s (t_ld h) ?_; (repeat (refine lds_s (t_ld h) ?_)); exact lds_nil) | omega) | refine u_bspT ?_ | refine u_bspF ?_)
    all_goals simp only [hwr, beq_iff_eq, beq_eq_false_iff_ne, decide_eq_true_eq, decide_eq_false_iff_not] at *
    all_goals first
      | (have hc1 : can cs ⟨way, (q : Int), reg⟩ = true := hcan.2 (by first | exact .inl ‹_› | exact .inr (.inl ⟨‹_›, by omega⟩) | exact .inr (.inr ⟨‹_›, by omega⟩))
         rw [if_pos hc1] at e
         refine h.rowAppend1 el_int [(i : Int)] rfl rfl (by simp; omega) ?_
         clear h; intro A' c' M h
         refine u_exSl ?_
         rw [wrap_succ (by omega)]
         rw [← e] at h
         refine ⟨cases.length - (i + 1), by omega, i + 1, A', c', ?_, rfl, by omega, h.fin1⟩
         rw [e])
      | (have hc1 : ¬ can cs ⟨way, (q : Int), reg⟩ = true := fun hh => by
           rcases hcan.1 hh with h1 | h1 | h1
           · simp_all
           · omega
           · omega
         rw [if_neg hc1, List.append_nil] at e
         rw [wrap_succ (by omega)]
         refine ⟨cases.length - (i + 1), by omega, i + 1, X, cx, by rw [e], rfl, by omega, ?_⟩
         rw [e]; exact h.fin0)
  · obtain rfl : i = cases.length := by omega
    exact k _ _ _ h

theorem el_rc : ElemOk Try.prog 113 91 5 88 [.int .i64 0, .slice none 0 0, .slice none 0 0, .slice none 0 0, .bool false] := ElemOk.mk' (zv := .agg #[.int .i64 0, .slice none 0 0, .slice none 0 0, .slice none 0 0, .bool false]) (by kernel_rfl) (by kernel_rfl) rfl (by omega)
/-- A channel of the document's is put into a row. -/
theorem s_rc {b o T c q : Nat} {r r' : RC} {G : Mem → Prop} (h : Hp R L M) [hp : RowAt (some ⟨b, 0, none⟩) L RC rcE T c xs L'] (hi : xs[q]? = some r) (e : o = q * 5)
    (k : ∀ M', Hp R (rowP rcE T (some ⟨b, 0, none⟩) c (xs.set q r') :: L') M' → G M') :
    stc M ⟨b, o, none⟩ (.int .i64 r'.room) fun M => stc M ⟨b, o + 1, none⟩ (.slice r'.A r'.na r'.ca) fun M => stc M ⟨b, o + 2, none⟩ (.slice r'.B r'.nb r'.cb) fun M =>
    stc M ⟨b, o + 3, none⟩ (.slice r'.D r'.nd r'.cd) fun M => stc M ⟨b, o + 4, none⟩ (.bool r'.closed) fun M => G M := by
  subst e
  have hl := (List.getElem?_eq_some_iff.1 hi).1
  refine s_row q 0 h hi (by decide) (a' := { r with room := r'.room }) rfl rfl fun M1 h1 => ?_
  refine s_row q 1 h1 (a := { r with room := r'.room }) (by simp [hl]) (by decide) (a' := { r with room := r'.room, A := r'.A, na := r'.na, ca := r'.ca }) rfl rfl fun M2 h2 => ?_
  refine s_row q 2 h2 (a := { r with room := r'.room, A := r'.A, na := r'.na, ca := r'.ca }) (by simp [hl]) (by decide) (a' := { r with room := r'.room, A := r'.A, na := r'.na, ca := r'.ca, B := r'.B, nb := r'.nb, cb := r'.cb }) rfl rfl fun M3 h3 => ?_
  refine s_row q 3 h3 (a := { r with room := r'.room, A := r'.A, na := r'.na, ca := r'.ca, B := r'.B, nb := r'.nb, cb := r'.cb }) (by simp [hl]) (by decide) (a' := { r' with closed := r.closed }) rfl rfl fun M4 h4 => ?_
  refine s_row q 4 h4 (a := { r' with closed := r.closed }) (by simp [hl]) (by decide) (a' := r') rfl rfl fun M5 h5 => ?_
  simp only [List.set_set] at h5
  exact k _ h5

theorem ref15_Leave {g : Int} {A : Option Addr} {n ca : Nat} (h : Hp R L M) (hA : RS rcE R A ca xs) (hx : RCs R xs cs) (hn : n = cs.length) (hb : cs.length ≤ 1000000) (hs : ∀ c ∈ cs, c.Small 1000000000)
    (k : ∀ R' X cx xs' M', R.le R' → Hp R' (rowP rcE 91 X cx xs' :: L) M' → RCs R' xs' (cs.map (·.drop g)) → K (.slice X cs.length cx) M') :
    ACalls Try.prog 73 #[.int .i64 g, .slice A n ca] M K Kp := by
  subst hn
  refine vc_shunterref15_Leave ?_
  repeat (first | (refine s_nwc h ?_; clear h; intro kb M h) | (refine s_stc h ?_; clear h; intro M h) | refine t_exI h ?_ | refine t_exB h ?_ | refine t_exS h ?_ | refine t_exP h ?_ | refine t_exSl h ?_ | refine t_exV h ?_ | refine u_exI ?_ | refine u_exB ?_ | refine u_exS ?_ | refine u_exP ?_ | refine u_exSl ?_ | refine u_exV ?_ | refine u_nilc ?_ | (apply Exists.intro; (repeat apply Exists.intro); refine And.intro rfl ?_) | (refine And.intro ?_ ?_; first | exact trivial | exact rfl | exact t_ld h | (refine lds_s (t_ld h) ?_; (repeat (refine lds_s (t_ld h) ?_)); exact lds_nil) | omega) | refine u_bspT ?_ | refine u_bspF ?_)
  replace h := (h.pt kb).row_pt (E := rcE) (l := []) rfl
  refine ⟨fun d ws M => ∃ (R' : Mem) (i : Nat) (X : Option Addr) (cx : Nat) (ys : List RC), ws = [.slice X ys.length cx, .int .i64 (i : Int)] ∧ d = cs.length - i ∧ i ≤ cs.length ∧ R.le R' ∧ RCs R' ys ((cs.take i).map (·.drop g)) ∧ Hp R' (rowP rcE 91 X cx ys :: L) M,
    ⟨_, R, 0, _, _, [], rfl, rfl, by omega, Mem.le_refl R, RCs.nil R, h⟩, ?_⟩
  clear h
  rintro d _ X n1 cx ii M ⟨R1, i, _, _, ys, he, hd, hi, g1, hy, h⟩
  simp only [List.cons.injEq, Value.int.injEq, Value.slice.injEq, and_true, true_and] at he
  obtain ⟨⟨rfl, rfl, rfl⟩, rfl⟩ := he
  have hyl : ys.length = i := by rw [hy.1]; simp; omega
  refine bsp_dec.2 ⟨fun hlt => ?_, fun hge => ?_⟩
  · obtain ⟨x, hxq⟩ := idx_ex (l := cs) (i := i) (by omega)
    obtain ⟨r, hrq⟩ := idx_ex (l := xs) (i := i) (by rw [hx.1]; omega)
    have hr1 := (hx.2 i r x hrq hxq).le g1
    obtain ⟨b2, o2, rfl⟩ := hA.some (by rw [hx.1]; omega) (by decide)
    have sr : ∀ L, Src R1 L (some ⟨b2, o2, none⟩) (rcE.cells xs) := fun L => (hA.le g1).src
    repeat (first | (refine s_nwc h ?_; clear h; intro kb M h) | (refine s_stc h ?_; clear h; intro M h) | refine t_exI h ?_ | refine t_exB h ?_ | refine t_exS h ?_ | refine t_exP h ?_ | refine t_exSl h ?_ | refine t_exV h ?_ | refine u_exI ?_ | refine u_exB ?_ | refine u_exS ?_ | refine u_exP ?_ | refine u_exSl ?_ | refine u_exV ?_ | refine u_nilc ?_ | (apply Exists.intro; (repeat apply Exists.intro); refine And.intro rfl ?_) | (refine And.intro ?_ ?_; first | exact trivial | exact rfl | exact t_ld h | (refine lds_s (t_ld h) ?_; (repeat (refine lds_s (t_ld h) ?_)); exact lds_nil) | omega) | refine u_bspT ?_ | refine u_bspF ?_)
    simp only [Int.toNat_natCast]
    refine v_exI ((sr _).at h (i := i) (j := 0) hrq rfl rfl) ?_
    refine v_exSl ((sr _).at h (i := i) (j := 1) hrq rfl rfl) ?_
    refine v_exSl ((sr _).at h (i := i) (j := 2) hrq rfl rfl) ?_
    refine v_exSl ((sr _).at h (i := i) (j := 3) hrq rfl rfl) ?_
    refine v_exB ((sr _).at h (i := i) (j := 4) hrq rfl rfl) ?_
    repeat (first | (refine s_nwc h ?_; clear h; intro kb M h) | (refine s_stc h ?_; clear h; intro M h) | refine t_exI h ?_ | refine t_exB h ?_ | refine t_exS h ?_ | refine t_exP h ?_ | refine t_exSl h ?_ | refine t_exV h ?_ | refine u_exI ?_ | refine u_exB ?_ | refine u_exS ?_ | refine u_exP ?_ | refine u_exSl ?_ | refine u_exV ?_ | refine u_nilc ?_ | (apply Exists.intro; (repeat apply Exists.intro); refine And.intro rfl ?_) | (refine And.intro ?_ ?_; first | exact trivial | exact rfl | exact t_ld h | (refine lds_s (t_ld h) ?_; (repeat (refine lds_s (t_ld h) ?_)); exact lds_nil) | omega) | refine u_bspT ?_ | refine u_bspF ?_)
    refine ref13_Drop (g := g) h hr1 (hs x (List.mem_of_getElem? hxq)) ?_
    clear h
    intro R2 vs' M g2 h hr2
    obtain ⟨r2, rfl, hr3⟩ := hr2.rc
    repeat (first | (refine s_nwc h ?_; clear h; intro kb M h) | (refine s_stc h ?_; clear h; intro M h) | refine t_exI h ?_ | refine t_exB h ?_ | refine t_exS h ?_ | refine t_exP h ?_ | refine t_exSl h ?_ | refine t_exV h ?_ | refine u_exI ?_ | refine u_exB ?_ | refine u_exS ?_ | refine u_exP ?_ | refine u_exSl ?_ | refine u_exV ?_ | refine u_nilc ?_ | (apply Exists.intro; (repeat apply Exists.intro); refine And.intro rfl ?_) | (refine And.intro ?_ ?_; first | exact trivial | exact rfl | exact t_ld h | (refine lds_s (t_ld h) ?_; (repeat (refine lds_s (t_ld h) ?_)); exact lds_nil) | omega) | refine u_bspT ?_ | refine u_bspF ?_)
    refine h.rowAppend1 el_rc [r2] rfl rfl (by simp; omega) ?_
    clear h
    intro A' c' M h
    repeat (first | (refine s_nwc h ?_; clear h; intro kb M h) | (refine s_stc h ?_; clear h; intro M h) | refine t_exI h ?_ | refine t_exB h ?_ | refine t_exS h ?_ | refine t_exP h ?_ | refine t_exSl h ?_ | refine t_exV h ?_ | refine u_exI ?_ | refine u_exB ?_ | refine u_exS ?_ | refine u_exP ?_ | refine u_exSl ?_ | refine u_exV ?_ | refine u_nilc ?_ | (apply Exists.intro; (repeat apply Exists.intro); refine And.intro rfl ?_) | (refine And.intro ?_ ?_; first | exact trivial | exact rfl | exact t_ld h | (refine lds_s (t_ld h) ?_; (repeat (refine lds_s (t_ld h) ?_)); exact lds_nil) | omega) | refine u_bspT ?_ | refine u_bspF ?_)
    rw [wrap_succ (by omega)]
    refine ⟨cs.length - (i + 1), by omega, R2, i + 1, A', c', ys ++ [r2], ?_, rfl, by omega, Mem.le_trans g1 g2, ?_, h.fin1⟩
    · simp
    · rw [take_snoc hxq, List.map_append]
      exact (hy.le g2).snoc hr3
  · obtain rfl : i = cs.length := by omega
    rw [hyl]
    rw [List.take_length] at hy
    exact k _ _ _ _ _ g1 h hy

theorem ref15_Wait {g x0 x1 x2 x3 x4 x5 x6 x7 : Int} {B A : Option Addr} {m cc n ca : Nat} {cases : List Cas} (h : Hp R L M) (hB : RS casE R B cc cases) (hA : RS rcE R A ca xs) (hx : RCs R xs cs) (hm : m = cases.length) (hn : n = cs.length)
    (hb : cases.length ≤ 1000000) (hb2 : cs.length ≤ 1000000) (hok : ∀ c ∈ cases, c.Ok cs.length) (hs : ∀ c ∈ cs, c.Small 1000000)
    (k : ∀ R' X cx xs' M', R.le R' → Hp R' (rowP rcE 91 X cx xs' :: L) M' → RCs R' xs' (waitTo g [x0, x1, x2, x3, x4, x5, x6, x7] cases cs cases.length) → K (.slice X cs.length cx) M') :
    ACalls Try.prog 71 #[.int .i64 g, .slice B m cc, .agg #[.int .i64 x0, .int .i64 x1, .int .i64 x2, .int .i64 x3, .int .i64 x4, .int .i64 x5, .int .i64 x6, .int .i64 x7], .slice A n ca] M K Kp := by
  subst hm
  subst hn
  generalize hregs : [x0, x1, x2, x3, x4, x5, x6, x7] = regs at k
  refine vc_shunterref15_Wait ?_
  have hlx := hx.1
  repeat (first | (refine s_nwc h ?_; clear h; intro kb M h) | (refine s_stc h ?_; clear h; intro M h) | refine t_exI h ?_ | refine t_exB h ?_ | refine t_exS h ?_ | refine t_exP h ?_ | refine t_exSl h ?_ | refine t_exV h ?_ | refine u_exI ?_ | refine u_exB ?_ | refine u_exS ?_ | refine u_exP ?_ | refine u_exSl ?_ | refine u_exV ?_ | refine u_nilc ?_ | (apply Exists.intro; (repeat apply Exists.intro); refine And.intro rfl ?_) | (refine And.intro ?_ ?_; first | exact trivial | exact rfl | exact t_ld h | (refine lds_s (t_ld h) ?_; (repeat (refine lds_s (t_ld h) ?_)); exact lds_nil) | omega) | refine u_bspT ?_ | refine u_bspF ?_)
  rename_i kr _
  refine h.rowCopy rcE el_rc xs (hA.src) hlx.symm (by omega) ?_
  clear h
  intro A1 c1 M h
  rw [hlx]
  repeat (first | (refine s_nwc h ?_; clear h; intro kb M h) | (refine s_stc h ?_; clear h; intro M h) | refine t_exI h ?_ | refine t_exB h ?_ | refine t_exS h ?_ | refine t_exP h ?_ | refine t_exSl h ?_ | refine t_exV h ?_ | refine u_exI ?_ | refine u_exB ?_ | refine u_exS ?_ | refine u_exP ?_ | refine u_exSl ?_ | refine u_exV ?_ | refine u_nilc ?_ | (apply Exists.intro; (repeat apply Exists.intro); refine And.intro rfl ?_) | (refine And.intro ?_ ?_; first | exact trivial | exact rfl | exact t_ld h | (refine lds_s (t_ld h) ?_; (repeat (refine lds_s (t_ld h) ?_)); exact lds_nil) | omega) | refine u_bspT ?_ | refine u_bspF ?_)
  refine ⟨fun d ws M => ∃ (R' : Mem) (i : Nat) (ys : List RC), ws = [.int .i64 (i : Int)] ∧ d = cases.length - i ∧ i ≤ cases.length ∧ R.le R' ∧ RCs R' ys (waitTo g regs cases cs i) ∧ Hp R' (rowP rcE 91 A1 c1 ys :: pt kr [.int .i64 x0, .int .i64 x1, .int .i64 x2, .int .i64 x3, .int .i64 x4, .int .i64 x5, .int .i64 x6, .int .i64 x7] 111 :: L) M,
    ⟨_, R, 0, xs, rfl, rfl, by omega, Mem.le_refl R, hx, h⟩, ?_⟩
  clear h
  rintro d _ ii M ⟨R1, i, ys, he, hd, hi, g1, hy, h⟩
  simp only [List.cons.injEq, Value.int.injEq, and_true, true_and] at he
  subst he
  have hlen := waitTo_len g regs cases cs i
  refine bsp_dec.2 ⟨fun hlt => ?_, fun hge => ?_⟩
  · obtain ⟨c, hc⟩ := idx_ex (l := cases) (i := i) (by omega)
    obtain ⟨k0, k0', k1, k2, k3, k4⟩ := hok c (List.mem_of_getElem? hc)
    have hsm := waitTo_small (g := g) (regs := regs) hs hok i
    have e : waitTo g regs cases cs (i + 1) = waitOne g regs i c (waitTo g regs cases cs i) := by rw [waitTo, hc]
    generalize hw : waitTo g regs cases cs i = ws at hy hlen hsm e
    obtain ⟨way, ch, reg⟩ := c
    dsimp only at k0 k0' k1 k2 k3 k4
    obtain ⟨q, rfl⟩ := Int.eq_ofNat_of_zero_le k1
    obtain ⟨q2, rfl⟩ := Int.eq_ofNat_of_zero_le k3
    obtain ⟨x, hxq⟩ := idx_ex (l := ws) (i := q) (by omega)
    obtain ⟨r, hrq⟩ := idx_ex (l := ys) (i := q) (by rw [hy.1]; omega)
    obtain ⟨v, hv⟩ := idx_ex (l := regs) (i := q2) (by rw [← hregs]; simp; omega)
    have hxx : chAt ws (q : Int) = x := by simp [chAt, hxq]
    have hvv : regs.getD q2 0 = v := by simp [hv]
    obtain ⟨s1, s2, s3⟩ := hsm x (List.mem_of_getElem? hxq)
    simp only [waitOne, hxx, Int.toNat_natCast, hvv] at e
    obtain ⟨A0, ca0, B0, cb0, D0, cd0, hre, p1, p2, p3⟩ := (hy.2 q r x hrq hxq).eq
    obtain ⟨b2, o2, rfl⟩ := hB.some (by omega) (by decide)
    have sr : ∀ L, Src R1 L (some ⟨b2, o2, none⟩) (casE.cells cases) := fun L => (hB.le g1).src
    obtain ⟨b3, rfl⟩ := h.row_some (A := A1) (by rw [hy.1]; omega) (by decide)
    repeat (first | (refine s_nwc h ?_; clear h; intro kb M h) | (refine s_stc h ?_; clear h; intro M h) | refine t_exI h ?_ | refine t_exB h ?_ | refine t_exS h ?_ | refine t_exP h ?_ | refine t_exSl h ?_ | refine t_exV h ?_ | refine u_exI ?_ | refine u_exB ?_ | refine u_exS ?_ | refine u_exP ?_ | refine u_exSl ?_ | refine u_exV ?_ | refine u_nilc ?_ | (apply Exists.intro; (repeat apply Exists.intro); refine And.intro rfl ?_) | (refine And.intro ?_ ?_; first | exact trivial | exact rfl | exact t_ld h | (refine lds_s (t_ld h) ?_; (repeat (refine lds_s (t_ld h) ?_)); exact lds_nil) | omega) | refine u_bspT ?_ | refine u_bspF ?_)
    simp only [Int.toNat_natCast]
    refine v_exI ((sr _).at h (i := i) (j := 0) hc rfl rfl) ?_
    refine v_exI ((sr _).at h (i := i) (j := 1) hc rfl rfl) ?_
    refine v_exI ((sr _).at h (i := i) (j := 2) hc rfl rfl) ?_
    dsimp only
    repeat (first | (refine s_nwc h ?_; clear h; intro kb M h) | (refine s_stc h ?_; clear h; intro M h) | refine t_exI h ?_ | refine t_exB h ?_ | refine t_exS h ?_ | refine t_exP h ?_ | refine t_exSl h ?_ | refine t_exV h ?_ | refine u_exI ?_ | refine u_exB ?_ | refine u_exS ?_ | refine u_exP ?_ | refine u_exSl ?_ | refine u_exV ?_ | refine u_nilc ?_ | (apply Exists.intro; (repeat apply Exists.intro); refine And.intro rfl ?_) | (refine And.intro ?_ ?_; first | exact trivial | exact rfl | exact t_ld h | (refine lds_s (t_ld h) ?_; (repeat (refine lds_s (t_ld h) ?_)); exact lds_nil) | omega) | refine u_bspT ?_ | refine u_bspF ?_)
    refine bsp_eq.2 ⟨fun hw2 => ?_, fun hw2 => ?_⟩
    · rw [if_neg (by omega), if_neg (by omega)] at e
      rw [wrap_succ (by omega)]
      refine ⟨cases.length - (i + 1), by omega, R1, i + 1, ys, rfl, rfl, by omega, g1, by rw [e]; exact hy, h.fin0⟩
    have hyl := hy.1
    have s0 := h.src (A := some ⟨b3, 0, none⟩)
    subst hre
    repeat (first | (refine s_nwc h ?_; clear h; intro kb M h) | (refine s_stc h ?_; clear h; intro M h) | refine t_exI h ?_ | refine t_exB h ?_ | refine t_exS h ?_ | refine t_exP h ?_ | refine t_exSl h ?_ | refine t_exV h ?_ | refine u_exI ?_ | refine u_exB ?_ | refine u_exS ?_ | refine u_exP ?_ | refine u_exSl ?_ | refine u_exV ?_ | refine u_nilc ?_ | (apply Exists.intro; (repeat apply Exists.intro); refine And.intro rfl ?_) | (refine And.intro ?_ ?_; first | exact trivial | exact rfl | exact t_ld h | (refine lds_s (t_ld h) ?_; (repeat (refine lds_s (t_ld h) ?_)); exact lds_nil) | omega) | refine u_bspT ?_ | refine u_bspF ?_)
    simp only [Int.toNat_natCast]
    refine v_exI (s0.at h (i := q) (j := 0) hrq rfl rfl) ?_
    refine v_exSl (s0.at h (i := q) (j := 1) hrq rfl rfl) ?_
    refine v_exSl (s0.at h (i := q) (j := 2) hrq rfl rfl) ?_
    refine v_exSl (s0.at h (i := q) (j := 3) hrq rfl rfl) ?_
    refine v_exB (s0.at h (i := q) (j := 4) hrq rfl rfl) ?_
    dsimp only
    repeat (first | (refine s_nwc h ?_; clear h; intro kb M h) | (refine s_stc h ?_; clear h; intro M h) | refine t_exI h ?_ | refine t_exB h ?_ | refine t_exS h ?_ | refine t_exP h ?_ | refine t_exSl h ?_ | refine t_exV h ?_ | refine u_exI ?_ | refine u_exB ?_ | refine u_exS ?_ | refine u_exP ?_ | refine u_exSl ?_ | refine u_exV ?_ | refine u_nilc ?_ | (apply Exists.intro; (repeat apply Exists.intro); refine And.intro rfl ?_) | (refine And.intro ?_ ?_; first | exact trivial | exact rfl | exact t_ld h | (refine lds_s (t_ld h) ?_; (repeat (refine lds_s (t_ld h) ?_)); exact lds_nil) | omega) | refine u_bspT ?_ | refine u_bspF ?_)
    refine bsp_eq.2 ⟨fun hw0 => ?_, fun hw0 => ?_⟩
    · rw [if_pos hw0] at e
      repeat (first | (refine s_nwc h ?_; clear h; intro kb M h) | (refine s_stc h ?_; clear h; intro M h) | refine t_exI h ?_ | refine t_exB h ?_ | refine t_exS h ?_ | refine t_exP h ?_ | refine t_exSl h ?_ | refine t_exV h ?_ | refine u_exI ?_ | refine u_exB ?_ | refine u_exS ?_ | refine u_exP ?_ | refine u_exSl ?_ | refine u_exV ?_ | refine u_nilc ?_ | (apply Exists.intro; (repeat apply Exists.intro); refine And.intro rfl ?_) | (refine And.intro ?_ ?_; first | exact trivial | exact rfl | exact t_ld h | (refine lds_s (t_ld h) ?_; (repeat (refine lds_s (t_ld h) ?_)); exact lds_nil) | omega) | refine u_bspT ?_ | refine u_bspF ?_)
      refine h.rowCopy waitE el_rwait x.rcv p3.src rfl (by omega) ?_
      clear h
      intro A2 c2 M h
      repeat (first | (refine s_nwc h ?_; clear h; intro kb M h) | (refine s_stc h ?_; clear h; intro M h) | refine t_exI h ?_ | refine t_exB h ?_ | refine t_exS h ?_ | refine t_exP h ?_ | refine t_exSl h ?_ | refine t_exV h ?_ | refine u_exI ?_ | refine u_exB ?_ | refine u_exS ?_ | refine u_exP ?_ | refine u_exSl ?_ | refine u_exV ?_ | refine u_nilc ?_ | (apply Exists.intro; (repeat apply Exists.intro); refine And.intro rfl ?_) | (refine And.intro ?_ ?_; first | exact trivial | exact rfl | exact t_ld h | (refine lds_s (t_ld h) ?_; (repeat (refine lds_s (t_ld h) ?_)); exact lds_nil) | omega) | refine u_bspT ?_ | refine u_bspF ?_)
      refine h.rowAppend1 el_rwait [⟨g, i, 0⟩] rfl rfl (by simp; omega) ?_
      clear h
      intro A2 c2 M h
      repeat (first | (refine s_nwc h ?_; clear h; intro kb M h) | (refine s_stc h ?_; clear h; intro M h) | refine t_exI h ?_ | refine t_exB h ?_ | refine t_exS h ?_ | refine t_exP h ?_ | refine t_exSl h ?_ | refine t_exV h ?_ | refine u_exI ?_ | refine u_exB ?_ | refine u_exS ?_ | refine u_exP ?_ | refine u_exSl ?_ | refine u_exV ?_ | refine u_nilc ?_ | (apply Exists.intro; (repeat apply Exists.intro); refine And.intro rfl ?_) | (refine And.intro ?_ ?_; first | exact trivial | exact rfl | exact t_ld h | (refine lds_s (t_ld h) ?_; (repeat (refine lds_s (t_ld h) ?_)); exact lds_nil) | omega) | refine u_bspT ?_ | refine u_bspF ?_)
      simp only [Int.toNat_natCast]
      obtain ⟨R2, g2, p4, h⟩ := h.sealRow A2
      refine s_rc (q := q) (r' := ⟨x.room, A0, x.buf.length, ca0, B0, x.snd.length, cb0, A2, (x.rcv ++ ([⟨g, (i : Int), 0⟩] : List Wt)).length, c2, x.closed⟩) h hrq (by omega) ?_
      clear h; intro M h
      rw [wrap_succ (by omega)]
      refine ⟨cases.length - (i + 1), by omega, R2, i + 1, _, rfl, rfl, by omega, Mem.le_trans g1 g2, ?_, h.fin1⟩
      rw [e]
      exact (hy.le g2).set q ⟨_, _, _, _, _, _, rfl, p1.le g2, p2.le g2, p4⟩
    · rw [if_neg hw0, if_pos (by omega)] at e
      repeat (first | (refine s_nwc h ?_; clear h; intro kb M h) | (refine s_stc h ?_; clear h; intro M h) | refine t_exI h ?_ | refine t_exB h ?_ | refine t_exS h ?_ | refine t_exP h ?_ | refine t_exSl h ?_ | refine t_exV h ?_ | refine u_exI ?_ | refine u_exB ?_ | refine u_exS ?_ | refine u_exP ?_ | refine u_exSl ?_ | refine u_exV ?_ | refine u_nilc ?_ | (apply Exists.intro; (repeat apply Exists.intro); refine And.intro rfl ?_) | (refine And.intro ?_ ?_; first | exact trivial | exact rfl | exact t_ld h | (refine lds_s (t_ld h) ?_; (repeat (refine lds_s (t_ld h) ?_)); exact lds_nil) | omega) | refine u_bspT ?_ | refine u_bspF ?_)
      refine v_exI ((show Src R1 _ (some ⟨kr, 0, none⟩) (intE.cells regs) from by rw [← hregs]; exact Src.pt (by first | exact Pick.here | exact (.there .here) | exact (.there (.there .here)) | exact (.there (.there (.there .here))) | exact (.there (.there (.there (.there .here)))) | exact (.there (.there (.there (.there (.there .here))))) | exact (.there (.there (.there (.there (.there (.there .here)))))) | exact (.there (.there (.there (.there (.there (.there (.there .here))))))) | exact (.there (.there (.there (.there (.there (.there (.there (.there .here)))))))) | exact (.there (.there (.there (.there (.there (.there (.there (.there (.there .here))))))))) | exact (.there (.there (.there (.there (.there (.there (.there (.there (.there (.there .here)))))))))) | exact (.there (.there (.there (.there (.there (.there (.there (.there (.there (.there (.there .here))))))))))) | exact (.there (.there (.there (.there (.there (.there (.there (.there (.there (.there (.there (.there .here)))))))))))) | exact (.there (.there (.there (.there (.there (.there (.there (.there (.there (.there (.there (.there (.there .here))))))))))))) | exact (.there (.there (.there (.there (.there (.there (.there (.there (.there (.there (.there (.there (.there (.there .here)))))))))))))) | exact (.there (.there (.there (.there (.there (.there (.there (.there (.there (.there (.there (.there (.there (.there (.there .here))))))))))))))))).at h (i := q2) (j := 0) hv rfl (by simp [intE])) ?_
      repeat (first | (refine s_nwc h ?_; clear h; intro kb M h) | (refine s_stc h ?_; clear h; intro M h) | refine t_exI h ?_ | refine t_exB h ?_ | refine t_exS h ?_ | refine t_exP h ?_ | refine t_exSl h ?_ | refine t_exV h ?_ | refine u_exI ?_ | refine u_exB ?_ | refine u_exS ?_ | refine u_exP ?_ | refine u_exSl ?_ | refine u_exV ?_ | refine u_nilc ?_ | (apply Exists.intro; (repeat apply Exists.intro); refine And.intro rfl ?_) | (refine And.intro ?_ ?_; first | exact trivial | exact rfl | exact t_ld h | (refine lds_s (t_ld h) ?_; (repeat (refine lds_s (t_ld h) ?_)); exact lds_nil) | omega) | refine u_bspT ?_ | refine u_bspF ?_)
      refine h.rowCopy waitE el_rwait x.snd p2.src rfl (by omega) ?_
      clear h
      intro A2 c2 M h
      repeat (first | (refine s_nwc h ?_; clear h; intro kb M h) | (refine s_stc h ?_; clear h; intro M h) | refine t_exI h ?_ | refine t_exB h ?_ | refine t_exS h ?_ | refine t_exP h ?_ | refine t_exSl h ?_ | refine t_exV h ?_ | refine u_exI ?_ | refine u_exB ?_ | refine u_exS ?_ | refine u_exP ?_ | refine u_exSl ?_ | refine u_exV ?_ | refine u_nilc ?_ | (apply Exists.intro; (repeat apply Exists.intro); refine And.intro rfl ?_) | (refine And.intro ?_ ?_; first | exact trivial | exact rfl | exact t_ld h | (refine lds_s (t_ld h) ?_; (repeat (refine lds_s (t_ld h) ?_)); exact lds_nil) | omega) | refine u_bspT ?_ | refine u_bspF ?_)
      refine And.intro ((show Src R1 _ (some ⟨kr, 0, none⟩) (intE.cells regs) from by rw [← hregs]; exact Src.pt (by first | exact Pick.here | exact (.there .here) | exact (.there (.there .here)) | exact (.there (.there (.there .here))) | exact (.there (.there (.there (.there .here)))) | exact (.there (.there (.there (.there (.there .here))))) | exact (.there (.there (.there (.there (.there (.there .here)))))) | exact (.there (.there (.there (.there (.there (.there (.there .here))))))) | exact (.there (.there (.there (.there (.there (.there (.there (.there .here)))))))) | exact (.there (.there (.there (.there (.there (.there (.there (.there (.there .here))))))))) | exact (.there (.there (.there (.there (.there (.there (.there (.there (.there (.there .here)))))))))) | exact (.there (.there (.there (.there (.there (.there (.there (.there (.there (.there (.there .here))))))))))) | exact (.there (.there (.there (.there (.there (.there (.there (.there (.there (.there (.there (.there .here)))))))))))) | exact (.there (.there (.there (.there (.there (.there (.there (.there (.there (.there (.there (.there (.there .here))))))))))))) | exact (.there (.there (.there (.there (.there (.there (.there (.there (.there (.there (.there (.there (.there (.there .here)))))))))))))) | exact (.there (.there (.there (.there (.there (.there (.there (.there (.there (.there (.there (.there (.there (.there (.there .here))))))))))))))))).at h (i := q2) (j := 0) hv rfl (by simp [intE])) ?_
      repeat (first | (refine s_nwc h ?_; clear h; intro kb M h) | (refine s_stc h ?_; clear h; intro M h) | refine t_exI h ?_ | refine t_exB h ?_ | refine t_exS h ?_ | refine t_exP h ?_ | refine t_exSl h ?_ | refine t_exV h ?_ | refine u_exI ?_ | refine u_exB ?_ | refine u_exS ?_ | refine u_exP ?_ | refine u_exSl ?_ | refine u_exV ?_ | refine u_nilc ?_ | (apply Exists.intro; (repeat apply Exists.intro); refine And.intro rfl ?_) | (refine And.intro ?_ ?_; first | exact trivial | exact rfl | exact t_ld h | (refine lds_s (t_ld h) ?_; (repeat (refine lds_s (t_ld h) ?_)); exact lds_nil) | omega) | refine u_bspT ?_ | refine u_bspF ?_)
      refine h.rowAppend1 el_rwait [⟨g, i, v⟩] rfl rfl (by simp; omega) ?_
      clear h
      intro A2 c2 M h
      repeat (first | (refine s_nwc h ?_; clear h; intro kb M h) | (refine s_stc h ?_; clear h; intro M h) | refine t_exI h ?_ | refine t_exB h ?_ | refine t_exS h ?_ | refine t_exP h ?_ | refine t_exSl h ?_ | refine t_exV h ?_ | refine u_exI ?_ | refine u_exB ?_ | refine u_exS ?_ | refine u_exP ?_ | refine u_exSl ?_ | refine u_exV ?_ | refine u_nilc ?_ | (apply Exists.intro; (repeat apply Exists.intro); refine And.intro rfl ?_) | (refine And.intro ?_ ?_; first | exact trivial | exact rfl | exact t_ld h | (refine lds_s (t_ld h) ?_; (repeat (refine lds_s (t_ld h) ?_)); exact lds_nil) | omega) | refine u_bspT ?_ | refine u_bspF ?_)
      refine And.intro ((show Src R1 _ (some ⟨kr, 0, none⟩) (intE.cells regs) from by rw [← hregs]; exact Src.pt (by first | exact Pick.here | exact (.there .here) | exact (.there (.there .here)) | exact (.there (.there (.there .here))) | exact (.there (.there (.there (.there .here)))) | exact (.there (.there (.there (.there (.there .here))))) | exact (.there (.there (.there (.there (.there (.there .here)))))) | exact (.there (.there (.there (.there (.there (.there (.there .here))))))) | exact (.there (.there (.there (.there (.there (.there (.there (.there .here)))))))) | exact (.there (.there (.there (.there (.there (.there (.there (.there (.there .here))))))))) | exact (.there (.there (.there (.there (.there (.there (.there (.there (.there (.there .here)))))))))) | exact (.there (.there (.there (.there (.there (.there (.there (.there (.there (.there (.there .here))))))))))) | exact (.there (.there (.there (.there (.there (.there (.there (.there (.there (.there (.there (.there .here)))))))))))) | exact (.there (.there (.there (.there (.there (.there (.there (.there (.there (.there (.there (.there (.there .here))))))))))))) | exact (.there (.there (.there (.there (.there (.there (.there (.there (.there (.there (.there (.there (.there (.there .here)))))))))))))) | exact (.there (.there (.there (.there (.there (.there (.there (.there (.there (.there (.there (.there (.there (.there (.there .here))))))))))))))))).at h (i := q2) (j := 0) hv rfl (by simp [intE])) ?_
      repeat (first | (refine s_nwc h ?_; clear h; intro kb M h) | (refine s_stc h ?_; clear h; intro M h) | refine t_exI h ?_ | refine t_exB h ?_ | refine t_exS h ?_ | refine t_exP h ?_ | refine t_exSl h ?_ | refine t_exV h ?_ | refine u_exI ?_ | refine u_exB ?_ | refine u_exS ?_ | refine u_exP ?_ | refine u_exSl ?_ | refine u_exV ?_ | refine u_nilc ?_ | (apply Exists.intro; (repeat apply Exists.intro); refine And.intro rfl ?_) | (refine And.intro ?_ ?_; first | exact trivial | exact rfl | exact t_ld h | (refine lds_s (t_ld h) ?_; (repeat (refine lds_s (t_ld h) ?_)); exact lds_nil) | omega) | refine u_bspT ?_ | refine u_bspF ?_)
      refine And.intro ((show Src R1 _ (some ⟨kr, 0, none⟩) (intE.cells regs) from by rw [← hregs]; exact Src.pt (by first | exact Pick.here | exact (.there .here) | exact (.there (.there .here)) | exact (.there (.there (.there .here))) | exact (.there (.there (.there (.there .here)))) | exact (.there (.there (.there (.there (.there .here))))) | exact (.there (.there (.there (.there (.there (.there .here)))))) | exact (.there (.there (.there (.there (.there (.there (.there .here))))))) | exact (.there (.there (.there (.there (.there (.there (.there (.there .here)))))))) | exact (.there (.there (.there (.there (.there (.there (.there (.there (.there .here))))))))) | exact (.there (.there (.there (.there (.there (.there (.there (.there (.there (.there .here)))))))))) | exact (.there (.there (.there (.there (.there (.there (.there (.there (.there (.there (.there .here))))))))))) | exact (.there (.there (.there (.there (.there (.there (.there (.there (.there (.there (.there (.there .here)))))))))))) | exact (.there (.there (.there (.there (.there (.there (.there (.there (.there (.there (.there (.there (.there .here))))))))))))) | exact (.there (.there (.there (.there (.there (.there (.there (.there (.there (.there (.there (.there (.there (.there .here)))))))))))))) | exact (.there (.there (.there (.there (.there (.there (.there (.there (.there (.there (.there (.there (.there (.there (.there .here))))))))))))))))).at h (i := q2) (j := 0) hv rfl (by simp [intE])) ?_
      repeat (first | (refine s_nwc h ?_; clear h; intro kb M h) | (refine s_stc h ?_; clear h; intro M h) | refine t_exI h ?_ | refine t_exB h ?_ | refine t_exS h ?_ | refine t_exP h ?_ | refine t_exSl h ?_ | refine t_exV h ?_ | refine u_exI ?_ | refine u_exB ?_ | refine u_exS ?_ | refine u_exP ?_ | refine u_exSl ?_ | refine u_exV ?_ | refine u_nilc ?_ | (apply Exists.intro; (repeat apply Exists.intro); refine And.intro rfl ?_) | (refine And.intro ?_ ?_; first | exact trivial | exact rfl | exact t_ld h | (refine lds_s (t_ld h) ?_; (repeat (refine lds_s (t_ld h) ?_)); exact lds_nil) | omega) | refine u_bspT ?_ | refine u_bspF ?_)
      simp only [Int.toNat_natCast]
      obtain ⟨R2, g2, p4, h⟩ := h.sealRow A2
      refine s_rc (q := q) (r' := ⟨x.room, A0, x.buf.length, ca0, A2, (x.snd ++ ([⟨g, (i : Int), v⟩] : List Wt)).length, c2, D0, x.rcv.length, cd0, x.closed⟩) h hrq (by omega) ?_
      clear h; intro M h
      rw [wrap_succ (by omega)]
      refine ⟨cases.length - (i + 1), by omega, R2, i + 1, _, rfl, rfl, by omega, Mem.le_trans g1 g2, ?_, h.fin1⟩
      rw [e]
      exact (hy.le g2).set q ⟨_, _, _, _, _, _, rfl, p1.le g2, p4, p3.le g2⟩
  · obtain rfl : i = cases.length := by omega
    exact k _ _ _ _ _ g1 h.fin1 hy
end
end Go.Proofs
