/- A part of proofs about functions of one program: a condition over a partial memory that is enough for a call, and what calls answer by it. No condition of its own. -/
import Derived.Test.YtfjgcljdnhkmaaaList
import Derived.Test.YtfjgcljdnhkmaaaVPicks
/- Which cases can go: the program's. -/
namespace Go.Proofs
open Go.AF
set_option linter.unusedVariables false
set_option maxRecDepth 100000
set_option maxHeartbeats 1000000
attribute [local irreducible] exI exB exS exP exSl exV nilc stc nwc semK semU bsp
structure Cas where
  way : Int
  ch : Int
  reg : Int
  deriving DecidableEq
def casE : Enc Cas := ⟨3, fun w => [.int .i64 w.way, .int .i64 w.ch, .int .i64 w.reg], fun _ => rfl, fun w v hv => by
  simp only [List.mem_cons, List.not_mem_nil, or_false] at hv; obtain rfl | rfl | rfl := hv <;> rfl⟩
/-- A case that may be, of n channels. -/
def Cas.Ok (n : Nat) (c : Cas) : Prop := 0 ≤ c.way ∧ c.way ≤ 2 ∧ 0 ≤ c.ch ∧ c.ch < n ∧ 0 ≤ c.reg ∧ c.reg < 8
def chAt (cs : List Chan) (k : Int) : Chan := cs.getD k.toNat ⟨0, [], [], [], false⟩
def can (cs : List Chan) (c : Cas) : Bool := if c.way = 0 then (chAt cs c.ch).canRecv else if c.way = 1 then (chAt cs c.ch).canSend else false
def canAt (cases : List Cas) (cs : List Chan) (j : Nat) : Bool := match cases[j]? with
  | some c => can cs c
  | none => false
def enTo (cases : List Cas) (cs : List Chan) (i : Nat) : List Int := ((List.range i).filter (canAt cases cs)).map Int.ofNat
def enabled (cases : List Cas) (cs : List Chan) : List Int := enTo cases cs cases.length
theorem enTo_len (cases : List Cas) (cs : List Chan) (i : Nat) : (enTo cases cs i).length ≤ i := by
  unfold enTo; rw [List.length_map]; exact Nat.le_trans (List.length_filter_le ..) (by simp)
theorem enTo_succ {cases : List Cas} {cs : List Chan} {i : Nat} {c : Cas} (h : cases[i]? = some c) : enTo cases cs (i + 1) = enTo cases cs i ++ (if can cs c then [(i : Int)] else []) := by
  unfold enTo
  rw [List.range_succ, List.filter_append, List.map_append]
  simp only [List.filter_cons, canAt, h, List.filter_nil]
  split <;> simp_all
def els (cases : List Cas) : Option Nat := cases.findIdx? (fun c => c.way == 2)

/-- One waits at a case's channel. -/
def waitOne (g : Int) (regs : List Int) (i : Nat) (c : Cas) (cs : List Chan) : List Chan :=
  if c.way = 0 then cs.set c.ch.toNat { chAt cs c.ch with rcv := (chAt cs c.ch).rcv ++ [⟨g, i, 0⟩] }
  else if c.way = 1 then cs.set c.ch.toNat { chAt cs c.ch with snd := (chAt cs c.ch).snd ++ [⟨g, i, regs.getD c.reg.toNat 0⟩] } else cs
def waitTo (g : Int) (regs : List Int) (cases : List Cas) (cs : List Chan) : Nat → List Chan
  | 0 => cs
  | i + 1 => match cases[i]? with
    | some c => waitOne g regs i c (waitTo g regs cases cs i)
    | none => waitTo g regs cases cs i
theorem waitOne_len (g : Int) (regs : List Int) (i : Nat) (c : Cas) (cs : List Chan) : (waitOne g regs i c cs).length = cs.length := by
  unfold waitOne; split
  · simp
  · split <;> simp
theorem waitTo_len (g : Int) (regs : List Int) (cases : List Cas) (cs : List Chan) : ∀ i, (waitTo g regs cases cs i).length = cs.length
  | 0 => rfl
  | i + 1 => by
    unfold waitTo; split
    · rw [waitOne_len, waitTo_len _ _ _ _ i]
    · exact waitTo_len _ _ _ _ i
theorem mem_set {α : Type} {l : List α} {i : Nat} {x y : α} (h : y ∈ l.set i x) : y ∈ l ∨ y = x := by
  rcases List.mem_or_eq_of_mem_set h with h | h
  · exact .inl h
  · exact .inr h
theorem chAt_mem {cs : List Chan} {k : Int} (h0 : 0 ≤ k) (h : k < cs.length) : chAt cs k ∈ cs := by
  unfold chAt; rw [List.getD_eq_getElem?_getD, List.getElem?_eq_getElem (by omega)]; exact List.getElem_mem _
theorem waitOne_small {g : Int} {regs : List Int} {i : Nat} {c : Cas} {cs : List Chan} {N : Nat} (hs : ∀ x ∈ cs, x.Small N) (hc : c.Ok cs.length) : ∀ x ∈ waitOne g regs i c cs, x.Small (N + 1) := by
  obtain ⟨_, _, k1, k2, _⟩ := hc
  have hx := hs _ (chAt_mem k1 k2)
  intro x hm
  unfold waitOne at hm
  split at hm
  · rcases mem_set hm with h | rfl
    · exact (hs x h).mono (by omega)
    · exact hx.wr _
  split at hm
  · rcases mem_set hm with h | rfl
    · exact (hs x h).mono (by omega)
    · exact hx.ws _
  · exact (hs x hm).mono (by omega)
theorem waitTo_small {g : Int} {regs : List Int} {cases : List Cas} {cs : List Chan} {N : Nat} (hs : ∀ x ∈ cs, x.Small N) (hok : ∀ c ∈ cases, c.Ok cs.length) : ∀ i, ∀ x ∈ waitTo g regs cases cs i, x.Small (N + i)
  | 0 => hs
  | i + 1 => by
    unfold waitTo; split
    · rename_i c hc
      exact waitOne_small (waitTo_small hs hok i) (by rw [waitTo_len]; exact hok c (List.mem_of_getElem? hc))
    · exact fun x hx => (waitTo_small hs hok i x hx).mono (by omega)

section
variable {R : Mem} {L L' : List HP} {M : Mem} {K : Value → Mem → Prop} {Kp : List PanicEntry → Mem → Prop} {bs : List Nat} {cs : List Chan}

theorem el_int : ElemOk Try.prog 25 3 1 8 [.int .i64 0] := ElemOk.mk' (zv := .int .i64 0) (by kernel_rfl) (by kernel_rfl) rfl (by omega)
theorem els_some {cases : List Cas} {i : Nat} {c : Cas} (hc : cases[i]? = some c) (hw : c.way = 2) (hp : ∀ j c, j < i → cases[j]? = some c → c.way ≠ 2) : els cases = some i := by
  obtain ⟨hi, e⟩ := List.getElem?_eq_some_iff.1 hc
  refine List.findIdx?_eq_some_iff_getElem.2 ⟨hi, by rw [e]; simpa using hw, fun j hj => ?_⟩
  have := hp j _ hj (List.getElem?_eq_getElem (by omega))
  simpa using this
theorem els_none {cases : List Cas} (hp : ∀ j c, j < cases.length → cases[j]? = some c → c.way ≠ 2) : els cases = none := by
  refine List.findIdx?_eq_none_iff.2 fun c hc => ?_
  obtain ⟨j, hj, e⟩ := List.getElem_of_mem hc
  have := hp j c hj (by rw [← e]; exact List.getElem?_eq_getElem hj)
  simpa using this

theorem picks_Else {B : Option Addr} {m cc : Nat} {cases : List Cas} (h : Hp R L M) (hB : Src R L B (casE.cells cases)) (hm : m = cases.length) (hb : cases.length ≤ 1000000000)
    (k : ∀ M', Hp R L M' → K (.tuple #[.int .i64 (match els cases with | some i => (i : Int) | none => 0), .bool (els cases).isSome]) M') :
    ACalls Try.prog 40 #[.slice B m cc] M K Kp := by
  subst hm
  refine vc_picks_Else ⟨fun d ws M => ∃ i : Nat, ws = [.int .i64 (i : Int)] ∧ d = cases.length - i ∧ i ≤ cases.length ∧ (∀ j c, j < i → cases[j]? = some c → c.way ≠ 2) ∧ Hp R L M, ⟨_, 0, rfl, rfl, by omega, fun j c hj => by omega, h⟩, ?_⟩
  clear h
  rintro d _ ii M ⟨i, he, hd, hi, hp, h⟩
  simp only [List.cons.injEq, Value.int.injEq, and_true, true_and] at he
  subst he
  refine bsp_dec.2 ⟨fun hlt => ?_, fun hge => ?_⟩
  · obtain ⟨c, hc⟩ := idx_ex (l := cases) (i := i) (by omega)
    obtain ⟨b, o, rfl⟩ := hB.someE h (by omega) (by decide)
    repeat (first | (refine s_nwc h ?_; clear h; intro kb M h) | (refine s_stc h ?_; clear h; intro M h) | refine t_exI h ?_ | refine t_exB h ?_ | refine t_exS h ?_ | refine t_exP h ?_ | refine t_exSl h ?_ | refine t_exV h ?_ | refine u_exI ?_ | refine u_exB ?_ | refine u_exS ?_ | refine u_exP ?_ | refine u_exSl ?_ | refine u_exV ?_ | refine u_nilc ?_ | (apply Exists.intro; (repeat apply Exists.intro); refine And.intro rfl ?_) | (refine And.intro ?_ ?_; first | exact trivial | exact rfl | exact t_ld h | (refine lds_s (t_ld h) ?_; (repeat (refine lds_s (t_ld h) ?_)); exact lds_nil) | omega) | refine u_bspT ?_ | refine u_bspF ?_)
    simp only [Int.toNat_natCast]
    refine v_exI (hB.at h (i := i) (j := 0) hc rfl rfl) ?_
    refine v_exI (hB.at h (i := i) (j := 1) hc rfl rfl) ?_
    refine v_exI (hB.at h (i := i) (j := 2) hc rfl rfl) ?_
    repeat (first | (refine s_nwc h ?_; clear h; intro kb M h) | (refine s_stc h ?_; clear h; intro M h) | refine t_exI h ?_ | refine t_exB h ?_ | refine t_exS h ?_ | refine t_exP h ?_ | refine t_exSl h ?_ | refine t_exV h ?_ | refine u_exI ?_ | refine u_exB ?_ | refine u_exS ?_ | refine u_exP ?_ | refine u_exSl ?_ | refine u_exV ?_ | refine u_nilc ?_ | (apply Exists.intro; (repeat apply Exists.intro); refine And.intro rfl ?_) | (refine And.intro ?_ ?_; first | exact trivial | exact rfl | exact t_ld h | (refine lds_s (t_ld h) ?_; (repeat (refine lds_s (t_ld h) ?_)); exact lds_nil) | omega) | refine u_bspT ?_ | refine u_bspF ?_)
    refine bsp_eq.2 ⟨fun e => ?_, fun e => ?_⟩
    · have := els_some hc e hp
      rw [this] at k
      exact k _ h.fin0
    · rw [wrap_succ (by omega)]
      refine ⟨cases.length - (i + 1), by omega, i + 1, rfl, rfl, by omega, fun j c' hj hc' => ?_, h.fin0⟩
      rcases Nat.lt_or_ge j i with hji | hji
      · exact hp j c' hji hc'
      · obtain rfl : j = i := by omega
        rw [hc] at hc'; cases hc'; exact e
  · obtain rfl : i = cases.length := by omega
    rw [els_none hp] at k
    exact k _ h

theorem picks_can {c : Cas} {B : Option Addr} {m cc : Nat} (h : Hp R L M) [o : ObjsAt chanR L bs cs L'] (hB : Src R L' B (ptrE.cells bs)) (hm : m = bs.length) (hl : bs.length = cs.length) (hc : 0 ≤ c.ch ∧ c.ch < cs.length)
    (k : ∀ M', Hp R (objsP chanR bs cs :: L') M' → K (.bool (can cs c)) M') : ACalls Try.prog 69 #[.agg #[.int .i64 c.way, .int .i64 c.ch, .int .i64 c.reg], .slice B m cc] M K Kp := by
  subst hm
  replace h := h.objs_front chanR
  obtain ⟨way, ch, reg⟩ := c
  dsimp only at *
  obtain ⟨q, rfl⟩ := Int.eq_ofNat_of_zero_le hc.1
  obtain ⟨x, hx⟩ := idx_ex (l := cs) (i := q) (by omega)
  obtain ⟨b, hb⟩ := idx_ex (l := bs) (i := q) (by omega)
  have hxx : chAt cs (q : Int) = x := by simp [chAt, hx]
  obtain ⟨b0, o0, rfl⟩ := hB.cons.someE h (by omega) (by decide)
  simp only [can, hxx] at k
  refine vc_picks_can ?_
  repeat (first | (refine s_nwc h ?_; clear h; intro kb M h) | (refine s_stc h ?_; clear h; intro M h) | refine t_exI h ?_ | refine t_exB h ?_ | refine t_exS h ?_ | refine t_exP h ?_ | refine t_exSl h ?_ | refine t_exV h ?_ | refine u_exI ?_ | refine u_exB ?_ | refine u_exS ?_ | refine u_exP ?_ | refine u_exSl ?_ | refine u_exV ?_ | refine u_nilc ?_ | (apply Exists.intro; (repeat apply Exists.intro); refine And.intro rfl ?_) | (refine And.intro ?_ ?_; first | exact trivial | exact rfl | exact t_ld h | (refine lds_s (t_ld h) ?_; (repeat (refine lds_s (t_ld h) ?_)); exact lds_nil) | omega) | refine u_bspT ?_ | refine u_bspF ?_)
  refine bsp_eq.2 ⟨fun e => ?_, fun e => ?_⟩
  · rw [if_pos e] at k
    repeat (first | (refine s_nwc h ?_; clear h; intro kb M h) | (refine s_stc h ?_; clear h; intro M h) | refine t_exI h ?_ | refine t_exB h ?_ | refine t_exS h ?_ | refine t_exP h ?_ | refine t_exSl h ?_ | refine t_exV h ?_ | refine u_exI ?_ | refine u_exB ?_ | refine u_exS ?_ | refine u_exP ?_ | refine u_exSl ?_ | refine u_exV ?_ | refine u_nilc ?_ | (apply Exists.intro; (repeat apply Exists.intro); refine And.intro rfl ?_) | (refine And.intro ?_ ?_; first | exact trivial | exact rfl | exact t_ld h | (refine lds_s (t_ld h) ?_; (repeat (refine lds_s (t_ld h) ?_)); exact lds_nil) | omega) | refine u_bspT ?_ | refine u_bspF ?_)
    refine v_exP (hB.cons.cons.at h (i := q) (j := 0) hb rfl (by simp [ptrE])) ?_
    replace h := h.objs_out chanR hb hx
    refine chans_CanRecv h ?_
    repeat (first | (refine s_nwc h ?_; clear h; intro kb M h) | (refine s_stc h ?_; clear h; intro M h) | refine t_exI h ?_ | refine t_exB h ?_ | refine t_exS h ?_ | refine t_exP h ?_ | refine t_exSl h ?_ | refine t_exV h ?_ | refine u_exI ?_ | refine u_exB ?_ | refine u_exS ?_ | refine u_exP ?_ | refine u_exSl ?_ | refine u_exV ?_ | refine u_nilc ?_ | (apply Exists.intro; (repeat apply Exists.intro); refine And.intro rfl ?_) | (refine And.intro ?_ ?_; first | exact trivial | exact rfl | exact t_ld h | (refine lds_s (t_ld h) ?_; (repeat (refine lds_s (t_ld h) ?_)); exact lds_nil) | omega) | refine u_bspT ?_ | refine u_bspF ?_)
    exact k _ (h.objs_same chanR b hb hx).fin1
  rw [if_neg e] at k
  refine bsp_eq.2 ⟨fun e => ?_, fun e => ?_⟩
  · rw [if_pos e] at k
    repeat (first | (refine s_nwc h ?_; clear h; intro kb M h) | (refine s_stc h ?_; clear h; intro M h) | refine t_exI h ?_ | refine t_exB h ?_ | refine t_exS h ?_ | refine t_exP h ?_ | refine t_exSl h ?_ | refine t_exV h ?_ | refine u_exI ?_ | refine u_exB ?_ | refine u_exS ?_ | refine u_exP ?_ | refine u_exSl ?_ | refine u_exV ?_ | refine u_nilc ?_ | (apply Exists.intro; (repeat apply Exists.intro); refine And.intro rfl ?_) | (refine And.intro ?_ ?_; first | exact trivial | exact rfl | exact t_ld h | (refine lds_s (t_ld h) ?_; (repeat (refine lds_s (t_ld h) ?_)); exact lds_nil) | omega) | refine u_bspT ?_ | refine u_bspF ?_)
    refine v_exP (hB.cons.cons.at h (i := q) (j := 0) hb rfl (by simp [ptrE])) ?_
    replace h := h.objs_out chanR hb hx
    refine chans_CanSend h ?_
    repeat (first | (refine s_nwc h ?_; clear h; intro kb M h) | (refine s_stc h ?_; clear h; intro M h) | refine t_exI h ?_ | refine t_exB h ?_ | refine t_exS h ?_ | refine t_exP h ?_ | refine t_exSl h ?_ | refine t_exV h ?_ | refine u_exI ?_ | refine u_exB ?_ | refine u_exS ?_ | refine u_exP ?_ | refine u_exSl ?_ | refine u_exV ?_ | refine u_nilc ?_ | (apply Exists.intro; (repeat apply Exists.intro); refine And.intro rfl ?_) | (refine And.intro ?_ ?_; first | exact trivial | exact rfl | exact t_ld h | (refine lds_s (t_ld h) ?_; (repeat (refine lds_s (t_ld h) ?_)); exact lds_nil) | omega) | refine u_bspT ?_ | refine u_bspF ?_)
    exact k _ (h.objs_same chanR b hb hx).fin1
  · rw [if_neg e] at k
    exact k _ h.fin0

theorem picks_Enabled {B A : Option Addr} {m cc n ca : Nat} {cases : List Cas} (h : Hp R L M) [o : ObjsAt chanR L bs cs L'] (hB : Src R L' B (casE.cells cases)) (hA : Src R L' A (ptrE.cells bs)) (hm : m = cases.length) (hn : n = bs.length)
    (hb : cases.length ≤ 1000000000) (hl : bs.length = cs.length) (hok : ∀ c ∈ cases, c.Ok cs.length)
    (k : ∀ A' c' M', Hp R (rowP intE 3 A' c' (enabled cases cs) :: objsP chanR bs cs :: L') M' → K (.slice A' (enabled cases cs).length c') M') :
    ACalls Try.prog 39 #[.slice B m cc, .slice A n ca] M K Kp := by
  subst hm
  replace h := h.objs_front chanR
  refine vc_picks_Enabled ⟨fun d ws M => ∃ (i : Nat) (X : Option Addr) (cx : Nat), ws = [.slice X (enTo cases cs i).length cx, .int .i64 (i : Int)] ∧ d = cases.length - i ∧ i ≤ cases.length ∧ Hp R (rowP intE 3 X cx (enTo cases cs i) :: objsP chanR bs cs :: L') M, ⟨_, 0, none, 0, rfl, rfl, by omega, h.row_nil intE _⟩, ?_⟩
  clear h
  rintro d _ X n1 cx ii M ⟨i, _, _, he, hd, hi, h⟩
  simp only [List.cons.injEq, Value.int.injEq, Value.slice.injEq, and_true, true_and] at he
  obtain ⟨⟨rfl, rfl, rfl⟩, rfl⟩ := he
  refine bsp_dec.2 ⟨fun hlt => ?_, fun hge => ?_⟩
  · obtain ⟨c, hc⟩ := idx_ex (l := cases) (i := i) (by omega)
    obtain ⟨b, o, rfl⟩ := hB.cons.cons.someE h (by omega) (by decide)
    repeat (first | (refine s_nwc h ?_; clear h; intro kb M h) | (refine s_stc h ?_; clear h; intro M h) | refine t_exI h ?_ | refine t_exB h ?_ | refine t_exS h ?_ | refine t_exP h ?_ | refine t_exSl h ?_ | refine t_exV h ?_ | refine u_exI ?_ | refine u_exB ?_ | refine u_exS ?_ | refine u_exP ?_ | refine u_exSl ?_ | refine u_exV ?_ | refine u_nilc ?_ | (apply Exists.intro; (repeat apply Exists.intro); refine And.intro rfl ?_) | (refine And.intro ?_ ?_; first | exact trivial | exact rfl | exact t_ld h | (refine lds_s (t_ld h) ?_; (repeat (refine lds_s (t_ld h) ?_)); exact lds_nil) | omega) | refine u_bspT ?_ | refine u_bspF ?_)
    simp only [Int.toNat_natCast]
    refine v_exI (hB.cons.cons.at h (i := i) (j := 0) hc rfl rfl) ?_
    refine v_exI (hB.cons.cons.at h (i := i) (j := 1) hc rfl rfl) ?_
    refine v_exI (hB.cons.cons.at h (i := i) (j := 2) hc rfl rfl) ?_
    repeat (first | (refine s_nwc h ?_; clear h; intro kb M h) | (refine s_stc h ?_; clear h; intro M h) | refine t_exI h ?_ | refine t_exB h ?_ | refine t_exS h ?_ | refine t_exP h ?_ | refine t_exSl h ?_ | refine t_exV h ?_ | refine u_exI ?_ | refine u_exB ?_ | refine u_exS ?_ | refine u_exP ?_ | refine u_exSl ?_ | refine u_exV ?_ | refine u_nilc ?_ | (apply Exists.intro; (repeat apply Exists.intro); refine And.intro rfl ?_) | (refine And.intro ?_ ?_; first | exact trivial | exact rfl | exact t_ld h | (refine lds_s (t_ld h) ?_; (repeat (refine lds_s (t_ld h) ?_)); exact lds_nil) | omega) | refine u_bspT ?_ | refine u_bspF ?_)
    have hco := hok c (List.mem_of_getElem? hc)
    obtain ⟨_, _, k1, k2, k3, k4⟩ := hco
    refine picks_can (c := c) h hA.cons.cons hn hl ⟨k1, k2⟩ ?_
    clear h
    intro M h
    repeat (first | (refine s_nwc h ?_; clear h; intro kb M h) | (refine s_stc h ?_; clear h; intro M h) | refine t_exI h ?_ | refine t_exB h ?_ | refine t_exS h ?_ | refine t_exP h ?_ | refine t_exSl h ?_ | refine t_exV h ?_ | refine u_exI ?_ | refine u_exB ?_ | refine u_exS ?_ | refine u_exP ?_ | refine u_exSl ?_ | refine u_exV ?_ | refine u_nilc ?_ | (apply Exists.intro; (repeat apply Exists.intro); refine And.intro rfl ?_) | (refine And.intro ?_ ?_; first | exact trivial | exact rfl | exact t_ld h | (refine lds_s (t_ld h) ?_; (repeat (refine lds_s (t_ld h) ?_)); exact lds_nil) | omega) | refine u_bspT ?_ | refine u_bspF ?_)
    have hlen := enTo_len cases cs i
    refine bsp_iff.2 ⟨fun hb => ?_, fun hb => ?_⟩
    · have e := enTo_succ (cs := cs) hc
      rw [if_pos hb] at e
      repeat (first | (refine s_nwc h ?_; clear h; intro kb M h) | (refine s_stc h ?_; clear h; intro M h) | refine t_exI h ?_ | refine t_exB h ?_ | refine t_exS h ?_ | refine t_exP h ?_ | refine t_exSl h ?_ | refine t_exV h ?_ | refine u_exI ?_ | refine u_exB ?_ | refine u_exS ?_ | refine u_exP ?_ | refine u_exSl ?_ | refine u_exV ?_ | refine u_nilc ?_ | (apply Exists.intro; (repeat apply Exists.intro); refine And.intro rfl ?_) | (refine And.intro ?_ ?_; first | exact trivial | exact rfl | exact t_ld h | (refine lds_s (t_ld h) ?_; (repeat (refine lds_s (t_ld h) ?_)); exact lds_nil) | omega) | refine u_bspT ?_ | refine u_bspF ?_)
      refine h.rowAppend1 el_int [(i : Int)] rfl rfl (by simp; omega) ?_
      clear h
      intro A' c' M h
      repeat (first | (refine s_nwc h ?_; clear h; intro kb M h) | (refine s_stc h ?_; clear h; intro M h) | refine t_exI h ?_ | refine t_exB h ?_ | refine t_exS h ?_ | refine t_exP h ?_ | refine t_exSl h ?_ | refine t_exV h ?_ | refine u_exI ?_ | refine u_exB ?_ | refine u_exS ?_ | refine u_exP ?_ | refine u_exSl ?_ | refine u_exV ?_ | refine u_nilc ?_ | (apply Exists.intro; (repeat apply Exists.intro); refine And.intro rfl ?_) | (refine And.intro ?_ ?_; first | exact trivial | exact rfl | exact t_ld h | (refine lds_s (t_ld h) ?_; (repeat (refine lds_s (t_ld h) ?_)); exact lds_nil) | omega) | refine u_bspT ?_ | refine u_bspF ?_)
      rw [wrap_succ (by omega)]
      rw [← e] at h
      refine ⟨cases.length - (i + 1), by omega, i + 1, A', c', ?_, rfl, by omega, h.fin1⟩
      rw [e]
    · have e := enTo_succ (cs := cs) hc
      rw [if_neg (by simp [hb]), List.append_nil] at e
      rw [wrap_succ (by omega)]
      refine ⟨cases.length - (i + 1), by omega, i + 1, X, cx, by rw [e], rfl, by omega, ?_⟩
      rw [e]; exact h.sub (by repeat (first | exact Sub.refl | refine Sub.cons (by first | exact Pick.here | exact (.there .here) | exact (.there (.there .here)) | exact (.there (.there (.there .here))) | exact (.there (.there (.there (.there .here)))) | exact (.there (.there (.there (.there (.there .here))))) | exact (.there (.there (.there (.there (.there (.there .here)))))) | exact (.there (.there (.there (.there (.there (.there (.there .here))))))) | exact (.there (.there (.there (.there (.there (.there (.there (.there .here)))))))) | exact (.there (.there (.there (.there (.there (.there (.there (.there (.there .here))))))))) | exact (.there (.there (.there (.there (.there (.there (.there (.there (.there (.there .here)))))))))) | exact (.there (.there (.there (.there (.there (.there (.there (.there (.there (.there (.there .here))))))))))) | exact (.there (.there (.there (.there (.there (.there (.there (.there (.there (.there (.there (.there .here)))))))))))) | exact (.there (.there (.there (.there (.there (.there (.there (.there (.there (.there (.there (.there (.there .here))))))))))))) | exact (.there (.there (.there (.there (.there (.there (.there (.there (.there (.there (.there (.there (.there (.there .here)))))))))))))) | exact (.there (.there (.there (.there (.there (.there (.there (.there (.there (.there (.there (.there (.there (.there (.there .here)))))))))))))))) ?_ | refine Sub.drop ?_))
  · obtain rfl : i = cases.length := by omega
    exact k _ _ _ h

theorem picks_Leave {g : Int} {A : Option Addr} {n ca : Nat} (h : Hp R L M) [o : ObjsAt chanR L bs cs L'] (hA : Src R L' A (ptrE.cells bs)) (hn : n = bs.length) (hb : bs.length ≤ 1000000000) (hl : bs.length = cs.length) (hs : ∀ c ∈ cs, c.Small 1000000000)
    (k : ∀ M', Hp R (objsP chanR bs (cs.map (·.drop g)) :: L') M' → K (.tuple #[]) M') :
    ACalls Try.prog 88 #[.int .i64 g, .slice A n ca] M K Kp := by
  subst hn
  replace h := h.objs_front chanR
  refine vc_picks_Leave ⟨fun d ws M => ∃ (i : Nat), ws = [.int .i64 (i : Int)] ∧ d = bs.length - i ∧ i ≤ bs.length ∧ Hp R (objsP chanR bs ((cs.take i).map (·.drop g) ++ cs.drop i) :: L') M, ⟨_, 0, rfl, rfl, by omega, h⟩, ?_⟩
  clear h
  rintro d _ ii M ⟨i, he, hd, hi, h⟩
  simp only [List.cons.injEq, Value.int.injEq, and_true, true_and] at he
  subst he
  refine bsp_dec.2 ⟨fun hlt => ?_, fun hge => ?_⟩
  · obtain ⟨c, hc⟩ := idx_ex (l := cs) (i := i) (by omega)
    obtain ⟨b, hb1⟩ := idx_ex (l := bs) (i := i) (by omega)
    obtain ⟨b0, o0, rfl⟩ := hA.cons.someE h (by omega) (by decide)
    have hc2 : ((cs.take i).map (·.drop g) ++ cs.drop i)[i]? = some c := by
      rw [List.getElem?_append_right (by simp; omega)]; simp [List.length_take, Nat.min_eq_left (show i ≤ cs.length by omega), hc]
    repeat (first | (refine s_nwc h ?_; clear h; intro kb M h) | (refine s_stc h ?_; clear h; intro M h) | refine t_exI h ?_ | refine t_exB h ?_ | refine t_exS h ?_ | refine t_exP h ?_ | refine t_exSl h ?_ | refine t_exV h ?_ | refine u_exI ?_ | refine u_exB ?_ | refine u_exS ?_ | refine u_exP ?_ | refine u_exSl ?_ | refine u_exV ?_ | refine u_nilc ?_ | (apply Exists.intro; (repeat apply Exists.intro); refine And.intro rfl ?_) | (refine And.intro ?_ ?_; first | exact trivial | exact rfl | exact t_ld h | (refine lds_s (t_ld h) ?_; (repeat (refine lds_s (t_ld h) ?_)); exact lds_nil) | omega) | refine u_bspT ?_ | refine u_bspF ?_)
    refine v_exP (hA.cons.at h (i := i) (j := 0) hb1 rfl (by simp [ptrE])) ?_
    replace h := h.objs_out chanR hb1 hc2
    refine chans_Drop h (hs c (List.mem_of_getElem? hc)) ?_
    clear h
    intro M h
    repeat (first | (refine s_nwc h ?_; clear h; intro kb M h) | (refine s_stc h ?_; clear h; intro M h) | refine t_exI h ?_ | refine t_exB h ?_ | refine t_exS h ?_ | refine t_exP h ?_ | refine t_exSl h ?_ | refine t_exV h ?_ | refine u_exI ?_ | refine u_exB ?_ | refine u_exS ?_ | refine u_exP ?_ | refine u_exSl ?_ | refine u_exV ?_ | refine u_nilc ?_ | (apply Exists.intro; (repeat apply Exists.intro); refine And.intro rfl ?_) | (refine And.intro ?_ ?_; first | exact trivial | exact rfl | exact t_ld h | (refine lds_s (t_ld h) ?_; (repeat (refine lds_s (t_ld h) ?_)); exact lds_nil) | omega) | refine u_bspT ?_ | refine u_bspF ?_)
    rw [wrap_succ (by omega)]
    refine ⟨bs.length - (i + 1), by omega, i + 1, rfl, rfl, by omega, ?_⟩
    have := (h.objs_in chanR b hb1 (by simp; omega)).fin1 (T := L')
    rw [List.set_append_right _ _ (by simp; omega)] at this
    rw [take_snoc hc, List.map_append, List.append_assoc]
    have e : (cs.drop i).set (i - ((cs.take i).map (·.drop g)).length) (c.drop g) = [c.drop g] ++ cs.drop (i + 1) := by
      rw [show i - ((cs.take i).map (·.drop g)).length = 0 from by simp; omega]
      obtain ⟨hi', e'⟩ := List.getElem?_eq_some_iff.1 hc
      rw [List.drop_eq_getElem_cons hi']; rfl
    rw [e] at this
    exact this
  · obtain rfl : i = bs.length := by omega
    rw [hl, List.take_length, List.drop_length, List.append_nil] at h
    exact k _ h
theorem picks_Wait {g : Int} {B A D : Option Addr} {m cc n ca r cr : Nat} {cases : List Cas} {regs : List Int} (h : Hp R L M) [o : ObjsAt chanR L bs cs L'] (hB : Src R L' B (casE.cells cases)) (hA : Src R L' A (ptrE.cells bs)) (hD : Src R L' D (intE.cells regs))
    (hm : m = cases.length) (hn : n = bs.length) (hr : r = 8) (hr8 : regs.length = 8) (hb : cases.length ≤ 1000000) (hl : bs.length = cs.length) (hok : ∀ c ∈ cases, c.Ok cs.length) (hs : ∀ c ∈ cs, c.Small 1000000)
    (k : ∀ M', Hp R (objsP chanR bs (waitTo g regs cases cs cases.length) :: L') M' → K (.tuple #[]) M') :
    ACalls Try.prog 41 #[.int .i64 g, .slice B m cc, .slice D r cr, .slice A n ca] M K Kp := by
  subst hm
  subst hn
  subst hr
  replace h := h.objs_front chanR
  refine vc_picks_Wait ⟨fun d ws M => ∃ (i : Nat), ws = [.int .i64 (i : Int)] ∧ d = cases.length - i ∧ i ≤ cases.length ∧ Hp R (objsP chanR bs (waitTo g regs cases cs i) :: L') M, ⟨_, 0, rfl, rfl, by omega, h⟩, ?_⟩
  clear h
  rintro d _ ii M ⟨i, he, hd, hi, h⟩
  simp only [List.cons.injEq, Value.int.injEq, and_true, true_and] at he
  subst he
  refine bsp_dec.2 ⟨fun hlt => ?_, fun hge => ?_⟩
  · obtain ⟨c, hc⟩ := idx_ex (l := cases) (i := i) (by omega)
    obtain ⟨_, _, k1, k2, k3, k4⟩ := hok c (List.mem_of_getElem? hc)
    obtain ⟨b, o, rfl⟩ := hB.cons.someE h (by omega) (by decide)
    obtain ⟨b2, o2, rfl⟩ := hA.cons.someE h (by omega) (by decide)
    obtain ⟨b3, o3, rfl⟩ := hD.cons.someE h (by omega) (by decide)
    have hlen := waitTo_len g regs cases cs i
    have hsm := waitTo_small (g := g) (regs := regs) hs hok i
    have e : waitTo g regs cases cs (i + 1) = waitOne g regs i c (waitTo g regs cases cs i) := by rw [waitTo, hc]
    generalize hw : waitTo g regs cases cs i = ws at h hlen hsm e
    obtain ⟨way, ch, reg⟩ := c
    dsimp only at k1 k2 k3 k4
    obtain ⟨q, rfl⟩ := Int.eq_ofNat_of_zero_le k1
    obtain ⟨q2, rfl⟩ := Int.eq_ofNat_of_zero_le k3
    obtain ⟨b1, hb1⟩ := idx_ex (l := bs) (i := q) (by omega)
    obtain ⟨x, hx⟩ := idx_ex (l := ws) (i := q) (by omega)
    obtain ⟨v, hv⟩ := idx_ex (l := regs) (i := q2) (by omega)
    have hxx : chAt ws (q : Int) = x := by simp [chAt, hx]
    have hvv : regs.getD q2 0 = v := by simp [hv]
    have hxs := hsm x (List.mem_of_getElem? hx)
    simp only [waitOne, hxx, Int.toNat_natCast, hvv] at e
    repeat (first | (refine s_nwc h ?_; clear h; intro kb M h) | (refine s_stc h ?_; clear h; intro M h) | refine t_exI h ?_ | refine t_exB h ?_ | refine t_exS h ?_ | refine t_exP h ?_ | refine t_exSl h ?_ | refine t_exV h ?_ | refine u_exI ?_ | refine u_exB ?_ | refine u_exS ?_ | refine u_exP ?_ | refine u_exSl ?_ | refine u_exV ?_ | refine u_nilc ?_ | (apply Exists.intro; (repeat apply Exists.intro); refine And.intro rfl ?_) | (refine And.intro ?_ ?_; first | exact trivial | exact rfl | exact t_ld h | (refine lds_s (t_ld h) ?_; (repeat (refine lds_s (t_ld h) ?_)); exact lds_nil) | omega) | refine u_bspT ?_ | refine u_bspF ?_)
    simp only [Int.toNat_natCast]
    refine v_exI (hB.cons.at h (i := i) (j := 0) hc rfl rfl) ?_
    refine v_exI (hB.cons.at h (i := i) (j := 1) hc rfl rfl) ?_
    refine v_exI (hB.cons.at h (i := i) (j := 2) hc rfl rfl) ?_
    dsimp only
    repeat (first | (refine s_nwc h ?_; clear h; intro kb M h) | (refine s_stc h ?_; clear h; intro M h) | refine t_exI h ?_ | refine t_exB h ?_ | refine t_exS h ?_ | refine t_exP h ?_ | refine t_exSl h ?_ | refine t_exV h ?_ | refine u_exI ?_ | refine u_exB ?_ | refine u_exS ?_ | refine u_exP ?_ | refine u_exSl ?_ | refine u_exV ?_ | refine u_nilc ?_ | (apply Exists.intro; (repeat apply Exists.intro); refine And.intro rfl ?_) | (refine And.intro ?_ ?_; first | exact trivial | exact rfl | exact t_ld h | (refine lds_s (t_ld h) ?_; (repeat (refine lds_s (t_ld h) ?_)); exact lds_nil) | omega) | refine u_bspT ?_ | refine u_bspF ?_)
    refine bsp_eq.2 ⟨fun hw => ?_, fun hw => ?_⟩
    · rw [if_pos hw] at e
      repeat (first | (refine s_nwc h ?_; clear h; intro kb M h) | (refine s_stc h ?_; clear h; intro M h) | refine t_exI h ?_ | refine t_exB h ?_ | refine t_exS h ?_ | refine t_exP h ?_ | refine t_exSl h ?_ | refine t_exV h ?_ | refine u_exI ?_ | refine u_exB ?_ | refine u_exS ?_ | refine u_exP ?_ | refine u_exSl ?_ | refine u_exV ?_ | refine u_nilc ?_ | (apply Exists.intro; (repeat apply Exists.intro); refine And.intro rfl ?_) | (refine And.intro ?_ ?_; first | exact trivial | exact rfl | exact t_ld h | (refine lds_s (t_ld h) ?_; (repeat (refine lds_s (t_ld h) ?_)); exact lds_nil) | omega) | refine u_bspT ?_ | refine u_bspF ?_)
      refine v_exP (hA.cons.cons.at h (i := q) (j := 0) hb1 rfl (by simp [ptrE])) ?_
      have hb2 := hb1
      replace h := h.pick (.there .here)
      replace h := h.objs_out chanR hb1 hx
      refine chans_WaitRecv (w := ⟨g, i, 0⟩) h (hxs.mono (by omega)) ?_
      clear h
      intro M h
      repeat (first | (refine s_nwc h ?_; clear h; intro kb M h) | (refine s_stc h ?_; clear h; intro M h) | refine t_exI h ?_ | refine t_exB h ?_ | refine t_exS h ?_ | refine t_exP h ?_ | refine t_exSl h ?_ | refine t_exV h ?_ | refine u_exI ?_ | refine u_exB ?_ | refine u_exS ?_ | refine u_exP ?_ | refine u_exSl ?_ | refine u_exV ?_ | refine u_nilc ?_ | (apply Exists.intro; (repeat apply Exists.intro); refine And.intro rfl ?_) | (refine And.intro ?_ ?_; first | exact trivial | exact rfl | exact t_ld h | (refine lds_s (t_ld h) ?_; (repeat (refine lds_s (t_ld h) ?_)); exact lds_nil) | omega) | refine u_bspT ?_ | refine u_bspF ?_)
      rw [wrap_succ (by omega)]
      refine ⟨cases.length - (i + 1), by omega, i + 1, rfl, rfl, by omega, ?_⟩
      rw [e]
      exact (h.objs_in chanR b1 hb1 (by omega)).fin1
    rw [if_neg hw] at e
    refine bsp_eq.2 ⟨fun hw => ?_, fun hw => ?_⟩
    · rw [if_pos hw] at e
      repeat (first | (refine s_nwc h ?_; clear h; intro kb M h) | (refine s_stc h ?_; clear h; intro M h) | refine t_exI h ?_ | refine t_exB h ?_ | refine t_exS h ?_ | refine t_exP h ?_ | refine t_exSl h ?_ | refine t_exV h ?_ | refine u_exI ?_ | refine u_exB ?_ | refine u_exS ?_ | refine u_exP ?_ | refine u_exSl ?_ | refine u_exV ?_ | refine u_nilc ?_ | (apply Exists.intro; (repeat apply Exists.intro); refine And.intro rfl ?_) | (refine And.intro ?_ ?_; first | exact trivial | exact rfl | exact t_ld h | (refine lds_s (t_ld h) ?_; (repeat (refine lds_s (t_ld h) ?_)); exact lds_nil) | omega) | refine u_bspT ?_ | refine u_bspF ?_)
      refine v_exP (hA.cons.cons.at h (i := q) (j := 0) hb1 rfl (by simp [ptrE])) ?_
      repeat (first | (refine s_nwc h ?_; clear h; intro kb M h) | (refine s_stc h ?_; clear h; intro M h) | refine t_exI h ?_ | refine t_exB h ?_ | refine t_exS h ?_ | refine t_exP h ?_ | refine t_exSl h ?_ | refine t_exV h ?_ | refine u_exI ?_ | refine u_exB ?_ | refine u_exS ?_ | refine u_exP ?_ | refine u_exSl ?_ | refine u_exV ?_ | refine u_nilc ?_ | (apply Exists.intro; (repeat apply Exists.intro); refine And.intro rfl ?_) | (refine And.intro ?_ ?_; first | exact trivial | exact rfl | exact t_ld h | (refine lds_s (t_ld h) ?_; (repeat (refine lds_s (t_ld h) ?_)); exact lds_nil) | omega) | refine u_bspT ?_ | refine u_bspF ?_)
      refine v_exI (hD.cons.cons.at h (i := q2) (j := 0) hv rfl (by simp [intE])) ?_
      replace h := h.pick (.there .here)
      replace h := h.objs_out chanR hb1 hx
      refine chans_WaitSend (w := ⟨g, i, v⟩) h (hxs.mono (by omega)) ?_
      clear h
      intro M h
      repeat (first | (refine s_nwc h ?_; clear h; intro kb M h) | (refine s_stc h ?_; clear h; intro M h) | refine t_exI h ?_ | refine t_exB h ?_ | refine t_exS h ?_ | refine t_exP h ?_ | refine t_exSl h ?_ | refine t_exV h ?_ | refine u_exI ?_ | refine u_exB ?_ | refine u_exS ?_ | refine u_exP ?_ | refine u_exSl ?_ | refine u_exV ?_ | refine u_nilc ?_ | (apply Exists.intro; (repeat apply Exists.intro); refine And.intro rfl ?_) | (refine And.intro ?_ ?_; first | exact trivial | exact rfl | exact t_ld h | (refine lds_s (t_ld h) ?_; (repeat (refine lds_s (t_ld h) ?_)); exact lds_nil) | omega) | refine u_bspT ?_ | refine u_bspF ?_)
      rw [wrap_succ (by omega)]
      refine ⟨cases.length - (i + 1), by omega, i + 1, rfl, rfl, by omega, ?_⟩
      rw [e]
      exact (h.objs_in chanR b1 hb1 (by omega)).fin1
    · rw [if_neg hw] at e
      rw [wrap_succ (by omega)]
      refine ⟨cases.length - (i + 1), by omega, i + 1, rfl, rfl, by omega, ?_⟩
      rw [e]
      exact h.fin0
  · obtain rfl : i = cases.length := by omega
    exact k _ h
end
end Go.Proofs
