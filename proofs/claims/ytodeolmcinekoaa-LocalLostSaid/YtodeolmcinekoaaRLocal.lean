/- A part of proofs about functions of one program: a condition over a partial memory that is enough for a call, and what calls answer by it. No condition of its own. -/
import Derived.Test.YtodeolmcinekoaaLocal2
/- Queues: the document's. -/
namespace Go.Proofs
open Go.AF
set_option linter.unusedVariables false
set_option maxRecDepth 100000
set_option maxHeartbeats 1000000
attribute [local irreducible] exI exB exS exP exSl exV nilc stc nwc semK semU bsp
section
variable {R : Mem} {L L' L'' : List HP} {M : Mem} {K : Value → Mem → Prop} {Kp : List PanicEntry → Mem → Prop} {x f : Loc} {g : List Int}
theorem ref08_join {A B : Option Addr} {n ca m cb : Nat} {a c : List Int} (h : Hp R L M) (hA : Src R L A (intE.cells a)) (hn : n = a.length) (hB : Src R L B (intE.cells c)) (hm : m = c.length) (hs : a.length + c.length ≤ 1000000000)
    (k : ∀ A' c' M', Hp R (rowP intE 3 A' c' (a ++ c) :: L) M' → K (.slice A' (a ++ c).length c') M') : ACalls Try.prog 110 #[.slice A n ca, .slice B m cb] M K Kp := by
  refine vc_shunterref08_join ?_
  repeat (first | (refine s_nwc h ?_; clear h; intro kb M h) | (refine s_stc h ?_; clear h; intro M h) | refine t_exI h ?_ | refine t_exB h ?_ | refine t_exS h ?_ | refine t_exP h ?_ | refine t_exSl h ?_ | refine t_exV h ?_ | refine u_exI ?_ | refine u_exB ?_ | refine u_exS ?_ | refine u_exP ?_ | refine u_exSl ?_ | refine u_exV ?_ | refine u_nilc ?_ | (apply Exists.intro; (repeat apply Exists.intro); refine And.intro rfl ?_) | (refine And.intro ?_ ?_; first | exact trivial | exact rfl | exact t_ld h | (refine lds_s (t_ld h) ?_; (repeat (refine lds_s (t_ld h) ?_)); exact lds_nil) | omega) | refine u_bspT ?_ | refine u_bspF ?_)
  refine h.rowCopy intE el_intR a hA.cons hn (by omega) ?_
  clear h
  intro A1 c1 M h
  repeat (first | (refine s_nwc h ?_; clear h; intro kb M h) | (refine s_stc h ?_; clear h; intro M h) | refine t_exI h ?_ | refine t_exB h ?_ | refine t_exS h ?_ | refine t_exP h ?_ | refine t_exSl h ?_ | refine t_exV h ?_ | refine u_exI ?_ | refine u_exB ?_ | refine u_exS ?_ | refine u_exP ?_ | refine u_exSl ?_ | refine u_exV ?_ | refine u_nilc ?_ | (apply Exists.intro; (repeat apply Exists.intro); refine And.intro rfl ?_) | (refine And.intro ?_ ?_; first | exact trivial | exact rfl | exact t_ld h | (refine lds_s (t_ld h) ?_; (repeat (refine lds_s (t_ld h) ?_)); exact lds_nil) | omega) | refine u_bspT ?_ | refine u_bspF ?_)
  refine h.rowAppend (r := c) el_intR hB.cons hm (by omega) ?_
  clear h
  intro A2 c2 M h
  repeat (first | (refine s_nwc h ?_; clear h; intro kb M h) | (refine s_stc h ?_; clear h; intro M h) | refine t_exI h ?_ | refine t_exB h ?_ | refine t_exS h ?_ | refine t_exP h ?_ | refine t_exSl h ?_ | refine t_exV h ?_ | refine u_exI ?_ | refine u_exB ?_ | refine u_exS ?_ | refine u_exP ?_ | refine u_exSl ?_ | refine u_exV ?_ | refine u_nilc ?_ | (apply Exists.intro; (repeat apply Exists.intro); refine And.intro rfl ?_) | (refine And.intro ?_ ?_; first | exact trivial | exact rfl | exact t_ld h | (refine lds_s (t_ld h) ?_; (repeat (refine lds_s (t_ld h) ?_)); exact lds_nil) | omega) | refine u_bspT ?_ | refine u_bspF ?_)
  exact k _ _ _ h
theorem ref08_New {room : Int} (h : Hp R L M) (k : ∀ M', Hp R L M' → K (.agg #[.int .i64 (-1), .slice none 0 0, .int .i64 (capR room : Nat)]) M') : ACalls Try.prog 95 #[.int .i64 room] M K Kp := by
  refine vc_shunterref08_New ?_
  have e : (if (if (1024 : Int) < room then 1024 else room) > 1 then (if (1024 : Int) < room then 1024 else room) else 1) = ((capR room : Nat) : Int) := by unfold capR; split <;> split <;> omega
  rw [e]
  repeat (first | (refine s_nwc h ?_; clear h; intro kb M h) | (refine s_stc h ?_; clear h; intro M h) | refine t_exI h ?_ | refine t_exB h ?_ | refine t_exS h ?_ | refine t_exP h ?_ | refine t_exSl h ?_ | refine t_exV h ?_ | refine u_exI ?_ | refine u_exB ?_ | refine u_exS ?_ | refine u_exP ?_ | refine u_exSl ?_ | refine u_exV ?_ | refine u_nilc ?_ | (apply Exists.intro; (repeat apply Exists.intro); refine And.intro rfl ?_) | (refine And.intro ?_ ?_; first | exact trivial | exact rfl | exact t_ld h | (refine lds_s (t_ld h) ?_; (repeat (refine lds_s (t_ld h) ?_)); exact lds_nil) | omega) | refine u_bspT ?_ | refine u_bspF ?_)
  exact k _ h.fin0
theorem ref08_Put {v : Int} {A B : Option Addr} {c cb : Nat} (h : Hp R L M) (ok : x.Ok) (hA : RS intE R A c x.l) (hB : RS intE R B cb g) (hs : g.length ≤ 100000000)
    (k : ∀ R' A' c' B' cb' M', R.le R' → Hp R' L M' → RS intE R' A' c' (x.put v g).1.l → RS intE R' B' cb' (x.put v g).2.1 →
      K (.tuple #[.agg #[.int .i64 (x.put v g).1.next, .slice A' (x.put v g).1.l.length c', .int .i64 ((x.put v g).1.room : Int)], .slice B' (x.put v g).2.1.length cb', .int .i64 ((x.put v g).2.2 : Int)]) M') :
    ACalls Try.prog 97 #[.agg #[.int .i64 x.next, .slice A x.l.length c, .int .i64 (x.room : Int)], .int .i64 v, .slice B g.length cb] M K Kp := by
  obtain ⟨next, room, l⟩ := x
  obtain ⟨ok1, ok2, ok3⟩ := ok
  dsimp only at *
  refine vc_shunterref08_Put ?_
  repeat (first | (refine s_nwc h ?_; clear h; intro kb M h) | (refine s_stc h ?_; clear h; intro M h) | refine t_exI h ?_ | refine t_exB h ?_ | refine t_exS h ?_ | refine t_exP h ?_ | refine t_exSl h ?_ | refine t_exV h ?_ | refine u_exI ?_ | refine u_exB ?_ | refine u_exS ?_ | refine u_exP ?_ | refine u_exSl ?_ | refine u_exV ?_ | refine u_nilc ?_ | (apply Exists.intro; (repeat apply Exists.intro); refine And.intro rfl ?_) | (refine And.intro ?_ ?_; first | exact trivial | exact rfl | exact t_ld h | (refine lds_s (t_ld h) ?_; (repeat (refine lds_s (t_ld h) ?_)); exact lds_nil) | omega) | refine u_bspT ?_ | refine u_bspF ?_)
  refine bsp_dec.2 ⟨fun hlt => ?_, fun hge => ?_⟩
  · have hp : (Loc.mk next room l).put v g = (⟨next, room, l ++ [v]⟩, g, 0) := by unfold Loc.put; dsimp only; rw [if_pos (by omega)]
    rw [hp] at k
    dsimp only at k
    repeat (first | (refine s_nwc h ?_; clear h; intro kb M h) | (refine s_stc h ?_; clear h; intro M h) | refine t_exI h ?_ | refine t_exB h ?_ | refine t_exS h ?_ | refine t_exP h ?_ | refine t_exSl h ?_ | refine t_exV h ?_ | refine u_exI ?_ | refine u_exB ?_ | refine u_exS ?_ | refine u_exP ?_ | refine u_exSl ?_ | refine u_exV ?_ | refine u_nilc ?_ | (apply Exists.intro; (repeat apply Exists.intro); refine And.intro rfl ?_) | (refine And.intro ?_ ?_; first | exact trivial | exact rfl | exact t_ld h | (refine lds_s (t_ld h) ?_; (repeat (refine lds_s (t_ld h) ?_)); exact lds_nil) | omega) | refine u_bspT ?_ | refine u_bspF ?_)
    refine ref08_join (c := [v]) h hA.src rfl (Src.pt .here) rfl (by simp; omega) ?_
    clear h
    intro A1 c1 M h
    repeat (first | (refine s_nwc h ?_; clear h; intro kb M h) | (refine s_stc h ?_; clear h; intro M h) | refine t_exI h ?_ | refine t_exB h ?_ | refine t_exS h ?_ | refine t_exP h ?_ | refine t_exSl h ?_ | refine t_exV h ?_ | refine u_exI ?_ | refine u_exB ?_ | refine u_exS ?_ | refine u_exP ?_ | refine u_exSl ?_ | refine u_exV ?_ | refine u_nilc ?_ | (apply Exists.intro; (repeat apply Exists.intro); refine And.intro rfl ?_) | (refine And.intro ?_ ?_; first | exact trivial | exact rfl | exact t_ld h | (refine lds_s (t_ld h) ?_; (repeat (refine lds_s (t_ld h) ?_)); exact lds_nil) | omega) | refine u_bspT ?_ | refine u_bspF ?_)
    have h' := h.sealRow A1
    clear h
    obtain ⟨R1, g1, s1, h⟩ := h'
    exact k R1 _ _ _ _ _ g1 h.fin0 s1 (hB.le g1)
  · have hp : (Loc.mk next room l).put v g = (⟨next, room, l.drop (l.length / 2)⟩, g ++ (l.take (l.length / 2) ++ [v]), l.length / 2 + 1) := by unfold Loc.put; dsimp only; rw [if_neg (by omega)]
    rw [hp] at k
    dsimp only at k
    have e2 : IntKind.wrap .i64 (Int.tdiv (l.length : Int) 2) = ((l.length / 2 : Nat) : Int) := wn rfl (by omega)
    have hcap := hA.2
    repeat (first | (refine s_nwc h ?_; clear h; intro kb M h) | (refine s_stc h ?_; clear h; intro M h) | refine t_exI h ?_ | refine t_exB h ?_ | refine t_exS h ?_ | refine t_exP h ?_ | refine t_exSl h ?_ | refine t_exV h ?_ | refine u_exI ?_ | refine u_exB ?_ | refine u_exS ?_ | refine u_exP ?_ | refine u_exSl ?_ | refine u_exV ?_ | refine u_nilc ?_ | (apply Exists.intro; (repeat apply Exists.intro); refine And.intro rfl ?_) | (refine And.intro ?_ ?_; first | exact trivial | exact rfl | exact t_ld h | (refine lds_s (t_ld h) ?_; (repeat (refine lds_s (t_ld h) ?_)); exact lds_nil) | omega) | refine u_bspT ?_ | refine u_bspF ?_)
    simp only [e2, Int.toNat_natCast]
    repeat (first | (refine s_nwc h ?_; clear h; intro kb M h) | (refine s_stc h ?_; clear h; intro M h) | refine t_exI h ?_ | refine t_exB h ?_ | refine t_exS h ?_ | refine t_exP h ?_ | refine t_exSl h ?_ | refine t_exV h ?_ | refine u_exI ?_ | refine u_exB ?_ | refine u_exS ?_ | refine u_exP ?_ | refine u_exSl ?_ | refine u_exV ?_ | refine u_nilc ?_ | (apply Exists.intro; (repeat apply Exists.intro); refine And.intro rfl ?_) | (refine And.intro ?_ ?_; first | exact trivial | exact rfl | exact t_ld h | (refine lds_s (t_ld h) ?_; (repeat (refine lds_s (t_ld h) ?_)); exact lds_nil) | omega) | refine u_bspT ?_ | refine u_bspF ?_)
    have hl1 : (l.take (l.length / 2)).length = l.length / 2 := by rw [List.length_take]; omega
    have hl2 : (l.drop (l.length / 2)).length = l.length - l.length / 2 := by rw [List.length_drop]
    have hql : l.length / 2 ≤ l.length := by omega
    generalize l.length / 2 = q at *
    refine ref08_join h hB.src rfl (Src.pre1 hA.src hcap q) (by omega) (by omega) ?_
    clear h
    intro A1 c1 M h
    repeat (first | (refine s_nwc h ?_; clear h; intro kb M h) | (refine s_stc h ?_; clear h; intro M h) | refine t_exI h ?_ | refine t_exB h ?_ | refine t_exS h ?_ | refine t_exP h ?_ | refine t_exSl h ?_ | refine t_exV h ?_ | refine u_exI ?_ | refine u_exB ?_ | refine u_exS ?_ | refine u_exP ?_ | refine u_exSl ?_ | refine u_exV ?_ | refine u_nilc ?_ | (apply Exists.intro; (repeat apply Exists.intro); refine And.intro rfl ?_) | (refine And.intro ?_ ?_; first | exact trivial | exact rfl | exact t_ld h | (refine lds_s (t_ld h) ?_; (repeat (refine lds_s (t_ld h) ?_)); exact lds_nil) | omega) | refine u_bspT ?_ | refine u_bspF ?_)
    refine ref08_join (c := [v]) h Src.row rfl (Src.pt .here) rfl (by simp only [List.length_append, List.length_singleton]; omega) ?_
    clear h
    intro A2 c2 M h
    repeat (first | (refine s_nwc h ?_; clear h; intro kb M h) | (refine s_stc h ?_; clear h; intro M h) | refine t_exI h ?_ | refine t_exB h ?_ | refine t_exS h ?_ | refine t_exP h ?_ | refine t_exSl h ?_ | refine t_exV h ?_ | refine u_exI ?_ | refine u_exB ?_ | refine u_exS ?_ | refine u_exP ?_ | refine u_exSl ?_ | refine u_exV ?_ | refine u_nilc ?_ | (apply Exists.intro; (repeat apply Exists.intro); refine And.intro rfl ?_) | (refine And.intro ?_ ?_; first | exact trivial | exact rfl | exact t_ld h | (refine lds_s (t_ld h) ?_; (repeat (refine lds_s (t_ld h) ?_)); exact lds_nil) | omega) | refine u_bspT ?_ | refine u_bspF ?_)
    try simp only [e2, Int.toNat_natCast]
    repeat (first | (refine s_nwc h ?_; clear h; intro kb M h) | (refine s_stc h ?_; clear h; intro M h) | refine t_exI h ?_ | refine t_exB h ?_ | refine t_exS h ?_ | refine t_exP h ?_ | refine t_exSl h ?_ | refine t_exV h ?_ | refine u_exI ?_ | refine u_exB ?_ | refine u_exS ?_ | refine u_exP ?_ | refine u_exSl ?_ | refine u_exV ?_ | refine u_nilc ?_ | (apply Exists.intro; (repeat apply Exists.intro); refine And.intro rfl ?_) | (refine And.intro ?_ ?_; first | exact trivial | exact rfl | exact t_ld h | (refine lds_s (t_ld h) ?_; (repeat (refine lds_s (t_ld h) ?_)); exact lds_nil) | omega) | refine u_bspT ?_ | refine u_bspF ?_)
    refine ref08_join (a := []) h (Src.nil _ _) rfl (Src.suf1 hA.src hcap q) (by omega) (by simp only [List.length_nil]; omega) ?_
    clear h
    intro A3 c3 M h
    repeat (first | (refine s_nwc h ?_; clear h; intro kb M h) | (refine s_stc h ?_; clear h; intro M h) | refine t_exI h ?_ | refine t_exB h ?_ | refine t_exS h ?_ | refine t_exP h ?_ | refine t_exSl h ?_ | refine t_exV h ?_ | refine u_exI ?_ | refine u_exB ?_ | refine u_exS ?_ | refine u_exP ?_ | refine u_exSl ?_ | refine u_exV ?_ | refine u_nilc ?_ | (apply Exists.intro; (repeat apply Exists.intro); refine And.intro rfl ?_) | (refine And.intro ?_ ?_; first | exact trivial | exact rfl | exact t_ld h | (refine lds_s (t_ld h) ?_; (repeat (refine lds_s (t_ld h) ?_)); exact lds_nil) | omega) | refine u_bspT ?_ | refine u_bspF ?_)
    have h' := h.sealRow A3
    clear h
    obtain ⟨R1, g1, s1, h⟩ := h'
    have h' := h.sealRow A2
    clear h
    obtain ⟨R2, g2, s2, h⟩ := h'
    rw [List.append_assoc] at s2
    rw [List.append_assoc, List.nil_append, wrap_succ (by omega)]
    exact k R2 _ _ _ _ _ (Mem.le_trans g1 g2) h.fin0 (s1.le g2) s2
theorem ref08_Ready {v : Int} {A B : Option Addr} {c cb : Nat} (h : Hp R L M) (ok : x.Ok) (hx : -1 ≤ x.next) (hA : RS intE R A c x.l) (hB : RS intE R B cb g) (hs : g.length ≤ 100000000)
    (k : ∀ R' A' c' B' cb' M', R.le R' → Hp R' L M' → RS intE R' A' c' (x.ready v g).1.l → RS intE R' B' cb' (x.ready v g).2.1 →
      K (.tuple #[.agg #[.int .i64 (x.ready v g).1.next, .slice A' (x.ready v g).1.l.length c', .int .i64 ((x.ready v g).1.room : Int)], .slice B' (x.ready v g).2.1.length cb', .int .i64 ((x.ready v g).2.2 : Int)]) M') :
    ACalls Try.prog 96 #[.agg #[.int .i64 x.next, .slice A x.l.length c, .int .i64 (x.room : Int)], .int .i64 v, .slice B g.length cb] M K Kp := by
  obtain ⟨next, room, l⟩ := x
  dsimp only at *
  refine vc_shunterref08_Ready ?_
  repeat (first | (refine s_nwc h ?_; clear h; intro kb M h) | (refine s_stc h ?_; clear h; intro M h) | refine t_exI h ?_ | refine t_exB h ?_ | refine t_exS h ?_ | refine t_exP h ?_ | refine t_exSl h ?_ | refine t_exV h ?_ | refine u_exI ?_ | refine u_exB ?_ | refine u_exS ?_ | refine u_exP ?_ | refine u_exSl ?_ | refine u_exV ?_ | refine u_nilc ?_ | (apply Exists.intro; (repeat apply Exists.intro); refine And.intro rfl ?_) | (refine And.intro ?_ ?_; first | exact trivial | exact rfl | exact t_ld h | (refine lds_s (t_ld h) ?_; (repeat (refine lds_s (t_ld h) ?_)); exact lds_nil) | omega) | refine u_bspT ?_ | refine u_bspF ?_)
  refine bsp_dec.2 ⟨fun hlt => ?_, fun hge => ?_⟩
  · have hp : (Loc.mk next room l).ready v g = (⟨v, room, l⟩, g, 0) := by unfold Loc.ready; dsimp only; rw [if_pos (by omega)]
    rw [hp] at k
    dsimp only at k
    repeat (first | (refine s_nwc h ?_; clear h; intro kb M h) | (refine s_stc h ?_; clear h; intro M h) | refine t_exI h ?_ | refine t_exB h ?_ | refine t_exS h ?_ | refine t_exP h ?_ | refine t_exSl h ?_ | refine t_exV h ?_ | refine u_exI ?_ | refine u_exB ?_ | refine u_exS ?_ | refine u_exP ?_ | refine u_exSl ?_ | refine u_exV ?_ | refine u_nilc ?_ | (apply Exists.intro; (repeat apply Exists.intro); refine And.intro rfl ?_) | (refine And.intro ?_ ?_; first | exact trivial | exact rfl | exact t_ld h | (refine lds_s (t_ld h) ?_; (repeat (refine lds_s (t_ld h) ?_)); exact lds_nil) | omega) | refine u_bspT ?_ | refine u_bspF ?_)
    exact k R _ _ _ _ _ (Mem.le_refl R) h.fin0 hA hB
  · have hp : (Loc.mk next room l).ready v g = (Loc.mk v room l).put next g := by unfold Loc.ready; dsimp only; rw [if_neg (by omega)]
    rw [hp] at k
    repeat (first | (refine s_nwc h ?_; clear h; intro kb M h) | (refine s_stc h ?_; clear h; intro M h) | refine t_exI h ?_ | refine t_exB h ?_ | refine t_exS h ?_ | refine t_exP h ?_ | refine t_exSl h ?_ | refine t_exV h ?_ | refine u_exI ?_ | refine u_exB ?_ | refine u_exS ?_ | refine u_exP ?_ | refine u_exSl ?_ | refine u_exV ?_ | refine u_nilc ?_ | (apply Exists.intro; (repeat apply Exists.intro); refine And.intro rfl ?_) | (refine And.intro ?_ ?_; first | exact trivial | exact rfl | exact t_ld h | (refine lds_s (t_ld h) ?_; (repeat (refine lds_s (t_ld h) ?_)); exact lds_nil) | omega) | refine u_bspT ?_ | refine u_bspF ?_)
    refine ref08_Put (x := ⟨v, room, l⟩) h ok hA hB hs fun R1 A1 c1 B1 cb1 M g1 h' s1 s2 => ?_
    clear h
    have h := h'
    clear h'
    generalize (Loc.mk v room l).put next g = z at *
    repeat (first | (refine s_nwc h ?_; clear h; intro kb M h) | (refine s_stc h ?_; clear h; intro M h) | refine t_exI h ?_ | refine t_exB h ?_ | refine t_exS h ?_ | refine t_exP h ?_ | refine t_exSl h ?_ | refine t_exV h ?_ | refine u_exI ?_ | refine u_exB ?_ | refine u_exS ?_ | refine u_exP ?_ | refine u_exSl ?_ | refine u_exV ?_ | refine u_nilc ?_ | (apply Exists.intro; (repeat apply Exists.intro); refine And.intro rfl ?_) | (refine And.intro ?_ ?_; first | exact trivial | exact rfl | exact t_ld h | (refine lds_s (t_ld h) ?_; (repeat (refine lds_s (t_ld h) ?_)); exact lds_nil) | omega) | refine u_bspT ?_ | refine u_bspF ?_)
    exact k R1 _ _ _ _ _ g1 h.fin0 s1 s2
theorem ref08_Turn {A B : Option Addr} {c cb : Nat} (h : Hp R L M) (ok : x.Ok) (hx : -1 ≤ x.next) (hA : RS intE R A c x.l) (hB : RS intE R B cb g) (hs : g.length ≤ 100000000)
    (k : ∀ R' A' c' B' cb' M', R.le R' → Hp R' L M' → RS intE R' A' c' (x.turn g).1.l → RS intE R' B' cb' (x.turn g).2.1 →
      K (.tuple #[.agg #[.int .i64 (x.turn g).1.next, .slice A' (x.turn g).1.l.length c', .int .i64 ((x.turn g).1.room : Int)], .slice B' (x.turn g).2.1.length cb', .int .i64 ((x.turn g).2.2 : Int)]) M') :
    ACalls Try.prog 104 #[.agg #[.int .i64 x.next, .slice A x.l.length c, .int .i64 (x.room : Int)], .slice B g.length cb] M K Kp := by
  obtain ⟨next, room, l⟩ := x
  dsimp only at *
  refine vc_shunterref08_Turn ?_
  repeat (first | (refine s_nwc h ?_; clear h; intro kb M h) | (refine s_stc h ?_; clear h; intro M h) | refine t_exI h ?_ | refine t_exB h ?_ | refine t_exS h ?_ | refine t_exP h ?_ | refine t_exSl h ?_ | refine t_exV h ?_ | refine u_exI ?_ | refine u_exB ?_ | refine u_exS ?_ | refine u_exP ?_ | refine u_exSl ?_ | refine u_exV ?_ | refine u_nilc ?_ | (apply Exists.intro; (repeat apply Exists.intro); refine And.intro rfl ?_) | (refine And.intro ?_ ?_; first | exact trivial | exact rfl | exact t_ld h | (refine lds_s (t_ld h) ?_; (repeat (refine lds_s (t_ld h) ?_)); exact lds_nil) | omega) | refine u_bspT ?_ | refine u_bspF ?_)
  refine bsp_dec.2 ⟨fun hlt => ?_, fun hge => ?_⟩
  · have hn : next = -1 := by omega
    subst hn
    have hp : (Loc.mk (-1) room l).turn g = (⟨-1, room, l⟩, g, 0) := by unfold Loc.turn; dsimp only; rw [if_pos rfl]
    rw [hp] at k
    dsimp only at k
    repeat (first | (refine s_nwc h ?_; clear h; intro kb M h) | (refine s_stc h ?_; clear h; intro M h) | refine t_exI h ?_ | refine t_exB h ?_ | refine t_exS h ?_ | refine t_exP h ?_ | refine t_exSl h ?_ | refine t_exV h ?_ | refine u_exI ?_ | refine u_exB ?_ | refine u_exS ?_ | refine u_exP ?_ | refine u_exSl ?_ | refine u_exV ?_ | refine u_nilc ?_ | (apply Exists.intro; (repeat apply Exists.intro); refine And.intro rfl ?_) | (refine And.intro ?_ ?_; first | exact trivial | exact rfl | exact t_ld h | (refine lds_s (t_ld h) ?_; (repeat (refine lds_s (t_ld h) ?_)); exact lds_nil) | omega) | refine u_bspT ?_ | refine u_bspF ?_)
    exact k R _ _ _ _ _ (Mem.le_refl R) h.fin0 hA hB
  · have hp : (Loc.mk next room l).turn g = (Loc.mk (-1) room l).put next g := by unfold Loc.turn; dsimp only; rw [if_neg (by omega)]
    rw [hp] at k
    repeat (first | (refine s_nwc h ?_; clear h; intro kb M h) | (refine s_stc h ?_; clear h; intro M h) | refine t_exI h ?_ | refine t_exB h ?_ | refine t_exS h ?_ | refine t_exP h ?_ | refine t_exSl h ?_ | refine t_exV h ?_ | refine u_exI ?_ | refine u_exB ?_ | refine u_exS ?_ | refine u_exP ?_ | refine u_exSl ?_ | refine u_exV ?_ | refine u_nilc ?_ | (apply Exists.intro; (repeat apply Exists.intro); refine And.intro rfl ?_) | (refine And.intro ?_ ?_; first | exact trivial | exact rfl | exact t_ld h | (refine lds_s (t_ld h) ?_; (repeat (refine lds_s (t_ld h) ?_)); exact lds_nil) | omega) | refine u_bspT ?_ | refine u_bspF ?_)
    refine ref08_Put (x := ⟨-1, room, l⟩) h ok hA hB hs fun R1 A1 c1 B1 cb1 M g1 h' s1 s2 => ?_
    clear h
    have h := h'
    clear h'
    generalize (Loc.mk (-1) room l).put next g = z at *
    repeat (first | (refine s_nwc h ?_; clear h; intro kb M h) | (refine s_stc h ?_; clear h; intro M h) | refine t_exI h ?_ | refine t_exB h ?_ | refine t_exS h ?_ | refine t_exP h ?_ | refine t_exSl h ?_ | refine t_exV h ?_ | refine u_exI ?_ | refine u_exB ?_ | refine u_exS ?_ | refine u_exP ?_ | refine u_exSl ?_ | refine u_exV ?_ | refine u_nilc ?_ | (apply Exists.intro; (repeat apply Exists.intro); refine And.intro rfl ?_) | (refine And.intro ?_ ?_; first | exact trivial | exact rfl | exact t_ld h | (refine lds_s (t_ld h) ?_; (repeat (refine lds_s (t_ld h) ?_)); exact lds_nil) | omega) | refine u_bspT ?_ | refine u_bspF ?_)
    exact k R1 _ _ _ _ _ g1 h.fin0 s1 s2
theorem ref08_Get {A : Option Addr} {c : Nat} (h : Hp R L M) (ok : x.Ok) (hx : -1 ≤ x.next) (hA : RS intE R A c x.l)
    (k : ∀ R' A' c' M', R.le R' → Hp R' L M' → RS intE R' A' c' x.get.1.l → K (.tuple #[.agg #[.int .i64 x.get.1.next, .slice A' x.get.1.l.length c', .int .i64 (x.get.1.room : Int)], .int .i64 x.get.2]) M') :
    ACalls Try.prog 98 #[.agg #[.int .i64 x.next, .slice A x.l.length c, .int .i64 (x.room : Int)]] M K Kp := by
  obtain ⟨next, room, l⟩ := x
  obtain ⟨ok1, ok2, ok3⟩ := ok
  dsimp only at *
  refine vc_shunterref08_Get ?_
  repeat (first | (refine s_nwc h ?_; clear h; intro kb M h) | (refine s_stc h ?_; clear h; intro M h) | refine t_exI h ?_ | refine t_exB h ?_ | refine t_exS h ?_ | refine t_exP h ?_ | refine t_exSl h ?_ | refine t_exV h ?_ | refine u_exI ?_ | refine u_exB ?_ | refine u_exS ?_ | refine u_exP ?_ | refine u_exSl ?_ | refine u_exV ?_ | refine u_nilc ?_ | (apply Exists.intro; (repeat apply Exists.intro); refine And.intro rfl ?_) | (refine And.intro ?_ ?_; first | exact trivial | exact rfl | exact t_ld h | (refine lds_s (t_ld h) ?_; (repeat (refine lds_s (t_ld h) ?_)); exact lds_nil) | omega) | refine u_bspT ?_ | refine u_bspF ?_)
  refine bsp_dec.2 ⟨fun hlt => ?_, fun hge => ?_⟩
  · have hp : (Loc.mk next room l).get = (⟨-1, room, l⟩, next) := by unfold Loc.get; dsimp only; rw [if_pos (by omega)]
    rw [hp] at k
    dsimp only at k
    repeat (first | (refine s_nwc h ?_; clear h; intro kb M h) | (refine s_stc h ?_; clear h; intro M h) | refine t_exI h ?_ | refine t_exB h ?_ | refine t_exS h ?_ | refine t_exP h ?_ | refine t_exSl h ?_ | refine t_exV h ?_ | refine u_exI ?_ | refine u_exB ?_ | refine u_exS ?_ | refine u_exP ?_ | refine u_exSl ?_ | refine u_exV ?_ | refine u_nilc ?_ | (apply Exists.intro; (repeat apply Exists.intro); refine And.intro rfl ?_) | (refine And.intro ?_ ?_; first | exact trivial | exact rfl | exact t_ld h | (refine lds_s (t_ld h) ?_; (repeat (refine lds_s (t_ld h) ?_)); exact lds_nil) | omega) | refine u_bspT ?_ | refine u_bspF ?_)
    exact k R _ _ _ (Mem.le_refl R) h.fin0 hA
  · repeat (first | (refine s_nwc h ?_; clear h; intro kb M h) | (refine s_stc h ?_; clear h; intro M h) | refine t_exI h ?_ | refine t_exB h ?_ | refine t_exS h ?_ | refine t_exP h ?_ | refine t_exSl h ?_ | refine t_exV h ?_ | refine u_exI ?_ | refine u_exB ?_ | refine u_exS ?_ | refine u_exP ?_ | refine u_exSl ?_ | refine u_exV ?_ | refine u_nilc ?_ | (apply Exists.intro; (repeat apply Exists.intro); refine And.intro rfl ?_) | (refine And.intro ?_ ?_; first | exact trivial | exact rfl | exact t_ld h | (refine lds_s (t_ld h) ?_; (repeat (refine lds_s (t_ld h) ?_)); exact lds_nil) | omega) | refine u_bspT ?_ | refine u_bspF ?_)
    cases l with
    | nil =>
      have hp : (Loc.mk next room []).get = (⟨next, room, []⟩, -1) := by unfold Loc.get; dsimp only; rw [if_neg (by omega)]
      rw [hp] at k
      dsimp only at k
      refine u_bspC rfl ?_
      repeat (first | (refine s_nwc h ?_; clear h; intro kb M h) | (refine s_stc h ?_; clear h; intro M h) | refine t_exI h ?_ | refine t_exB h ?_ | refine t_exS h ?_ | refine t_exP h ?_ | refine t_exSl h ?_ | refine t_exV h ?_ | refine u_exI ?_ | refine u_exB ?_ | refine u_exS ?_ | refine u_exP ?_ | refine u_exSl ?_ | refine u_exV ?_ | refine u_nilc ?_ | (apply Exists.intro; (repeat apply Exists.intro); refine And.intro rfl ?_) | (refine And.intro ?_ ?_; first | exact trivial | exact rfl | exact t_ld h | (refine lds_s (t_ld h) ?_; (repeat (refine lds_s (t_ld h) ?_)); exact lds_nil) | omega) | refine u_bspT ?_ | refine u_bspF ?_)
      exact k R _ _ _ (Mem.le_refl R) h.fin0 hA
    | cons v l =>
      have hp : (Loc.mk next room (v :: l)).get = (⟨next, room, l⟩, v) := by unfold Loc.get; dsimp only; rw [if_neg (by omega)]
      rw [hp] at k
      dsimp only at k
      have hcap := hA.2
      have hvl : (v :: l).length = l.length + 1 := rfl
      refine u_bspD (by simp; omega) ?_
      try simp only [List.length_cons]
      obtain ⟨b1, o1, rfl⟩ := hA.some (by simp) (by decide)
      repeat (first | (refine s_nwc h ?_; clear h; intro kb M h) | (refine s_stc h ?_; clear h; intro M h) | refine t_exI h ?_ | refine t_exB h ?_ | refine t_exS h ?_ | refine t_exP h ?_ | refine t_exSl h ?_ | refine t_exV h ?_ | refine u_exI ?_ | refine u_exB ?_ | refine u_exS ?_ | refine u_exP ?_ | refine u_exSl ?_ | refine u_exV ?_ | refine u_nilc ?_ | (apply Exists.intro; (repeat apply Exists.intro); refine And.intro rfl ?_) | (refine And.intro ?_ ?_; first | exact trivial | exact rfl | exact t_ld h | (refine lds_s (t_ld h) ?_; (repeat (refine lds_s (t_ld h) ?_)); exact lds_nil) | omega) | refine u_bspT ?_ | refine u_bspF ?_)
      refine v_exI (hA.src.at h (i := 0) (j := 0) rfl rfl (by simp [intE])) ?_
      repeat (first | (refine s_nwc h ?_; clear h; intro kb M h) | (refine s_stc h ?_; clear h; intro M h) | refine t_exI h ?_ | refine t_exB h ?_ | refine t_exS h ?_ | refine t_exP h ?_ | refine t_exSl h ?_ | refine t_exV h ?_ | refine u_exI ?_ | refine u_exB ?_ | refine u_exS ?_ | refine u_exP ?_ | refine u_exSl ?_ | refine u_exV ?_ | refine u_nilc ?_ | (apply Exists.intro; (repeat apply Exists.intro); refine And.intro rfl ?_) | (refine And.intro ?_ ?_; first | exact trivial | exact rfl | exact t_ld h | (refine lds_s (t_ld h) ?_; (repeat (refine lds_s (t_ld h) ?_)); exact lds_nil) | omega) | refine u_bspT ?_ | refine u_bspF ?_)
      try simp only [Int.toNat_natCast]
      repeat (first | (refine s_nwc h ?_; clear h; intro kb M h) | (refine s_stc h ?_; clear h; intro M h) | refine t_exI h ?_ | refine t_exB h ?_ | refine t_exS h ?_ | refine t_exP h ?_ | refine t_exSl h ?_ | refine t_exV h ?_ | refine u_exI ?_ | refine u_exB ?_ | refine u_exS ?_ | refine u_exP ?_ | refine u_exSl ?_ | refine u_exV ?_ | refine u_nilc ?_ | (apply Exists.intro; (repeat apply Exists.intro); refine And.intro rfl ?_) | (refine And.intro ?_ ?_; first | exact trivial | exact rfl | exact t_ld h | (refine lds_s (t_ld h) ?_; (repeat (refine lds_s (t_ld h) ?_)); exact lds_nil) | omega) | refine u_bspT ?_ | refine u_bspF ?_)
      refine ref08_join (a := []) (c := l) h (Src.nil _ _) rfl (Src.suf1 hA.src hA.2 1) (by simp) (by simp; omega) ?_
      clear h
      intro A3 c3 M h
      repeat (first | (refine s_nwc h ?_; clear h; intro kb M h) | (refine s_stc h ?_; clear h; intro M h) | refine t_exI h ?_ | refine t_exB h ?_ | refine t_exS h ?_ | refine t_exP h ?_ | refine t_exSl h ?_ | refine t_exV h ?_ | refine u_exI ?_ | refine u_exB ?_ | refine u_exS ?_ | refine u_exP ?_ | refine u_exSl ?_ | refine u_exV ?_ | refine u_nilc ?_ | (apply Exists.intro; (repeat apply Exists.intro); refine And.intro rfl ?_) | (refine And.intro ?_ ?_; first | exact trivial | exact rfl | exact t_ld h | (refine lds_s (t_ld h) ?_; (repeat (refine lds_s (t_ld h) ?_)); exact lds_nil) | omega) | refine u_bspT ?_ | refine u_bspF ?_)
      have h' := h.sealRow A3
      clear h
      obtain ⟨R1, g1, s1, h⟩ := h'
      exact k R1 _ _ _ g1 h.fin0 s1
theorem ref08_Fetch {p : Int} {A B : Option Addr} {c cb : Nat} (h : Hp R L M) (ok : x.Ok) (hp9 : p < 9223372036854775808) (hA : RS intE R A c x.l) (hB : RS intE R B cb g) (hs : g.length ≤ 100000000)
    (k : ∀ R' A' c' B' cb' M', R.le R' → Hp R' L M' → RS intE R' A' c' (x.fetch g p).1.l → RS intE R' B' cb' (x.fetch g p).2.1 →
      K (.tuple #[.agg #[.int .i64 (x.fetch g p).1.next, .slice A' (x.fetch g p).1.l.length c', .int .i64 ((x.fetch g p).1.room : Int)], .slice B' (x.fetch g p).2.1.length cb', .int .i64 (x.fetch g p).2.2]) M') :
    ACalls Try.prog 101 #[.agg #[.int .i64 x.next, .slice A x.l.length c, .int .i64 (x.room : Int)], .slice B g.length cb, .int .i64 p] M K Kp := by
  obtain ⟨next, room, l⟩ := x
  obtain ⟨ok1, ok2, ok3⟩ := ok
  dsimp only at *
  refine vc_shunterref08_Fetch ?_
  have hcap := hB.2
  have hn0 : 1 ≤ (Loc.mk next room l).fetchN g p := by unfold Loc.fetchN; generalize g.length / p.toNat = q; dsimp only; split <;> omega
  have hn1 : l.length + ((Loc.mk next room l).fetchN g p - 1) ≤ room := by unfold Loc.fetchN; generalize g.length / p.toNat = q; dsimp only; split <;> omega
  have e3 : IntKind.wrap .i64 (IntKind.wrap .i64 ((room : Int) - (l.length : Int)) + 1) = ((room - l.length + 1 : Nat) : Int) := by
    rw [wrap_in (n := (room : Int) - (l.length : Int)) (by omega) (by omega), wrap_in (by omega) (by omega)]; omega
  repeat (first | (refine s_nwc h ?_; clear h; intro kb M h) | (refine s_stc h ?_; clear h; intro M h) | refine t_exI h ?_ | refine t_exB h ?_ | refine t_exS h ?_ | refine t_exP h ?_ | refine t_exSl h ?_ | refine t_exV h ?_ | refine u_exI ?_ | refine u_exB ?_ | refine u_exS ?_ | refine u_exP ?_ | refine u_exSl ?_ | refine u_exV ?_ | refine u_nilc ?_ | (apply Exists.intro; (repeat apply Exists.intro); refine And.intro rfl ?_) | (refine And.intro ?_ ?_; first | exact trivial | exact rfl | exact t_ld h | (refine lds_s (t_ld h) ?_; (repeat (refine lds_s (t_ld h) ?_)); exact lds_nil) | omega) | refine u_bspT ?_ | refine u_bspF ?_)
  refine bsp_dec.2 ⟨fun hp1 => ?_, fun hp1 => ?_⟩
  · have hn : (if (g.length : Int) < (if ((room - l.length + 1 : Nat) : Int) < IntKind.wrap .i64 (IntKind.wrap .i64 (Int.tdiv (g.length : Int) p) + 1) then ((room - l.length + 1 : Nat) : Int) else IntKind.wrap .i64 (IntKind.wrap .i64 (Int.tdiv (g.length : Int) p) + 1)) then (g.length : Int) else (if ((room - l.length + 1 : Nat) : Int) < IntKind.wrap .i64 (IntKind.wrap .i64 (Int.tdiv (g.length : Int) p) + 1) then ((room - l.length + 1 : Nat) : Int) else IntKind.wrap .i64 (IntKind.wrap .i64 (Int.tdiv (g.length : Int) p) + 1))) = ((min ((Loc.mk next room l).fetchN g p) g.length : Nat) : Int) := by
      obtain ⟨q, rfl⟩ := Int.eq_ofNat_of_zero_le (show 0 ≤ p by omega)
      have hd : g.length / q ≤ g.length := Nat.div_le_self ..
      have e2 : IntKind.wrap .i64 (Int.tdiv (g.length : Int) (q : Int)) = ((g.length / q : Nat) : Int) := wn rfl (by omega)
      rw [e2, wrap_succ (by omega)]
      have hf : (Loc.mk next room l).fetchN g (q : Int) = min (g.length / q + 1) (room - l.length + 1) := by unfold Loc.fetchN; rw [if_neg (show ¬ (q : Int) < 1 by omega), Int.toNat_natCast]
      rw [hf]
      clear hf hn0 hn1
      generalize g.length / q = z at *
      have hw : (if ((room - l.length + 1 : Nat) : Int) < ((z + 1 : Nat) : Int) then ((room - l.length + 1 : Nat) : Int) else ((z + 1 : Nat) : Int)) = ((min (z + 1) (room - l.length + 1) : Nat) : Int) := by split <;> omega
      rw [hw]
      split <;> omega
    repeat (first | (refine s_nwc h ?_; clear h; intro kb M h) | (refine s_stc h ?_; clear h; intro M h) | refine t_exI h ?_ | refine t_exB h ?_ | refine t_exS h ?_ | refine t_exP h ?_ | refine t_exSl h ?_ | refine t_exV h ?_ | refine u_exI ?_ | refine u_exB ?_ | refine u_exS ?_ | refine u_exP ?_ | refine u_exSl ?_ | refine u_exV ?_ | refine u_nilc ?_ | (apply Exists.intro; (repeat apply Exists.intro); refine And.intro rfl ?_) | (refine And.intro ?_ ?_; first | exact trivial | exact rfl | exact t_ld h | (refine lds_s (t_ld h) ?_; (repeat (refine lds_s (t_ld h) ?_)); exact lds_nil) | omega) | refine u_bspT ?_ | refine u_bspF ?_)
    simp only [e3, hn]
    cases hg : g.take ((Loc.mk next room l).fetchN g p) with
    | nil =>
      have hg0 : g = [] := by
        have := congrArg List.length hg
        rw [List.length_take, List.length_nil] at this
        exact List.length_eq_zero_iff.1 (by omega)
      have hp : (Loc.mk next room l).fetch g p = (⟨next, room, l⟩, g, -1) := by unfold Loc.fetch; rw [hg]
      rw [hp] at k
      dsimp only at k
      refine u_bspC (by rw [hg0]; simp) ?_
      repeat (first | (refine s_nwc h ?_; clear h; intro kb M h) | (refine s_stc h ?_; clear h; intro M h) | refine t_exI h ?_ | refine t_exB h ?_ | refine t_exS h ?_ | refine t_exP h ?_ | refine t_exSl h ?_ | refine t_exV h ?_ | refine u_exI ?_ | refine u_exB ?_ | refine u_exS ?_ | refine u_exP ?_ | refine u_exSl ?_ | refine u_exV ?_ | refine u_nilc ?_ | (apply Exists.intro; (repeat apply Exists.intro); refine And.intro rfl ?_) | (refine And.intro ?_ ?_; first | exact trivial | exact rfl | exact t_ld h | (refine lds_s (t_ld h) ?_; (repeat (refine lds_s (t_ld h) ?_)); exact lds_nil) | omega) | refine u_bspT ?_ | refine u_bspF ?_)
      exact k R _ _ _ _ _ (Mem.le_refl R) h.fin0 hA hB
    | cons v out =>
      have hp : (Loc.mk next room l).fetch g p = (⟨next, room, l ++ out⟩, g.drop ((Loc.mk next room l).fetchN g p), v) := by unfold Loc.fetch; dsimp only; rw [hg]
      rw [hp] at k
      dsimp only at k
      have hN : g.drop ((Loc.mk next room l).fetchN g p) = g.drop (min ((Loc.mk next room l).fetchN g p) g.length) ∧ g.take ((Loc.mk next room l).fetchN g p) = g.take (min ((Loc.mk next room l).fetchN g p) g.length) := by
        rcases Nat.le_total ((Loc.mk next room l).fetchN g p) g.length with hl | hl
        · rw [Nat.min_eq_left hl]; exact ⟨rfl, rfl⟩
        · rw [Nat.min_eq_right hl, List.take_of_length_le hl, List.drop_of_length_le hl]; simp
      rw [hN.1] at k
      rw [hN.2] at hg
      have hNl : min ((Loc.mk next room l).fetchN g p) g.length ≤ g.length := Nat.min_le_right ..
      have hNf : min ((Loc.mk next room l).fetchN g p) g.length ≤ (Loc.mk next room l).fetchN g p := Nat.min_le_left ..
      generalize min ((Loc.mk next room l).fetchN g p) g.length = N at *
      have hol : out.length + 1 = N := by
        have := congrArg List.length hg
        rw [List.length_take, List.length_cons] at this
        omega
      have hv : g[0]? = some v := by
        have := congrArg (fun l => l[0]?) hg
        simpa [List.getElem?_take, show 0 < N by omega] using this
      have s0 : ∀ L, Src R L (slA B 1 cb 1) (intE.cells out) := fun L => by
        have := Src.suf1 (c := cb) (L := L) (hB.src.takeE N) (by rw [List.length_take]; omega) 1
        rw [hg] at this
        exact this
      obtain ⟨b1, o1, rfl⟩ := hB.some (by omega) (by decide)
      refine u_bspD (by simp; omega) ?_
      simp only [Int.toNat_natCast]
      repeat (first | (refine s_nwc h ?_; clear h; intro kb M h) | (refine s_stc h ?_; clear h; intro M h) | refine t_exI h ?_ | refine t_exB h ?_ | refine t_exS h ?_ | refine t_exP h ?_ | refine t_exSl h ?_ | refine t_exV h ?_ | refine u_exI ?_ | refine u_exB ?_ | refine u_exS ?_ | refine u_exP ?_ | refine u_exSl ?_ | refine u_exV ?_ | refine u_nilc ?_ | (apply Exists.intro; (repeat apply Exists.intro); refine And.intro rfl ?_) | (refine And.intro ?_ ?_; first | exact trivial | exact rfl | exact t_ld h | (refine lds_s (t_ld h) ?_; (repeat (refine lds_s (t_ld h) ?_)); exact lds_nil) | omega) | refine u_bspT ?_ | refine u_bspF ?_)
      refine ref08_join (c := out) h hA.src rfl (s0 _) (by omega) (by omega) ?_
      clear h
      intro A1 c1 M h
      repeat (first | (refine s_nwc h ?_; clear h; intro kb M h) | (refine s_stc h ?_; clear h; intro M h) | refine t_exI h ?_ | refine t_exB h ?_ | refine t_exS h ?_ | refine t_exP h ?_ | refine t_exSl h ?_ | refine t_exV h ?_ | refine u_exI ?_ | refine u_exB ?_ | refine u_exS ?_ | refine u_exP ?_ | refine u_exSl ?_ | refine u_exV ?_ | refine u_nilc ?_ | (apply Exists.intro; (repeat apply Exists.intro); refine And.intro rfl ?_) | (refine And.intro ?_ ?_; first | exact trivial | exact rfl | exact t_ld h | (refine lds_s (t_ld h) ?_; (repeat (refine lds_s (t_ld h) ?_)); exact lds_nil) | omega) | refine u_bspT ?_ | refine u_bspF ?_)
      refine v_exI (hB.src.at h (i := 0) (j := 0) hv rfl (by simp [intE])) ?_
      repeat (first | (refine s_nwc h ?_; clear h; intro kb M h) | (refine s_stc h ?_; clear h; intro M h) | refine t_exI h ?_ | refine t_exB h ?_ | refine t_exS h ?_ | refine t_exP h ?_ | refine t_exSl h ?_ | refine t_exV h ?_ | refine u_exI ?_ | refine u_exB ?_ | refine u_exS ?_ | refine u_exP ?_ | refine u_exSl ?_ | refine u_exV ?_ | refine u_nilc ?_ | (apply Exists.intro; (repeat apply Exists.intro); refine And.intro rfl ?_) | (refine And.intro ?_ ?_; first | exact trivial | exact rfl | exact t_ld h | (refine lds_s (t_ld h) ?_; (repeat (refine lds_s (t_ld h) ?_)); exact lds_nil) | omega) | refine u_bspT ?_ | refine u_bspF ?_)
      try simp only [Int.toNat_natCast]
      refine ref08_join (a := []) h (Src.nil _ _) rfl (Src.suf1 hB.src hcap N) (by rw [List.length_drop]) (by simp; omega) ?_
      clear h
      intro A2 c2 M h
      repeat (first | (refine s_nwc h ?_; clear h; intro kb M h) | (refine s_stc h ?_; clear h; intro M h) | refine t_exI h ?_ | refine t_exB h ?_ | refine t_exS h ?_ | refine t_exP h ?_ | refine t_exSl h ?_ | refine t_exV h ?_ | refine u_exI ?_ | refine u_exB ?_ | refine u_exS ?_ | refine u_exP ?_ | refine u_exSl ?_ | refine u_exV ?_ | refine u_nilc ?_ | (apply Exists.intro; (repeat apply Exists.intro); refine And.intro rfl ?_) | (refine And.intro ?_ ?_; first | exact trivial | exact rfl | exact t_ld h | (refine lds_s (t_ld h) ?_; (repeat (refine lds_s (t_ld h) ?_)); exact lds_nil) | omega) | refine u_bspT ?_ | refine u_bspF ?_)
      refine ⟨hB.src.at h (i := 0) (j := 0) hv rfl (by simp [intE]), ?_⟩
      repeat (first | (refine s_nwc h ?_; clear h; intro kb M h) | (refine s_stc h ?_; clear h; intro M h) | refine t_exI h ?_ | refine t_exB h ?_ | refine t_exS h ?_ | refine t_exP h ?_ | refine t_exSl h ?_ | refine t_exV h ?_ | refine u_exI ?_ | refine u_exB ?_ | refine u_exS ?_ | refine u_exP ?_ | refine u_exSl ?_ | refine u_exV ?_ | refine u_nilc ?_ | (apply Exists.intro; (repeat apply Exists.intro); refine And.intro rfl ?_) | (refine And.intro ?_ ?_; first | exact trivial | exact rfl | exact t_ld h | (refine lds_s (t_ld h) ?_; (repeat (refine lds_s (t_ld h) ?_)); exact lds_nil) | omega) | refine u_bspT ?_ | refine u_bspF ?_)
      refine ⟨hB.src.at h (i := 0) (j := 0) hv rfl (by simp [intE]), ?_⟩
      repeat (first | (refine s_nwc h ?_; clear h; intro kb M h) | (refine s_stc h ?_; clear h; intro M h) | refine t_exI h ?_ | refine t_exB h ?_ | refine t_exS h ?_ | refine t_exP h ?_ | refine t_exSl h ?_ | refine t_exV h ?_ | refine u_exI ?_ | refine u_exB ?_ | refine u_exS ?_ | refine u_exP ?_ | refine u_exSl ?_ | refine u_exV ?_ | refine u_nilc ?_ | (apply Exists.intro; (repeat apply Exists.intro); refine And.intro rfl ?_) | (refine And.intro ?_ ?_; first | exact trivial | exact rfl | exact t_ld h | (refine lds_s (t_ld h) ?_; (repeat (refine lds_s (t_ld h) ?_)); exact lds_nil) | omega) | refine u_bspT ?_ | refine u_bspF ?_)
      have h' := h.sealRow A2
      clear h
      obtain ⟨R1, g1, s1, h⟩ := h'
      have h' := h.sealRow A1
      clear h
      obtain ⟨R2, g2, s2, h⟩ := h'
      exact k R2 _ _ _ _ _ (Mem.le_trans g1 g2) h.fin0 s2 (s1.le g2)
  · have hn : (if (g.length : Int) < (if ((room - l.length + 1 : Nat) : Int) < 1 then ((room - l.length + 1 : Nat) : Int) else 1) then (g.length : Int) else (if ((room - l.length + 1 : Nat) : Int) < 1 then ((room - l.length + 1 : Nat) : Int) else 1)) = ((min ((Loc.mk next room l).fetchN g p) g.length : Nat) : Int) := by
      have hf : (Loc.mk next room l).fetchN g p = 1 := by unfold Loc.fetchN; rw [if_pos (show p < 1 by omega)]
      rw [hf]
      have hw : (if ((room - l.length + 1 : Nat) : Int) < 1 then ((room - l.length + 1 : Nat) : Int) else 1) = 1 := by split <;> omega
      rw [hw]
      split <;> omega
    repeat (first | (refine s_nwc h ?_; clear h; intro kb M h) | (refine s_stc h ?_; clear h; intro M h) | refine t_exI h ?_ | refine t_exB h ?_ | refine t_exS h ?_ | refine t_exP h ?_ | refine t_exSl h ?_ | refine t_exV h ?_ | refine u_exI ?_ | refine u_exB ?_ | refine u_exS ?_ | refine u_exP ?_ | refine u_exSl ?_ | refine u_exV ?_ | refine u_nilc ?_ | (apply Exists.intro; (repeat apply Exists.intro); refine And.intro rfl ?_) | (refine And.intro ?_ ?_; first | exact trivial | exact rfl | exact t_ld h | (refine lds_s (t_ld h) ?_; (repeat (refine lds_s (t_ld h) ?_)); exact lds_nil) | omega) | refine u_bspT ?_ | refine u_bspF ?_)
    simp only [e3, hn]
    cases hg : g.take ((Loc.mk next room l).fetchN g p) with
    | nil =>
      have hg0 : g = [] := by
        have := congrArg List.length hg
        rw [List.length_take, List.length_nil] at this
        exact List.length_eq_zero_iff.1 (by omega)
      have hp : (Loc.mk next room l).fetch g p = (⟨next, room, l⟩, g, -1) := by unfold Loc.fetch; rw [hg]
      rw [hp] at k
      dsimp only at k
      refine u_bspC (by rw [hg0]; simp) ?_
      repeat (first | (refine s_nwc h ?_; clear h; intro kb M h) | (refine s_stc h ?_; clear h; intro M h) | refine t_exI h ?_ | refine t_exB h ?_ | refine t_exS h ?_ | refine t_exP h ?_ | refine t_exSl h ?_ | refine t_exV h ?_ | refine u_exI ?_ | refine u_exB ?_ | refine u_exS ?_ | refine u_exP ?_ | refine u_exSl ?_ | refine u_exV ?_ | refine u_nilc ?_ | (apply Exists.intro; (repeat apply Exists.intro); refine And.intro rfl ?_) | (refine And.intro ?_ ?_; first | exact trivial | exact rfl | exact t_ld h | (refine lds_s (t_ld h) ?_; (repeat (refine lds_s (t_ld h) ?_)); exact lds_nil) | omega) | refine u_bspT ?_ | refine u_bspF ?_)
      exact k R _ _ _ _ _ (Mem.le_refl R) h.fin0 hA hB
    | cons v out =>
      have hp : (Loc.mk next room l).fetch g p = (⟨next, room, l ++ out⟩, g.drop ((Loc.mk next room l).fetchN g p), v) := by unfold Loc.fetch; dsimp only; rw [hg]
      rw [hp] at k
      dsimp only at k
      have hN : g.drop ((Loc.mk next room l).fetchN g p) = g.drop (min ((Loc.mk next room l).fetchN g p) g.length) ∧ g.take ((Loc.mk next room l).fetchN g p) = g.take (min ((Loc.mk next room l).fetchN g p) g.length) := by
        rcases Nat.le_total ((Loc.mk next room l).fetchN g p) g.length with hl | hl
        · rw [Nat.min_eq_left hl]; exact ⟨rfl, rfl⟩
        · rw [Nat.min_eq_right hl, List.take_of_length_le hl, List.drop_of_length_le hl]; simp
      rw [hN.1] at k
      rw [hN.2] at hg
      have hNl : min ((Loc.mk next room l).fetchN g p) g.length ≤ g.length := Nat.min_le_right ..
      have hNf : min ((Loc.mk next room l).fetchN g p) g.length ≤ (Loc.mk next room l).fetchN g p := Nat.min_le_left ..
      generalize min ((Loc.mk next room l).fetchN g p) g.length = N at *
      have hol : out.length + 1 = N := by
        have := congrArg List.length hg
        rw [List.length_take, List.length_cons] at this
        omega
      have hv : g[0]? = some v := by
        have := congrArg (fun l => l[0]?) hg
        simpa [List.getElem?_take, show 0 < N by omega] using this
      have s0 : ∀ L, Src R L (slA B 1 cb 1) (intE.cells out) := fun L => by
        have := Src.suf1 (c := cb) (L := L) (hB.src.takeE N) (by rw [List.length_take]; omega) 1
        rw [hg] at this
        exact this
      obtain ⟨b1, o1, rfl⟩ := hB.some (by omega) (by decide)
      refine u_bspD (by simp; omega) ?_
      simp only [Int.toNat_natCast]
      repeat (first | (refine s_nwc h ?_; clear h; intro kb M h) | (refine s_stc h ?_; clear h; intro M h) | refine t_exI h ?_ | refine t_exB h ?_ | refine t_exS h ?_ | refine t_exP h ?_ | refine t_exSl h ?_ | refine t_exV h ?_ | refine u_exI ?_ | refine u_exB ?_ | refine u_exS ?_ | refine u_exP ?_ | refine u_exSl ?_ | refine u_exV ?_ | refine u_nilc ?_ | (apply Exists.intro; (repeat apply Exists.intro); refine And.intro rfl ?_) | (refine And.intro ?_ ?_; first | exact trivial | exact rfl | exact t_ld h | (refine lds_s (t_ld h) ?_; (repeat (refine lds_s (t_ld h) ?_)); exact lds_nil) | omega) | refine u_bspT ?_ | refine u_bspF ?_)
      refine ref08_join (c := out) h hA.src rfl (s0 _) (by omega) (by omega) ?_
      clear h
      intro A1 c1 M h
      repeat (first | (refine s_nwc h ?_; clear h; intro kb M h) | (refine s_stc h ?_; clear h; intro M h) | refine t_exI h ?_ | refine t_exB h ?_ | refine t_exS h ?_ | refine t_exP h ?_ | refine t_exSl h ?_ | refine t_exV h ?_ | refine u_exI ?_ | refine u_exB ?_ | refine u_exS ?_ | refine u_exP ?_ | refine u_exSl ?_ | refine u_exV ?_ | refine u_nilc ?_ | (apply Exists.intro; (repeat apply Exists.intro); refine And.intro rfl ?_) | (refine And.intro ?_ ?_; first | exact trivial | exact rfl | exact t_ld h | (refine lds_s (t_ld h) ?_; (repeat (refine lds_s (t_ld h) ?_)); exact lds_nil) | omega) | refine u_bspT ?_ | refine u_bspF ?_)
      refine v_exI (hB.src.at h (i := 0) (j := 0) hv rfl (by simp [intE])) ?_
      repeat (first | (refine s_nwc h ?_; clear h; intro kb M h) | (refine s_stc h ?_; clear h; intro M h) | refine t_exI h ?_ | refine t_exB h ?_ | refine t_exS h ?_ | refine t_exP h ?_ | refine t_exSl h ?_ | refine t_exV h ?_ | refine u_exI ?_ | refine u_exB ?_ | refine u_exS ?_ | refine u_exP ?_ | refine u_exSl ?_ | refine u_exV ?_ | refine u_nilc ?_ | (apply Exists.intro; (repeat apply Exists.intro); refine And.intro rfl ?_) | (refine And.intro ?_ ?_; first | exact trivial | exact rfl | exact t_ld h | (refine lds_s (t_ld h) ?_; (repeat (refine lds_s (t_ld h) ?_)); exact lds_nil) | omega) | refine u_bspT ?_ | refine u_bspF ?_)
      try simp only [Int.toNat_natCast]
      refine ref08_join (a := []) h (Src.nil _ _) rfl (Src.suf1 hB.src hcap N) (by rw [List.length_drop]) (by simp; omega) ?_
      clear h
      intro A2 c2 M h
      repeat (first | (refine s_nwc h ?_; clear h; intro kb M h) | (refine s_stc h ?_; clear h; intro M h) | refine t_exI h ?_ | refine t_exB h ?_ | refine t_exS h ?_ | refine t_exP h ?_ | refine t_exSl h ?_ | refine t_exV h ?_ | refine u_exI ?_ | refine u_exB ?_ | refine u_exS ?_ | refine u_exP ?_ | refine u_exSl ?_ | refine u_exV ?_ | refine u_nilc ?_ | (apply Exists.intro; (repeat apply Exists.intro); refine And.intro rfl ?_) | (refine And.intro ?_ ?_; first | exact trivial | exact rfl | exact t_ld h | (refine lds_s (t_ld h) ?_; (repeat (refine lds_s (t_ld h) ?_)); exact lds_nil) | omega) | refine u_bspT ?_ | refine u_bspF ?_)
      refine ⟨hB.src.at h (i := 0) (j := 0) hv rfl (by simp [intE]), ?_⟩
      repeat (first | (refine s_nwc h ?_; clear h; intro kb M h) | (refine s_stc h ?_; clear h; intro M h) | refine t_exI h ?_ | refine t_exB h ?_ | refine t_exS h ?_ | refine t_exP h ?_ | refine t_exSl h ?_ | refine t_exV h ?_ | refine u_exI ?_ | refine u_exB ?_ | refine u_exS ?_ | refine u_exP ?_ | refine u_exSl ?_ | refine u_exV ?_ | refine u_nilc ?_ | (apply Exists.intro; (repeat apply Exists.intro); refine And.intro rfl ?_) | (refine And.intro ?_ ?_; first | exact trivial | exact rfl | exact t_ld h | (refine lds_s (t_ld h) ?_; (repeat (refine lds_s (t_ld h) ?_)); exact lds_nil) | omega) | refine u_bspT ?_ | refine u_bspF ?_)
      refine ⟨hB.src.at h (i := 0) (j := 0) hv rfl (by simp [intE]), ?_⟩
      repeat (first | (refine s_nwc h ?_; clear h; intro kb M h) | (refine s_stc h ?_; clear h; intro M h) | refine t_exI h ?_ | refine t_exB h ?_ | refine t_exS h ?_ | refine t_exP h ?_ | refine t_exSl h ?_ | refine t_exV h ?_ | refine u_exI ?_ | refine u_exB ?_ | refine u_exS ?_ | refine u_exP ?_ | refine u_exSl ?_ | refine u_exV ?_ | refine u_nilc ?_ | (apply Exists.intro; (repeat apply Exists.intro); refine And.intro rfl ?_) | (refine And.intro ?_ ?_; first | exact trivial | exact rfl | exact t_ld h | (refine lds_s (t_ld h) ?_; (repeat (refine lds_s (t_ld h) ?_)); exact lds_nil) | omega) | refine u_bspT ?_ | refine u_bspF ?_)
      have h' := h.sealRow A2
      clear h
      obtain ⟨R1, g1, s1, h⟩ := h'
      have h' := h.sealRow A1
      clear h
      obtain ⟨R2, g2, s2, h⟩ := h'
      exact k R2 _ _ _ _ _ (Mem.le_trans g1 g2) h.fin0 s2 (s1.le g2)

theorem ref08_Steal {A B : Option Addr} {c cb : Nat} (h : Hp R L M) (ok : x.Ok) (okf : f.Ok) (hA : RS intE R A c x.l) (hB : RS intE R B cb f.l)
    (k : ∀ R' A' c' B' cb' M', R.le R' → Hp R' L M' → RS intE R' A' c' (x.steal f).1.l → RS intE R' B' cb' (x.steal f).2.1.l →
      K (.tuple #[.agg #[.int .i64 (x.steal f).1.next, .slice A' (x.steal f).1.l.length c', .int .i64 ((x.steal f).1.room : Int)], .agg #[.int .i64 (x.steal f).2.1.next, .slice B' (x.steal f).2.1.l.length cb', .int .i64 ((x.steal f).2.1.room : Int)], .int .i64 (x.steal f).2.2]) M') :
    ACalls Try.prog 102 #[.agg #[.int .i64 x.next, .slice A x.l.length c, .int .i64 (x.room : Int)], .agg #[.int .i64 f.next, .slice B f.l.length cb, .int .i64 (f.room : Int)]] M K Kp := by
  obtain ⟨next, room, l⟩ := x
  obtain ⟨nextf, roomf, lf⟩ := f
  obtain ⟨ok1, ok2, ok3⟩ := ok
  obtain ⟨ok4, ok5, ok6⟩ := okf
  dsimp only at *
  refine vc_shunterref08_Steal ?_
  have hcap := hB.2
  repeat (first | (refine s_nwc h ?_; clear h; intro kb M h) | (refine s_stc h ?_; clear h; intro M h) | refine t_exI h ?_ | refine t_exB h ?_ | refine t_exS h ?_ | refine t_exP h ?_ | refine t_exSl h ?_ | refine t_exV h ?_ | refine u_exI ?_ | refine u_exB ?_ | refine u_exS ?_ | refine u_exP ?_ | refine u_exSl ?_ | refine u_exV ?_ | refine u_nilc ?_ | (apply Exists.intro; (repeat apply Exists.intro); refine And.intro rfl ?_) | (refine And.intro ?_ ?_; first | exact trivial | exact rfl | exact t_ld h | (refine lds_s (t_ld h) ?_; (repeat (refine lds_s (t_ld h) ?_)); exact lds_nil) | omega) | refine u_bspT ?_ | refine u_bspF ?_)
  refine bsp_eq.2 ⟨fun e => ?_, fun e => ?_⟩
  · have hl : lf = [] := List.length_eq_zero_iff.1 (by omega)
    subst hl
    have hp : (Loc.mk next room l).steal ⟨nextf, roomf, []⟩ = (⟨next, room, l⟩, ⟨-1, roomf, []⟩, nextf) := by unfold Loc.steal; rw [List.take_nil]
    rw [hp] at k
    dsimp only at k
    repeat (first | (refine s_nwc h ?_; clear h; intro kb M h) | (refine s_stc h ?_; clear h; intro M h) | refine t_exI h ?_ | refine t_exB h ?_ | refine t_exS h ?_ | refine t_exP h ?_ | refine t_exSl h ?_ | refine t_exV h ?_ | refine u_exI ?_ | refine u_exB ?_ | refine u_exS ?_ | refine u_exP ?_ | refine u_exSl ?_ | refine u_exV ?_ | refine u_nilc ?_ | (apply Exists.intro; (repeat apply Exists.intro); refine And.intro rfl ?_) | (refine And.intro ?_ ?_; first | exact trivial | exact rfl | exact t_ld h | (refine lds_s (t_ld h) ?_; (repeat (refine lds_s (t_ld h) ?_)); exact lds_nil) | omega) | refine u_bspT ?_ | refine u_bspF ?_)
    exact k R _ _ _ _ _ (Mem.le_refl R) h.fin0 hA hB
  · have hn0 : 1 ≤ (Loc.mk next room l).stealN ⟨nextf, roomf, lf⟩ := by unfold Loc.stealN; dsimp only; omega
    have hn1 : l.length + ((Loc.mk next room l).stealN ⟨nextf, roomf, lf⟩ - 1) ≤ room := by unfold Loc.stealN; dsimp only; omega
    have hn2 : (Loc.mk next room l).stealN ⟨nextf, roomf, lf⟩ ≤ lf.length := by unfold Loc.stealN; dsimp only; omega
    have hn : (if IntKind.wrap .i64 (IntKind.wrap .i64 ((room : Int) - (l.length : Int)) + 1) < IntKind.wrap .i64 (Int.tdiv (IntKind.wrap .i64 ((lf.length : Int) + 1)) 2) then IntKind.wrap .i64 (IntKind.wrap .i64 ((room : Int) - (l.length : Int)) + 1) else IntKind.wrap .i64 (Int.tdiv (IntKind.wrap .i64 ((lf.length : Int) + 1)) 2)) = (((Loc.mk next room l).stealN ⟨nextf, roomf, lf⟩ : Nat) : Int) := by
      have e2 : IntKind.wrap .i64 (Int.tdiv (((lf.length + 1 : Nat) : Int)) 2) = (((lf.length + 1) / 2 : Nat) : Int) := wn rfl (by omega)
      rw [wrap_succ (by omega), e2, wrap_in (n := (room : Int) - (l.length : Int)) (by omega) (by omega), wrap_in (n := (room : Int) - (l.length : Int) + 1) (by omega) (by omega)]
      unfold Loc.stealN
      dsimp only
      split <;> omega
    repeat (first | (refine s_nwc h ?_; clear h; intro kb M h) | (refine s_stc h ?_; clear h; intro M h) | refine t_exI h ?_ | refine t_exB h ?_ | refine t_exS h ?_ | refine t_exP h ?_ | refine t_exSl h ?_ | refine t_exV h ?_ | refine u_exI ?_ | refine u_exB ?_ | refine u_exS ?_ | refine u_exP ?_ | refine u_exSl ?_ | refine u_exV ?_ | refine u_nilc ?_ | (apply Exists.intro; (repeat apply Exists.intro); refine And.intro rfl ?_) | (refine And.intro ?_ ?_; first | exact trivial | exact rfl | exact t_ld h | (refine lds_s (t_ld h) ?_; (repeat (refine lds_s (t_ld h) ?_)); exact lds_nil) | omega) | refine u_bspT ?_ | refine u_bspF ?_)
    simp only [hn, Int.toNat_natCast]
    cases hg : lf.take ((Loc.mk next room l).stealN ⟨nextf, roomf, lf⟩) with
    | nil =>
      exfalso
      have := congrArg List.length hg
      rw [List.length_take, List.length_nil] at this
      omega
    | cons v out =>
      have hp : (Loc.mk next room l).steal ⟨nextf, roomf, lf⟩ = (⟨next, room, l ++ out⟩, ⟨nextf, roomf, lf.drop ((Loc.mk next room l).stealN ⟨nextf, roomf, lf⟩)⟩, v) := by unfold Loc.steal; dsimp only; rw [hg]
      rw [hp] at k
      dsimp only at k
      generalize (Loc.mk next room l).stealN ⟨nextf, roomf, lf⟩ = N at *
      have hol : out.length + 1 = N := by
        have := congrArg List.length hg
        rw [List.length_take, List.length_cons] at this
        omega
      have hv : lf[0]? = some v := by
        have := congrArg (fun l => l[0]?) hg
        simpa [List.getElem?_take, show 0 < N by omega] using this
      have s0 : ∀ L, Src R L (slA B 1 cb 1) (intE.cells out) := fun L => by
        have := Src.suf1 (c := cb) (L := L) (hB.src.takeE N) (by rw [List.length_take]; omega) 1
        rw [hg] at this
        exact this
      obtain ⟨b1, o1, rfl⟩ := hB.some (by omega) (by decide)
      repeat (first | (refine s_nwc h ?_; clear h; intro kb M h) | (refine s_stc h ?_; clear h; intro M h) | refine t_exI h ?_ | refine t_exB h ?_ | refine t_exS h ?_ | refine t_exP h ?_ | refine t_exSl h ?_ | refine t_exV h ?_ | refine u_exI ?_ | refine u_exB ?_ | refine u_exS ?_ | refine u_exP ?_ | refine u_exSl ?_ | refine u_exV ?_ | refine u_nilc ?_ | (apply Exists.intro; (repeat apply Exists.intro); refine And.intro rfl ?_) | (refine And.intro ?_ ?_; first | exact trivial | exact rfl | exact t_ld h | (refine lds_s (t_ld h) ?_; (repeat (refine lds_s (t_ld h) ?_)); exact lds_nil) | omega) | refine u_bspT ?_ | refine u_bspF ?_)
      refine ref08_join (c := out) h hA.src rfl (s0 _) (by omega) (by omega) ?_
      clear h
      intro A1 c1 M h
      repeat (first | (refine s_nwc h ?_; clear h; intro kb M h) | (refine s_stc h ?_; clear h; intro M h) | refine t_exI h ?_ | refine t_exB h ?_ | refine t_exS h ?_ | refine t_exP h ?_ | refine t_exSl h ?_ | refine t_exV h ?_ | refine u_exI ?_ | refine u_exB ?_ | refine u_exS ?_ | refine u_exP ?_ | refine u_exSl ?_ | refine u_exV ?_ | refine u_nilc ?_ | (apply Exists.intro; (repeat apply Exists.intro); refine And.intro rfl ?_) | (refine And.intro ?_ ?_; first | exact trivial | exact rfl | exact t_ld h | (refine lds_s (t_ld h) ?_; (repeat (refine lds_s (t_ld h) ?_)); exact lds_nil) | omega) | refine u_bspT ?_ | refine u_bspF ?_)
      try simp only [hn, Int.toNat_natCast]
      repeat (first | (refine s_nwc h ?_; clear h; intro kb M h) | (refine s_stc h ?_; clear h; intro M h) | refine t_exI h ?_ | refine t_exB h ?_ | refine t_exS h ?_ | refine t_exP h ?_ | refine t_exSl h ?_ | refine t_exV h ?_ | refine u_exI ?_ | refine u_exB ?_ | refine u_exS ?_ | refine u_exP ?_ | refine u_exSl ?_ | refine u_exV ?_ | refine u_nilc ?_ | (apply Exists.intro; (repeat apply Exists.intro); refine And.intro rfl ?_) | (refine And.intro ?_ ?_; first | exact trivial | exact rfl | exact t_ld h | (refine lds_s (t_ld h) ?_; (repeat (refine lds_s (t_ld h) ?_)); exact lds_nil) | omega) | refine u_bspT ?_ | refine u_bspF ?_)
      refine v_exI (hB.src.at h (i := 0) (j := 0) hv rfl (by simp [intE])) ?_
      repeat (first | (refine s_nwc h ?_; clear h; intro kb M h) | (refine s_stc h ?_; clear h; intro M h) | refine t_exI h ?_ | refine t_exB h ?_ | refine t_exS h ?_ | refine t_exP h ?_ | refine t_exSl h ?_ | refine t_exV h ?_ | refine u_exI ?_ | refine u_exB ?_ | refine u_exS ?_ | refine u_exP ?_ | refine u_exSl ?_ | refine u_exV ?_ | refine u_nilc ?_ | (apply Exists.intro; (repeat apply Exists.intro); refine And.intro rfl ?_) | (refine And.intro ?_ ?_; first | exact trivial | exact rfl | exact t_ld h | (refine lds_s (t_ld h) ?_; (repeat (refine lds_s (t_ld h) ?_)); exact lds_nil) | omega) | refine u_bspT ?_ | refine u_bspF ?_)
      try simp only [hn, Int.toNat_natCast]
      repeat (first | (refine s_nwc h ?_; clear h; intro kb M h) | (refine s_stc h ?_; clear h; intro M h) | refine t_exI h ?_ | refine t_exB h ?_ | refine t_exS h ?_ | refine t_exP h ?_ | refine t_exSl h ?_ | refine t_exV h ?_ | refine u_exI ?_ | refine u_exB ?_ | refine u_exS ?_ | refine u_exP ?_ | refine u_exSl ?_ | refine u_exV ?_ | refine u_nilc ?_ | (apply Exists.intro; (repeat apply Exists.intro); refine And.intro rfl ?_) | (refine And.intro ?_ ?_; first | exact trivial | exact rfl | exact t_ld h | (refine lds_s (t_ld h) ?_; (repeat (refine lds_s (t_ld h) ?_)); exact lds_nil) | omega) | refine u_bspT ?_ | refine u_bspF ?_)
      refine ref08_join (a := []) h (Src.nil _ _) rfl (Src.suf1 hB.src hcap N) (by rw [List.length_drop]) (by simp; omega) ?_
      clear h
      intro A2 c2 M h
      repeat (first | (refine s_nwc h ?_; clear h; intro kb M h) | (refine s_stc h ?_; clear h; intro M h) | refine t_exI h ?_ | refine t_exB h ?_ | refine t_exS h ?_ | refine t_exP h ?_ | refine t_exSl h ?_ | refine t_exV h ?_ | refine u_exI ?_ | refine u_exB ?_ | refine u_exS ?_ | refine u_exP ?_ | refine u_exSl ?_ | refine u_exV ?_ | refine u_nilc ?_ | (apply Exists.intro; (repeat apply Exists.intro); refine And.intro rfl ?_) | (refine And.intro ?_ ?_; first | exact trivial | exact rfl | exact t_ld h | (refine lds_s (t_ld h) ?_; (repeat (refine lds_s (t_ld h) ?_)); exact lds_nil) | omega) | refine u_bspT ?_ | refine u_bspF ?_)
      have h' := h.sealRow A2
      clear h
      obtain ⟨R1, g1, s1, h⟩ := h'
      have h' := h.sealRow A1
      clear h
      obtain ⟨R2, g2, s2, h⟩ := h'
      exact k R2 _ _ _ _ _ (Mem.le_trans g1 g2) h.fin0 s2 (s1.le g2)
end
end Go.Proofs
