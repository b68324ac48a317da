/- A part of proofs about functions of one program: a condition over a partial memory that is enough for a call, and what calls answer by it. No condition of its own. -/
import Derived.Test.YtfjgcljdnhkmaaaFr
/- Stacks, locks: the program's. -/
namespace Go.Proofs
open Go.AF
set_option linter.unusedVariables false
set_option maxRecDepth 100000
set_option maxHeartbeats 1000000
attribute [local irreducible] exI exB exS exP exSl exV nilc stc nwc semK semU bsp
section
variable {R : Mem} {L L' : List HP} {M : Mem} {K : Value → Mem → Prop} {Kp : List PanicEntry → Mem → Prop} {b i c : Nat} {l : List Frm} {f : Frm} {x : Ins}
theorem frame_Top {m : Nat} (hm : 0 < m) (h2 : m ≤ 1000000000) (k : K (.pointer (some ⟨b, (m - 1) * 11, none⟩)) M) : ACalls Try.prog 11 #[.slice (some ⟨b, 0, none⟩) m c] M K Kp := by
  refine vc_frame_Stack_Top ?_
  have e : IntKind.wrap .i64 ((m : Int) - 1) = ((m - 1 : Nat) : Int) := wn (by omega) (by omega)
  refine bsp_eq.2 ⟨fun h0 => by omega, fun _ => ?_⟩
  rw [e]
  refine ⟨by omega, by omega, u_nilc ?_⟩
  simp only [Int.toNat_natCast, Nat.zero_add]
  exact k
theorem frame_Begin {fn v : Int} (h : Hp R L M) (k : ∀ b M', Hp R (rowF (some ⟨b, 0, none⟩) 1 [Frm.begin fn v] :: L) M' → K (.slice (some ⟨b, 0, none⟩) 1 1) M') : ACalls Try.prog 22 #[.int .i64 fn, .int .i64 v] M K Kp := by
  refine vc_frame_Begin ?_
  refine s_nwc h ?_
  clear h
  intro b M h
  exact k b M (h.row_pt (E := frmE) (l := [Frm.begin fn v]) rfl)
theorem frame_Call {fn v into : Int} {A : Option Addr} (h : Hp R L M) [p : RowAt A L Frm frmE 53 c l L'] (hl : 0 < l.length)
    (k1 : 16 ≤ l.length → K (.tuple #[.slice A l.length c, .bool false]) M)
    (k2 : l.length < 16 → ∀ b c' M', Hp R (rowF (some ⟨b, 0, none⟩) c' (l ++ [⟨fn, 0, [v, 0, 0, 0, 0, 0, 0, 0], into⟩]) :: L) M' → K (.tuple #[.slice (some ⟨b, 0, none⟩) (l.length + 1) c', .bool true]) M') :
    ACalls Try.prog 76 #[.slice A l.length c, .int .i64 fn, .int .i64 v, .int .i64 into] M K Kp := by
  refine vc_frame_Stack_Call ?_
  have hcap := h.row_le A
  refine bsp_dec.2 ⟨fun h16 => k1 (by omega), fun h16 => ?_⟩
  refine ⟨by omega, by omega, by omega, by omega, by omega, by omega, ?_⟩
  refine s_nwc h ?_
  clear h
  intro kb M h
  simp only [Int.toNat_natCast, Nat.sub_zero]
  have e : slA A 0 l.length 11 = A := by
    obtain ⟨bb, rfl⟩ := h.row_some (A := A) hl (by decide)
    unfold slA
    rw [if_neg (by omega)]
    rfl
  rw [e]
  refine Hp.appendF (E := frmE) (r := [⟨fn, 0, [v, 0, 0, 0, 0, 0, 0, 0], into⟩]) h (h.src (A := A)) rfl el_frm rfl rfl (by omega) (by simp; omega) ?_
  clear h
  intro b c' M h
  refine u_exSl ?_
  have := k2 (by omega) b c' M h
  rwa [List.length_append]
theorem frame_Return {v : Int} {A : Option Addr} (h : Hp R L M) [p : RowAt A L Frm frmE 53 c l L'] (hl : 0 < l.length) (hs : l.length ≤ 1000000)
    (hlast : l[l.length - 1]? = some f) (hin : isReg f.into)
    (k1 : l.length < 2 → K (.tuple #[.slice none 0 0, .bool false]) M)
    (k2 : 2 ≤ l.length → ∀ b c' M', ∀ g, l[l.length - 2]? = some g → Hp R (rowF (some ⟨b, 0, none⟩) c' ((l.take (l.length - 1)).set (l.length - 2) (g.set f.into v)) :: L) M' → K (.tuple #[.slice (some ⟨b, 0, none⟩) (l.length - 1) c', .bool true]) M') :
    ACalls Try.prog 77 #[.slice A l.length c, .int .i64 v] M K Kp := by
  refine vc_frame_Stack_Return ?_
  have hcap := h.row_le A
  refine bsp_dec.2 ⟨fun h16 => k1 (by omega), fun h16 => ?_⟩
  have e : IntKind.wrap .i64 ((l.length : Int) - 1) = ((l.length - 1 : Nat) : Int) := wn (by omega) (by omega)
  obtain ⟨ba, rfl⟩ := h.row_some (A := A) hl (by decide)
  refine s_nwc h ?_
  clear h
  intro kb M h
  rw [e]
  refine ⟨by omega, by omega, by omega, by omega, by omega, by omega, ?_⟩
  simp only [Int.toNat_natCast, Nat.sub_zero]
  have e2 : slA (some ⟨ba, 0, none⟩) 0 c 11 = some ⟨ba, 0, none⟩ := by
    unfold slA
    rw [if_neg (by omega)]
    rfl
  rw [e2]
  refine h.rowCopy frmE el_frm (l.take (l.length - 1)) ((h.src (A := some ⟨ba, 0, none⟩)).takeE _) (by simp) (by simp; omega) ?_
  clear h
  intro A' c' M h
  have hlen : (l.take (l.length - 1)).length = l.length - 1 := by simp
  obtain ⟨b', rfl⟩ := h.row_some (A := A') (by omega) (by decide)
  refine u_exSl ?_
  rw [hlen]
  refine frame_Top (by omega) (by omega) ?_
  refine u_exP (u_nilc ?_)
  refine frame_Top (by omega) (by omega) ?_
  refine u_exP (u_nilc ?_)
  refine v_exI (Src.at (h.src (A := some ⟨ba, 0, none⟩)) h (i := l.length - 1) (j := 10) hlast rfl (by show _ = 0 + ((l.length - 1) * 11 + 10); omega)) ?_
  obtain ⟨g, hg⟩ := idx_ex (l := l) (i := l.length - 2) (by omega)
  refine ⟨hin.1, hin.2, ?_⟩
  have hg2 : (l.take (l.length - 1))[l.length - 2]? = some g := by rw [List.getElem?_take, if_pos (by omega)]; exact hg
  refine f_st h hg2 hin (by omega) ?_
  clear h
  intro M h
  exact k2 (by omega) b' c' M g hg h
theorem frame_Clone {B : Option Addr} {m cc : Nat} (h : Hp R L M) (hB : Src R L B (frmE.cells l)) (hm : m = l.length) (hs : l.length ≤ 1000000)
    (k : ∀ A' c' M', Hp R (rowF A' c' l :: L) M' → K (.slice A' l.length c') M') : ACalls Try.prog 26 #[.slice B m cc] M K Kp := by
  refine vc_frame_Stack_Clone ?_
  have h2 := h.row_nil frmE 53
  refine h2.rowAppend (l := []) el_frm hB.cons hm (by simp; omega) ?_
  intro A' c' M' h
  exact u_exSl (k A' c' M' h)

/-- A lock stands at b. -/
abbrev rowI (A : Option Addr) (c : Nat) (l : List Int) : HP := rowP intE 3 A c l
def lockR : Rep Lk := ⟨fun b x => exs fun A : Option Addr => exs fun c : Nat => sep [pt b [.int .i64 x.owner, .slice A x.waits.length c] 91, rowI A c x.waits]⟩
def Lk.take (x : Lk) (g : Int) : Lk × Bool := if x.owner = -1 then (⟨g, x.waits⟩, true) else (⟨x.owner, x.waits ++ [g]⟩, false)
def Lk.give (x : Lk) (g : Int) : Lk × Int × Int :=
  if x.owner = -1 ∨ x.owner ≠ g then (x, -1, 5) else (⟨x.waits.headD (-1), x.waits.tail⟩, x.waits.headD (-1), 0)
variable {y : Lk}
theorem lock_open (h : Hp R L M) [o : ObjAt lockR b L y L'] : ∃ A c, Hp R (pt b [.int .i64 y.owner, .slice A y.waits.length c] 91 :: rowI A c y.waits :: L') M := by
  have := h.obj lockR b
  simpa only [lockR, Hp.ex_iff, Hp.sep_iff, List.cons_append, List.nil_append] using this
theorem lock_close {A : Option Addr} {n c : Nat} {o : Int} {ws : List Int} {L1 L2 : List HP} (h : Hp R L M) (b : Nat) [p : PtAt b L [.int .i64 o, .slice A n c] 91 L1] [p1 : RowAt A L1 Int intE 3 c ws L2] (e : n = ws.length := by first | rfl | simp) : Hp R (objP lockR b ⟨o, ws⟩ :: L2) M := by
  subst e
  refine Hp.objI ?_
  simp only [lockR, Hp.ex_iff, Hp.sep_iff, List.cons_append, List.nil_append]
  exact ⟨_, _, h.sub (.cons p.pick (.cons p1.pick .refl))⟩
theorem locks_New (h : Hp R L M) (k : ∀ b M', Hp R (objP lockR b ⟨-1, []⟩ :: L) M' → K (.pointer (some ⟨b, 0, none⟩)) M') : ACalls Try.prog 24 #[] M K Kp := by
  refine vc_locks_New ?_
  refine s_nwc h ?_
  clear h
  intro b M h
  have h := h.row_nil intE 3
  exact k b M (lock_close h b)
theorem locks_Take {g : Int} (h : Hp R L M) [o : ObjAt lockR b L y L'] (hs : y.waits.length ≤ 1000000000) (k : ∀ M', Hp R (objP lockR b (y.take g).1 :: L') M' → K (.bool (y.take g).2) M') :
    ACalls Try.prog 80 #[.pointer (some ⟨b, 0, none⟩), .int .i64 g] M K Kp := by
  refine vc_locks_Lock_Take ?_
  have h' := lock_open h (b := b)
  clear h
  obtain ⟨A, c, h⟩ := h'
  repeat (first | (refine s_nwc h ?_; clear h; intro kb M h) | (refine s_stc h ?_; clear h; intro M h) | refine t_exI h ?_ | refine t_exB h ?_ | refine t_exS h ?_ | refine t_exP h ?_ | refine t_exSl h ?_ | refine t_exV h ?_ | refine u_exI ?_ | refine u_exB ?_ | refine u_exS ?_ | refine u_exP ?_ | refine u_exSl ?_ | refine u_exV ?_ | refine u_nilc ?_ | (apply Exists.intro; (repeat apply Exists.intro); refine And.intro rfl ?_) | (refine And.intro ?_ ?_; first | exact trivial | exact rfl | exact t_ld h | (refine lds_s (t_ld h) ?_; (repeat (refine lds_s (t_ld h) ?_)); exact lds_nil) | omega) | refine u_bspT ?_ | refine u_bspF ?_)
  unfold Lk.take at k
  refine bsp_ne.2 ⟨fun hn => ?_, fun hn => ?_⟩
  · rw [if_neg hn] at k
    repeat (first | (refine s_nwc h ?_; clear h; intro kb M h) | (refine s_stc h ?_; clear h; intro M h) | refine t_exI h ?_ | refine t_exB h ?_ | refine t_exS h ?_ | refine t_exP h ?_ | refine t_exSl h ?_ | refine t_exV h ?_ | refine u_exI ?_ | refine u_exB ?_ | refine u_exS ?_ | refine u_exP ?_ | refine u_exSl ?_ | refine u_exV ?_ | refine u_nilc ?_ | (apply Exists.intro; (repeat apply Exists.intro); refine And.intro rfl ?_) | (refine And.intro ?_ ?_; first | exact trivial | exact rfl | exact t_ld h | (refine lds_s (t_ld h) ?_; (repeat (refine lds_s (t_ld h) ?_)); exact lds_nil) | omega) | refine u_bspT ?_ | refine u_bspF ?_)
    refine h.rowAppend1 el_int [g] rfl rfl (by simp; omega) ?_
    clear h
    intro A' c' M h
    repeat (first | (refine s_nwc h ?_; clear h; intro kb M h) | (refine s_stc h ?_; clear h; intro M h) | refine t_exI h ?_ | refine t_exB h ?_ | refine t_exS h ?_ | refine t_exP h ?_ | refine t_exSl h ?_ | refine t_exV h ?_ | refine u_exI ?_ | refine u_exB ?_ | refine u_exS ?_ | refine u_exP ?_ | refine u_exSl ?_ | refine u_exV ?_ | refine u_nilc ?_ | (apply Exists.intro; (repeat apply Exists.intro); refine And.intro rfl ?_) | (refine And.intro ?_ ?_; first | exact trivial | exact rfl | exact t_ld h | (refine lds_s (t_ld h) ?_; (repeat (refine lds_s (t_ld h) ?_)); exact lds_nil) | omega) | refine u_bspT ?_ | refine u_bspF ?_)
    exact k _ (lock_close h b).fin1
  · rw [if_pos hn] at k
    repeat (first | (refine s_nwc h ?_; clear h; intro kb M h) | (refine s_stc h ?_; clear h; intro M h) | refine t_exI h ?_ | refine t_exB h ?_ | refine t_exS h ?_ | refine t_exP h ?_ | refine t_exSl h ?_ | refine t_exV h ?_ | refine u_exI ?_ | refine u_exB ?_ | refine u_exS ?_ | refine u_exP ?_ | refine u_exSl ?_ | refine u_exV ?_ | refine u_nilc ?_ | (apply Exists.intro; (repeat apply Exists.intro); refine And.intro rfl ?_) | (refine And.intro ?_ ?_; first | exact trivial | exact rfl | exact t_ld h | (refine lds_s (t_ld h) ?_; (repeat (refine lds_s (t_ld h) ?_)); exact lds_nil) | omega) | refine u_bspT ?_ | refine u_bspF ?_)
    exact k _ (lock_close h b).fin1
theorem locks_Give {g : Int} (h : Hp R L M) [o : ObjAt lockR b L y L'] (hs : y.waits.length ≤ 1000000000) (k : ∀ M', Hp R (objP lockR b (y.give g).1 :: L') M' → K (.tuple #[.int .i64 (y.give g).2.1, .int .i64 (y.give g).2.2]) M') :
    ACalls Try.prog 81 #[.pointer (some ⟨b, 0, none⟩), .int .i64 g] M K Kp := by
  refine vc_locks_Lock_Give ?_
  obtain ⟨ow, ws⟩ := y
  have h' := lock_open h (b := b)
  clear h
  obtain ⟨A, c, h⟩ := h'
  dsimp only at h hs
  repeat (first | (refine s_nwc h ?_; clear h; intro kb M h) | (refine s_stc h ?_; clear h; intro M h) | refine t_exI h ?_ | refine t_exB h ?_ | refine t_exS h ?_ | refine t_exP h ?_ | refine t_exSl h ?_ | refine t_exV h ?_ | refine u_exI ?_ | refine u_exB ?_ | refine u_exS ?_ | refine u_exP ?_ | refine u_exSl ?_ | refine u_exV ?_ | refine u_nilc ?_ | (apply Exists.intro; (repeat apply Exists.intro); refine And.intro rfl ?_) | (refine And.intro ?_ ?_; first | exact trivial | exact rfl | exact t_ld h | (refine lds_s (t_ld h) ?_; (repeat (refine lds_s (t_ld h) ?_)); exact lds_nil) | omega) | refine u_bspT ?_ | refine u_bspF ?_)
  unfold Lk.give at k
  refine bsp_eq.2 ⟨fun hn => ?_, fun hn => ?_⟩
  · rw [if_pos (.inl hn)] at k
    exact k _ (lock_close h b).fin1
  repeat (first | (refine s_nwc h ?_; clear h; intro kb M h) | (refine s_stc h ?_; clear h; intro M h) | refine t_exI h ?_ | refine t_exB h ?_ | refine t_exS h ?_ | refine t_exP h ?_ | refine t_exSl h ?_ | refine t_exV h ?_ | refine u_exI ?_ | refine u_exB ?_ | refine u_exS ?_ | refine u_exP ?_ | refine u_exSl ?_ | refine u_exV ?_ | refine u_nilc ?_ | (apply Exists.intro; (repeat apply Exists.intro); refine And.intro rfl ?_) | (refine And.intro ?_ ?_; first | exact trivial | exact rfl | exact t_ld h | (refine lds_s (t_ld h) ?_; (repeat (refine lds_s (t_ld h) ?_)); exact lds_nil) | omega) | refine u_bspT ?_ | refine u_bspF ?_)
  refine bsp_ne.2 ⟨fun hn2 => ?_, fun hn2 => ?_⟩
  · rw [if_pos (.inr hn2)] at k
    exact k _ (lock_close h b).fin1
  rw [if_neg (by rintro (h | h) <;> contradiction)] at k
  repeat (first | (refine s_nwc h ?_; clear h; intro kb M h) | (refine s_stc h ?_; clear h; intro M h) | refine t_exI h ?_ | refine t_exB h ?_ | refine t_exS h ?_ | refine t_exP h ?_ | refine t_exSl h ?_ | refine t_exV h ?_ | refine u_exI ?_ | refine u_exB ?_ | refine u_exS ?_ | refine u_exP ?_ | refine u_exSl ?_ | refine u_exV ?_ | refine u_nilc ?_ | (apply Exists.intro; (repeat apply Exists.intro); refine And.intro rfl ?_) | (refine And.intro ?_ ?_; first | exact trivial | exact rfl | exact t_ld h | (refine lds_s (t_ld h) ?_; (repeat (refine lds_s (t_ld h) ?_)); exact lds_nil) | omega) | refine u_bspT ?_ | refine u_bspF ?_)
  refine bsp_dec.2 ⟨fun hr => ?_, fun hr => ?_⟩
  · cases ws with
    | nil => simp at hr
    | cons w r =>
      repeat (first | (refine s_nwc h ?_; clear h; intro kb M h) | (refine s_stc h ?_; clear h; intro M h) | refine t_exI h ?_ | refine t_exB h ?_ | refine t_exS h ?_ | refine t_exP h ?_ | refine t_exSl h ?_ | refine t_exV h ?_ | refine u_exI ?_ | refine u_exB ?_ | refine u_exS ?_ | refine u_exP ?_ | refine u_exSl ?_ | refine u_exV ?_ | refine u_nilc ?_ | (apply Exists.intro; (repeat apply Exists.intro); refine And.intro rfl ?_) | (refine And.intro ?_ ?_; first | exact trivial | exact rfl | exact t_ld h | (refine lds_s (t_ld h) ?_; (repeat (refine lds_s (t_ld h) ?_)); exact lds_nil) | omega) | refine u_bspT ?_ | refine u_bspF ?_)
      obtain ⟨q, rfl⟩ := h.row_some (A := A) (by simp) (by decide)
      repeat (first | (refine s_nwc h ?_; clear h; intro kb M h) | (refine s_stc h ?_; clear h; intro M h) | refine t_exI h ?_ | refine t_exB h ?_ | refine t_exS h ?_ | refine t_exP h ?_ | refine t_exSl h ?_ | refine t_exV h ?_ | refine u_exI ?_ | refine u_exB ?_ | refine u_exS ?_ | refine u_exP ?_ | refine u_exSl ?_ | refine u_exV ?_ | refine u_nilc ?_ | (apply Exists.intro; (repeat apply Exists.intro); refine And.intro rfl ?_) | (refine And.intro ?_ ?_; first | exact trivial | exact rfl | exact t_ld h | (refine lds_s (t_ld h) ?_; (repeat (refine lds_s (t_ld h) ?_)); exact lds_nil) | omega) | refine u_bspT ?_ | refine u_bspF ?_)
      refine v_exI (Src.at (h.src (A := some ⟨q, 0, none⟩)) h (i := 0) (j := 0) rfl rfl (by simp [intE])) ?_
      have hcap := h.row_le (some ⟨q, 0, none⟩)
      have hlen : r.length + 1 ≤ 1000000000 := by simpa using hs
      repeat (first | (refine s_nwc h ?_; clear h; intro kb M h) | (refine s_stc h ?_; clear h; intro M h) | refine t_exI h ?_ | refine t_exB h ?_ | refine t_exS h ?_ | refine t_exP h ?_ | refine t_exSl h ?_ | refine t_exV h ?_ | refine u_exI ?_ | refine u_exB ?_ | refine u_exS ?_ | refine u_exP ?_ | refine u_exSl ?_ | refine u_exV ?_ | refine u_nilc ?_ | (apply Exists.intro; (repeat apply Exists.intro); refine And.intro rfl ?_) | (refine And.intro ?_ ?_; first | exact trivial | exact rfl | exact t_ld h | (refine lds_s (t_ld h) ?_; (repeat (refine lds_s (t_ld h) ?_)); exact lds_nil) | omega) | refine u_bspT ?_ | refine u_bspF ?_)
      simp only [Int.toNat_natCast]
      refine h.rowCopy intE el_int r ((h.src (A := some ⟨q, 0, none⟩)).drop (m := 1) hcap) (by simp) (by omega) ?_
      clear h
      intro A' c' M h
      repeat (first | (refine s_nwc h ?_; clear h; intro kb M h) | (refine s_stc h ?_; clear h; intro M h) | refine t_exI h ?_ | refine t_exB h ?_ | refine t_exS h ?_ | refine t_exP h ?_ | refine t_exSl h ?_ | refine t_exV h ?_ | refine u_exI ?_ | refine u_exB ?_ | refine u_exS ?_ | refine u_exP ?_ | refine u_exSl ?_ | refine u_exV ?_ | refine u_nilc ?_ | (apply Exists.intro; (repeat apply Exists.intro); refine And.intro rfl ?_) | (refine And.intro ?_ ?_; first | exact trivial | exact rfl | exact t_ld h | (refine lds_s (t_ld h) ?_; (repeat (refine lds_s (t_ld h) ?_)); exact lds_nil) | omega) | refine u_bspT ?_ | refine u_bspF ?_)
      exact k _ (lock_close h b).fin1
  · cases ws with
    | cons v l => simp at hr
    | nil =>
      repeat (first | (refine s_nwc h ?_; clear h; intro kb M h) | (refine s_stc h ?_; clear h; intro M h) | refine t_exI h ?_ | refine t_exB h ?_ | refine t_exS h ?_ | refine t_exP h ?_ | refine t_exSl h ?_ | refine t_exV h ?_ | refine u_exI ?_ | refine u_exB ?_ | refine u_exS ?_ | refine u_exP ?_ | refine u_exSl ?_ | refine u_exV ?_ | refine u_nilc ?_ | (apply Exists.intro; (repeat apply Exists.intro); refine And.intro rfl ?_) | (refine And.intro ?_ ?_; first | exact trivial | exact rfl | exact t_ld h | (refine lds_s (t_ld h) ?_; (repeat (refine lds_s (t_ld h) ?_)); exact lds_nil) | omega) | refine u_bspT ?_ | refine u_bspF ?_)
      exact k _ (lock_close h b).fin1
end
end Go.Proofs
